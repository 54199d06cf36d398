/-
  The empty slice in the book.
-/
import Derived.Test.YtomidnkcohkhfaaGreatDoorK12
namespace Go.Ax
variable {P : Program} {G K : Mem} {ρ : Place} {H H' : Heap} {w w' : World} {env : Env} {a : Act} {n : Nat}
abbrev AV.nl : AV := .val (.slice none 0 0)
theorem fit_le {n b : Nat} (hb : Nat.ble b 1000 = true) (h : n ≤ 100000000000) : n * b ≤ 140737488355328 :=
  Nat.le_trans (Nat.mul_le_mul h (Nat.le_of_ble_eq_true hb)) (by decide)
section ops
variable {d : Option Tmp} {ty : TypeId} {pos : String} {after : Array Edge} {gu : Option (Nat × Bool)} {av : AV}
theorem XOp.lenNil (T : Tab P) {x : Operand} {t u : TypeId} {i : TI} (hx : opndO env x = some (.val (.slice none 0 0))) (hT : tyAt T.l t = some i) (hs : i.d = .slice u) :
    XOp P G env H ⟨d, .call ⟨.builtin .len, ⟨[x]⟩, ⟨[t]⟩⟩, ty, pos, after, gu⟩ (.val (.int .i64 0)) H := by
  refine XOp.of_run1 hx (fun _ _ => rfl) fun K ρ w a h1 => ?_
  simp only [rel] at h1
  have hd := (T.is hT).desc
  rw [hs] at hd
  refine ⟨.int .i64 0, w, ?_, Alike.refl w, rfl⟩
  simp [execOp, resolve, invoke, builtin, Builtin.len_, h1, underlying, show P.underlying t = some (.slice u) from hd, goInt]
end ops
end Go.Ax
