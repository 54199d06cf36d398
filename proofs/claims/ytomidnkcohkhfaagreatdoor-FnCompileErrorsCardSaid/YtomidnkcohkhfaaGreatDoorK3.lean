/-
  Small facts that the walk's simplifier wants.
-/
import Derived.Test.YtomidnkcohkhfaaGreatDoorK2
import Derived.KernelRfl
namespace Go.Ax
def tdB (P : Program) (t : Nat) (d : TD) : Bool :=
  match d, P.underlying t with
  | .int k, some (.int k') => decide (k = k')
  | .flt k, some (.float k') => decide (k = k')
  | .bool, some .bool => true
  | .str, some .string => true
  | .ptr e, some (.pointer e') => Nat.beq e e'
  | .slice e, some (.slice e') => Nat.beq e e'
  | .arr n e, some (.array n' e') => Nat.beq n n' && Nat.beq e e'
  | .st fs, some (.struct fields) => decide (fields.toList.map (fun f => (f.offset, f.type)) = fs)
  | .other, some (.struct _) => false
  | .other, some (.array _ _) => false
  | .other, some _ => true
  | _, _ => false
theorem tdB_ok {P : Program} {t : Nat} {d : TD} (h : tdB P t d = true) : TDIs P t d := by
  unfold tdB at h
  unfold TDIs
  split at h
  · rename_i e; simp at h; subst h; exact e
  · rename_i e; simp at h; subst h; exact e
  · assumption
  · assumption
  · rename_i e; have := Nat.eq_of_beq_eq_true h; subst this; exact e
  · rename_i e; have := Nat.eq_of_beq_eq_true h; subst this; exact e
  · rename_i e
    simp only [Bool.and_eq_true] at h
    have h1 := Nat.eq_of_beq_eq_true h.1
    have h2 := Nat.eq_of_beq_eq_true h.2
    subst h1 h2; exact e
  · rename_i e; exact ⟨_, e, by simpa using h⟩
  · cases h
  · cases h
  · rename_i d' h1 h2 e
    refine ⟨d', e, ?_⟩
    cases d' <;> first | rfl | (exact absurd rfl (h1 _)) | (exact absurd rfl (h2 _ _))
  · cases h
theorem TyIs.mk' {P : Program} {t : Nat} {i : TI} (h : (P.info? t).map (fun j => (j.size, j.bytes, j.zero)) = some (i.size, i.bytes, some (if i.agg then .agg ⟨i.zero.map zval⟩ else (zval (i.zero.headD .any)))))
    (hl : i.zero.length = i.size) (hz : i.zero.all Ax.zok = true) (h1 : i.agg = false → i.size = 1) (hd : tdB P t i.d = true) : TyIs P t i := by
  refine ⟨?_, hl, hz, h1, tdB_ok hd⟩
  simp only [Option.map_eq_some_iff, Prod.mk.injEq] at h
  obtain ⟨j, k1, k2, k3, k4⟩ := h
  exact ⟨j, k1, k2, k3, k4⟩
end Go.Ax
