/-
  Strings in the book.
-/
import Derived.Test.YtomidnkcohkhfaaGreatDoorK5
import Derived.Laws.Strings
import Derived.Laws.Strings2
import Derived.Laws.Concat
namespace Go.Ax

variable {P : Program} {G K : Mem} {ρ : Place} {H H' : Heap} {w w' : World} {env : Env} {a : Act} {n : Nat}
abbrev str (l : List UInt8) : ByteArray := ⟨l.toArray⟩
theorem str_toList (s : ByteArray) : str s.data.toList = s := by cases s; rfl
theorem str_inj {a b : List UInt8} (h : str a = str b) : a = b := by
  have := congrArg (fun s : ByteArray => s.data.toList) h
  simpa using this
theorem str_size (l : List UInt8) : (str l).size = l.length := by simp [ByteArray.size]

theorem TyIs.some {P : Program} {t : Nat} {i : TI} (h : TyIs P t i) : ∃ ds, P.underlying t = some ds := by
  have := h.desc
  unfold TDIs at this
  cases hk : i.d <;> rw [hk] at this <;> simp only [] at this <;> first | exact ⟨_, this⟩ | (obtain ⟨x, h, _⟩ := this; exact ⟨_, h⟩)
theorem Tab.desc {P : Program} (T : Tab P) {t : Nat} {i : TI} {d : TD} (h : tyAt T.l t = some i) (hd : i.d = d) : TDIs P t d := by
  rw [← hd]; exact (T.is h).desc

section ops
variable {d : Option Tmp} {ty : TypeId} {pos : String} {after : Array Edge} {gu : Option (Nat × Bool)} {av : AV}

theorem XOp.idiv {op : BinOp} {k : IntKind} {x y : Operand} {t u : TypeId} {m n c : Int} (hx : opndO env x = some (.val (.int k m))) (hy : opndO env y = some (.val (.int k n)))
    (hn : n ≠ 0) (h : (match op with | .quo => some (k.wrap (m.tdiv n)) | .rem => some (m.tmod n) | _ => none) = some c) :
    XOp P G env H ⟨d, .binOp op t x y u, ty, pos, after, gu⟩ (.val (.int k c)) H := by
  refine XOp.of_run2 hx hy (fun _ _ _ => rfl) fun K ρ w a h1 h2 => ?_
  simp only [rel] at h1 h2
  refine ⟨.int k c, w, ?_, Alike.refl w, rfl⟩
  cases op <;> simp only [reduceCtorEq] at h <;> cases h <;> simp [execOp, h1, h2, eqGuard_at_int, binOp, Op.intDiv, hn]
theorem XOp.rem0 {k : IntKind} {x y : Operand} {t u : TypeId} {m n : Int} (hx : opndO env x = some (.val (.int k m))) (hy : opndO env y = some (.val (.int k n)))
    (hm : 0 ≤ m) (hn : 0 < n) : XOp P G env H ⟨d, .binOp .rem t x y u, ty, pos, after, gu⟩ (.val (.int k (m % n))) H :=
  XOp.idiv hx hy (by omega) (by rw [Int.tmod_eq_emod_of_nonneg hm])
theorem XOp.quo0 {k : IntKind} {x y : Operand} {t u : TypeId} {m n : Int} (hx : opndO env x = some (.val (.int k m))) (hy : opndO env y = some (.val (.int k n)))
    (hm : 0 ≤ m) (hn : 0 < n) (hr : k.InR (m / n)) : XOp P G env H ⟨d, .binOp .quo t x y u, ty, pos, after, gu⟩ (.val (.int k (m / n))) H :=
  XOp.idiv hx hy (by omega) (by rw [Int.tdiv_eq_ediv_of_nonneg hm, wrap_in hr])

def ibits (op : BinOp) (k : IntKind) (m n : Int) : Int :=
  let a := BitVec.ofInt k.bits m
  let b := BitVec.ofInt k.bits n
  match op with
  | .and => k.wrap ((a &&& b).toNat)
  | .or => k.wrap ((a ||| b).toNat)
  | .xor => k.wrap ((a ^^^ b).toNat)
  | .andNot => k.wrap ((a &&& ~~~b).toNat)
  | _ => 0
def isBits : BinOp → Bool
  | .and | .or | .xor | .andNot => true
  | _ => false
theorem XOp.ibits {op : BinOp} {k : IntKind} {x y : Operand} {t u : TypeId} {m n c : Int} (ho : isBits op = true) (hx : opndO env x = some (.val (.int k m))) (hy : opndO env y = some (.val (.int k n))) (hc : ibits op k m n = c) :
    XOp P G env H ⟨d, .binOp op t x y u, ty, pos, after, gu⟩ (.val (.int k c)) H := by
  subst hc
  refine XOp.of_run2 hx hy (fun _ _ _ => rfl) fun K ρ w a h1 h2 => ?_
  simp only [rel] at h1 h2
  refine ⟨_, w, ?_, Alike.refl w, rfl⟩
  cases op <;> simp only [isBits, Bool.false_eq_true] at ho <;> simp [execOp, h1, h2, eqGuard_at_int, binOp, Op.intBits, Ax.ibits]
theorem XOp.shl {k k' : IntKind} {x y : Operand} {t u : TypeId} {m n c : Int} (hx : opndO env x = some (.val (.int k m))) (hy : opndO env y = some (.val (.int k' n))) (hn : 0 ≤ n) (hc : k.wrap (m * 2 ^ (min n.toNat k.bits)) = c) :
    XOp P G env H ⟨d, .binOp .shl t x y u, ty, pos, after, gu⟩ (.val (.int k c)) H := by
  subst hc
  refine XOp.of_run2 hx hy (fun _ _ _ => rfl) fun K ρ w a h1 h2 => ?_
  simp only [rel] at h1 h2
  refine ⟨_, w, ?_, Alike.refl w, rfl⟩
  simp [execOp, h1, h2, eqGuard_at_int, binOp, Op.shift, show ¬ n < 0 by omega]
theorem XOp.shr {k k' : IntKind} {x y : Operand} {t u : TypeId} {m n c : Int} (hx : opndO env x = some (.val (.int k m))) (hy : opndO env y = some (.val (.int k' n))) (hn : 0 ≤ n) (hc : m / (2 ^ (min n.toNat k.bits)) = c) :
    XOp P G env H ⟨d, .binOp .shr t x y u, ty, pos, after, gu⟩ (.val (.int k c)) H := by
  subst hc
  refine XOp.of_run2 hx hy (fun _ _ _ => rfl) fun K ρ w a h1 h2 => ?_
  simp only [rel] at h1 h2
  refine ⟨_, w, ?_, Alike.refl w, rfl⟩
  have : (m.fdiv (2 ^ min n.toNat k.bits)) = m / (2 ^ min n.toNat k.bits) := Int.fdiv_eq_ediv_of_nonneg _ (Int.le_of_lt (Int.pow_pos (by decide)))
  simp [execOp, h1, h2, eqGuard_at_int, binOp, Op.shift, show ¬ n < 0 by omega, this]
theorem XOp.ineg {k : IntKind} {x : Operand} {t : TypeId} {m c : Int} (hx : opndO env x = some (.val (.int k m))) (hc : k.wrap (0 - m) = c) : XOp P G env H ⟨d, .unOp .neg t x, ty, pos, after, gu⟩ (.val (.int k c)) H := by
  refine XOp.of_run1 hx (fun _ _ => rfl) fun K ρ w a h1 => ?_
  simp only [rel] at h1
  exact ⟨.int k c, w, by simp [execOp, h1, Op.unary, Op.intArith, ← hc], Alike.refl w, rfl⟩

/-! ### equality of bools, strings, nil -/
theorem XOp.beq (T : Tab P) {op : BinOp} {x y : Operand} {t u : TypeId} {i : TI} {p q b : Bool} (hx : opndO env x = some (.val (.bool p))) (hy : opndO env y = some (.val (.bool q))) (hT : tyAt T.l t = some i) (hd : i.d = .bool)
    (h : (match op with | .eql => some (p == q) | .neq => some (!(p == q)) | _ => none) = some b) : XOp P G env H ⟨d, .binOp op t x y u, ty, pos, after, gu⟩ (.val (.bool b)) H := by
  refine XOp.of_run2 hx hy (fun _ _ _ => rfl) fun K ρ w a h1 h2 => ?_
  simp only [rel] at h1 h2
  have hu : P.underlying t = some .bool := T.desc hT hd
  refine ⟨.bool b, w, ?_, Alike.refl w, rfl⟩
  have he : (Op.equal t (.bool p) (.bool q)).run P w = .ok (p == q) w := by
    have : ∀ m, (Op.equalIn (m + 1) t (.bool p) (.bool q)).run P w = .ok (p == q) w := fun m => by
      simp only [Op.equalIn, underlying, Sem.run_bind, run_program, Result.andThen_ok, hu, Sem.run_pure]
    exact this 9999
  cases op <;> simp only [reduceCtorEq] at h <;> cases h <;> simp only [execOp, h1, h2, eqGuard_at_bool, binOp, Sem.run_bind, Sem.run_pure, Result.andThen_ok, he]

theorem bytes_beq (a b : ByteArray) : (a.toList == b.toList) = decide (a = b) := by
  rw [ByteArray.toList_eq, ByteArray.toList_eq]
  rw [Bool.eq_iff_iff]
  simp only [beq_iff_eq, decide_eq_true_eq]
  constructor
  · intro h; cases a; cases b; simp at h; simp [h]
  · intro h; rw [h]
theorem XOp.scmp {op : BinOp} {x y : Operand} {t u : TypeId} {p q : ByteArray} {b : Bool} (hx : opndO env x = some (.val (.string p))) (hy : opndO env y = some (.val (.string q)))
    (h : (match op with | .eql => some (decide (p = q)) | .neq => some (!decide (p = q)) | _ => none) = some b) : XOp P G env H ⟨d, .binOp op t x y u, ty, pos, after, gu⟩ (.val (.bool b)) H := by
  refine XOp.of_run2 hx hy (fun _ _ _ => rfl) fun K ρ w a h1 h2 => ?_
  simp only [rel] at h1 h2
  refine ⟨.bool b, w, ?_, Alike.refl w, rfl⟩
  cases op <;> simp only [reduceCtorEq] at h <;> cases h <;> simp [execOp, h1, h2, eqGuard_at_string, binOp_string_eql, binOp_string_neq, bytes_beq]
theorem XOp.sless {op : BinOp} {x y : Operand} {t u : TypeId} {p q : ByteArray} {b : Bool} (hx : opndO env x = some (.val (.string p))) (hy : opndO env y = some (.val (.string q)))
    (h : (match op with | .lss => some (Op.bytesLess p.data.toList q.data.toList) | .gtr => some (!(Op.bytesLess p.data.toList q.data.toList || decide (p = q))) | .leq => some (Op.bytesLess p.data.toList q.data.toList || decide (p = q)) | .geq => some (!(Op.bytesLess p.data.toList q.data.toList)) | _ => none) = some b) : XOp P G env H ⟨d, .binOp op t x y u, ty, pos, after, gu⟩ (.val (.bool b)) H := by
  refine XOp.of_run2 hx hy (fun _ _ _ => rfl) fun K ρ w a h1 h2 => ?_
  simp only [rel] at h1 h2
  refine ⟨.bool b, w, ?_, Alike.refl w, rfl⟩
  have := bytes_beq p q
  rw [ByteArray.toList_eq, ByteArray.toList_eq] at this
  cases op <;> simp only [reduceCtorEq] at h <;> cases h <;> simp [execOp, h1, h2, eqGuard_at_string, binOp, Op.stringOp, ByteArray.toList_eq, this]
theorem XOp.cat {x y : Operand} {t u : TypeId} {p q r : List UInt8} (hx : opndO env x = some (.val (.string (str p)))) (hy : opndO env y = some (.val (.string (str q)))) (hs : p.length + q.length ≤ 9223372036854775807) (hr : p ++ q = r) :
    XOp P G env H ⟨d, .binOp .add t x y u, ty, pos, after, gu⟩ (.val (.string (str r))) H := by
  subst hr
  refine XOp.of_run2 hx hy (fun _ _ _ => rfl) fun K ρ w a h1 h2 => ?_
  simp only [rel] at h1 h2
  refine ⟨.string (str (p ++ q)), w, ?_, Alike.refl w, rfl⟩
  have hrun := run_string_add_sum (P := P) (w := w) (str p) (str q) (by rw [str_size, str_size]; exact hs)
  rw [ByteArray.mk_append_mk] at hrun
  simp only [execOp, h1, h2, Sem.run_bind, eqGuard_at_string, Sem.run_pure, Result.andThen_ok, binOp_string_add, hrun]

/-- a slice against nil: both answers, where nothing is known -/
theorem run_slice_nil {t : TypeId} {e : TypeId} (hu : P.underlying t = some (.slice e)) (b : Option Addr) (m c : Nat) : (Op.equal t (.slice b m c) (.slice none 0 0)).run P w = .ok b.isNone w := by
  have : ∀ k, (Op.equalIn (k + 1) t (.slice b m c) (.slice none 0 0)).run P w = .ok b.isNone w := fun k => by
    cases b <;> simp only [Op.equalIn, underlying, Sem.run_bind, run_program, Result.andThen_ok, hu, Sem.run_pure] <;> rfl
  exact this 9999

/-! ### a string's bytes and parts -/
theorem XOp.sidx (T : Tab P) {x y : Operand} {t : TypeId} {i : TI} {k : IntKind} {s : List UInt8} {j : Int} {c : UInt8} (hx : opndO env x = some (.val (.string (str s)))) (hy : opndO env y = some (.val (.int k j))) (hT : tyAt T.l t = some i) (hd : i.d = .str)
    (h0 : 0 ≤ j) (hc : s[j.toNat]? = some c) : XOp P G env H ⟨d, .index t x y, ty, pos, after, gu⟩ (.val (.int .u8 c.toNat)) H := by
  refine XOp.of_run2 hx hy (fun _ _ _ => rfl) fun K ρ w a h1 h2 => ?_
  simp only [rel] at h1 h2
  have hu : P.underlying t = some .string := T.desc hT hd
  refine ⟨.int .u8 c.toNat, w, ?_, Alike.refl w, rfl⟩
  have hlt : j.toNat < s.length := (List.getElem?_eq_some_iff.1 hc).1
  have hg : (str s)[j.toNat]? = some c := by
    rw [ByteArray.getElem?_lt' _ _ (by rw [str_size]; exact hlt)]
    have := (List.getElem?_eq_some_iff.1 hc).2
    simp only [str]
    rw [← this]
    rfl
  simp only [execOp, Instr.index, h1, h2, asIntOf, Sem.run_bind, Sem.run_pure, Result.andThen_ok, underlying, run_program, hu, h0, if_true, hg]

/-- bounds of a slice expression -/
def boundO (env : Env) : Option Operand → Option (Option Int)
  | none => some none
  | some x => match opndO env x with
    | some (.val (.int _ j)) => some (some j)
    | _ => none
theorem bound_ok {m : Nat} (he : EnvOk K ρ m env a) {x : Option Operand} {j : Option Int} (h : boundO env x = some j) : (x = none ∧ j = none) ∨ ∃ y k z, x = some y ∧ j = some z ∧ a.eval y = .int k z := by
  cases x with
  | none => simp only [boundO, Option.some.injEq] at h; exact .inl ⟨rfl, h.symm⟩
  | some y =>
    simp only [boundO] at h
    split at h <;> try (simp at h; done)
    rename_i k z hy
    simp only [Option.some.injEq] at h
    have := (rel_opnd he y).2
    rw [opndO_eq hy] at this
    simp only [rel] at this
    exact .inr ⟨y, k, z, rfl, h.symm, this⟩

theorem run_bounds {b : Bool} {len cap : Nat} {lo hi : Option Operand} {l h : Option Int} {m : Nat} (he : EnvOk K ρ m env a) (hl : boundO env lo = some l) (hh : boundO env hi = some h)
    (h0 : 0 ≤ l.getD 0) (h1 : l.getD 0 ≤ h.getD len) (h2 : h.getD len ≤ cap) (_ : len ≤ cap) :
    (Instr.sliceBounds b len cap (lo.map a.eval) (hi.map a.eval) none).run P w = .ok ((l.getD 0).toNat, (h.getD len).toNat, cap) w := by
  have sb : ∀ (k : IntKind) (z : Int) (y : Nat) (c : BoundsCode), 0 ≤ z → z ≤ y → (Instr.sliceBound (.int k z) y c).run P w = .ok z.toNat w := fun k z y c hz hy => by
    simp [Instr.sliceBound, asIntOf, hz, hy]
  rcases bound_ok he hl with ⟨rfl, rfl⟩ | ⟨x, k, z, rfl, rfl, hx⟩ <;> rcases bound_ok he hh with ⟨rfl, rfl⟩ | ⟨y, k', z', rfl, rfl, hy⟩ <;> simp only [Option.getD_none, Option.getD_some] at *
  · simp [Instr.sliceBounds]
  · simp only [Instr.sliceBounds, Option.map_none, Option.map_some, hy, Sem.run_bind, Sem.run_pure, Result.andThen_ok]
    rw [sb k' z' cap _ (by omega) h2]
    simp
  · simp only [Instr.sliceBounds, Option.map_none, Option.map_some, hx, Sem.run_bind, Sem.run_pure, Result.andThen_ok]
    rw [sb k z len _ h0 h1]
    simp
  · simp only [Instr.sliceBounds, Option.map_some, hx, hy, Sem.run_bind, Sem.run_pure, Result.andThen_ok]
    rw [sb k' z' cap _ (by omega) h2]
    simp only [Result.andThen_ok]
    rw [sb k z z'.toNat _ h0 (by omega)]
    simp

theorem XOp.ssub (T : Tab P) {x : Operand} {lo hi : Option Operand} {t : TypeId} {i : TI} {s r : List UInt8} {l h : Option Int} (hx : opndO env x = some (.val (.string (str s)))) (hT : tyAt T.l t = some i) (hd : i.d = .str) (hl : boundO env lo = some l) (hh : boundO env hi = some h)
    (h0 : 0 ≤ l.getD 0) (h1 : l.getD 0 ≤ h.getD s.length) (h2 : h.getD s.length ≤ s.length) (hr : (s.drop (l.getD 0).toNat).take ((h.getD s.length).toNat - (l.getD 0).toNat) = r) :
    XOp P G env H ⟨d, .slice t x lo hi none, ty, pos, after, gu⟩ (.val (.string (str r))) H := by
  refine ⟨fun K ρ w a g he => ?_⟩
  have hv := (rel_opnd he x).2
  rw [opndO_eq hx] at hv
  simp only [rel] at hv
  have hu : P.underlying t = some .string := T.desc hT hd
  have hb := run_bounds (P := P) (w := w) (b := false) (len := s.length) (cap := s.length) he hl hh h0 h1 h2 (Nat.le_refl _)
  have hrun : (execOp a.eval ⟨d, .slice t x lo hi none, ty, pos, after, gu⟩).run P w = .ok (.value (.string (str r))) w := by
    simp only [execOp, Instr.sliceAt, Instr.slice, hv, underlying, Sem.run_bind, run_program, Result.andThen_ok, hu, Sem.run_pure, Option.map_none, Option.isSome_none, Bool.false_eq_true, if_false]
    rw [str_size, hb]
    simp only [Result.andThen_ok]
    rw [ByteArray.extract_mk, hr]
  rw [hrun]
  exact XPost.pure g (Alike.refl w) (by simp [rel]) rfl

/-! ### slices of slices -/
theorem relAt_take : ∀ {cs : List AV} {b o n : Nat}, relAt K ρ cs b o → relAt K ρ (cs.take n) b o
  | [], b, o, n, h => by simp [relAt]
  | c :: cs, b, o, 0, h => by simp [relAt]
  | c :: cs, b, o, n + 1, h => by
    simp only [relAt, List.take_succ_cons] at h ⊢
    exact ⟨h.1, relAt_take h.2⟩
theorem lims_take {m : Nat} : ∀ {cs : List AV} {n : Nat}, AV.lims m cs = true → AV.lims m (cs.take n) = true
  | [], n, h => by simpa using h
  | c :: cs, 0, h => by simp [AV.lims]
  | c :: cs, n + 1, h => by
    simp only [AV.lims, Bool.and_eq_true, List.take_succ_cons] at h ⊢
    exact ⟨h.1, lims_take h.2⟩

theorem XOp.subL (T : Tab P) {x : Operand} {lo hi : Option Operand} {t e : TypeId} {i j : TI} {m : Nat} {cs r : List AV} {l h : Option Int} (hx : opndO env x = some (.lst m cs)) (hT : tyAt T.l t = some i) (hd : i.d = .slice e) (hE : tyAt T.l e = some j) (hl : boundO env lo = some l) (hh : boundO env hi = some h)
    (h0 : 0 ≤ l.getD 0) (h1 : l.getD 0 ≤ h.getD m) (h2 : h.getD m ≤ m) (hr : (cs.drop ((l.getD 0).toNat * j.size)).take (((h.getD m).toNat - (l.getD 0).toNat) * j.size) = r) :
    XOp P G env H ⟨d, .slice t x lo hi none, ty, pos, after, gu⟩ (.lst ((h.getD m).toNat - (l.getD 0).toNat) r) H := by
  refine ⟨fun K ρ w a g he => ?_⟩
  obtain ⟨hlm, hv⟩ := rel_opnd he x
  rw [opndO_eq hx] at hv hlm
  simp only [rel] at hv
  obtain ⟨b, cap, hv, hcap, hat⟩ := hv
  have hu : P.underlying t = some (.slice e) := T.desc hT hd
  have hb := run_bounds (P := P) (w := w) (b := true) (len := m) (cap := cap) he hl hh h0 h1 (by omega) hcap
  have hrun : (execOp a.eval ⟨d, .slice t x lo hi none, ty, pos, after, gu⟩).run P w = .ok (.value (.slice (if cap = (l.getD 0).toNat then b else b.map (·.add ((l.getD 0).toNat * j.size))) ((h.getD m).toNat - (l.getD 0).toNat) (cap - (l.getD 0).toNat))) w := by
    simp only [execOp, Instr.sliceAt, Instr.slice, hv, underlying, Sem.run_bind, run_program, Result.andThen_ok, hu, Sem.run_pure, Option.map_none, hb, (T.is hE).run_sizeOf]
  rw [hrun]
  refine XPost.pure g (Alike.refl w) ?_ ?_
  · simp only [rel]
    refine ⟨_, _, rfl, by omega, ?_⟩
    rcases hat with rfl | ⟨b0, o0, rfl, hat⟩
    · left; rw [← hr]; simp
    · by_cases hc : cap = (l.getD 0).toNat
      · left
        rw [← hr]
        have : (h.getD m).toNat - (l.getD 0).toNat = 0 := by omega
        rw [this]; simp
      · right
        rw [if_neg hc]
        refine ⟨b0, o0 + (l.getD 0).toNat * j.size, by simp [add_at], ?_⟩
        rw [← hr]
        exact relAt_take (relAt_drop hat)
  · simp only [AV.lim] at hlm ⊢
    rw [← hr]
    exact lims_take (lims_drop hlm)

/-- a slice whose capacity is cut to nothing -/
theorem XOp.sub0 (T : Tab P) {x : Operand} {t e : TypeId} {i j : TI} {p : AV} {lo hi mx : Operand} {k1 k2 k3 : IntKind} (hx : opndO env x = some p) (hp : (match p with | .lst _ _ => true | .emp => true | .slc _ _ _ _ => true | _ => false) = true) (hT : tyAt T.l t = some i) (hd : i.d = .slice e) (hE : tyAt T.l e = some j)
    (hl : opndO env lo = some (.val (.int k1 0))) (hh : opndO env hi = some (.val (.int k2 0))) (hm : opndO env mx = some (.val (.int k3 0))) : XOp P G env H ⟨d, .slice t x (some lo) (some hi) (some mx), ty, pos, after, gu⟩ .emp H := by
  refine ⟨fun K ρ w a g he => ?_⟩
  obtain ⟨hlm, hv⟩ := rel_opnd he x
  rw [opndO_eq hx] at hv hlm
  have ev : ∀ {y : Operand} {k : IntKind} {z : Int}, opndO env y = some (.val (.int k z)) → a.eval y = .int k z := fun {y k z} hy => by
    have := (rel_opnd he y).2
    rw [opndO_eq hy] at this
    simpa [rel] using this
  have hform : ∃ b m cap, a.eval x = .slice b m cap := by
    cases p <;> simp at hp <;> simp only [rel] at hv
    case lst => obtain ⟨b, cap, h, _⟩ := hv; exact ⟨_, _, _, h⟩
    case emp => obtain ⟨b, h⟩ := hv; exact ⟨_, _, _, h⟩
    case slc => rcases hv with ⟨cap, h, _⟩ | ⟨_, b, h⟩ <;> exact ⟨_, _, _, h⟩
  obtain ⟨b, m, cap, hv⟩ := hform
  have hu : P.underlying t = some (.slice e) := T.desc hT hd
  have hrun : (execOp a.eval ⟨d, .slice t x (some lo) (some hi) (some mx), ty, pos, after, gu⟩).run P w = .ok (.value (.slice (if 0 = 0 then b else b.map (·.add (0 * j.size))) (0 - 0) (0 - 0))) w := by
    simp [execOp, Instr.sliceAt, Instr.slice, hv, underlying, hu, ev hl, ev hh, ev hm, Instr.sliceBounds, Instr.sliceBound, asIntOf, (T.is hE).run_sizeOf]
  rw [hrun]
  exact XPost.pure g (Alike.refl w) (by simp only [rel]; exact ⟨_, rfl⟩) rfl

/-! ### elements -/
theorem XOp.idxL (T : Tab P) {x y : Operand} {t e : TypeId} {i j : TI} {k : IntKind} {m : Nat} {cs r : List AV} {z : Int} (hx : opndO env x = some (.lst m cs)) (hy : opndO env y = some (.val (.int k z))) (hT : tyAt T.l t = some i) (hd : i.d = .slice e) (hE : tyAt T.l e = some j)
    (h0 : 0 ≤ z) (h1 : z < m) (hr : cs.drop (z.toNat * j.size) = r) (hne : r ≠ []) : XOp P G env H ⟨d, .indexAddr t x y, ty, pos, after, gu⟩ (.fptr r) H := by
  refine XOp.of_run2 hx hy (fun m h _ => by simp only [AV.lim] at h ⊢; rw [← hr]; exact lims_drop h) fun K ρ w a h1' h2 => ?_
  simp only [rel] at h1' h2
  obtain ⟨b, cap, hv, hcap, hat⟩ := h1'
  have hu : P.underlying t = some (.slice e) := T.desc hT hd
  rcases hat with rfl | ⟨b0, o0, rfl, hat⟩
  · rw [List.drop_nil] at hr; exact absurd hr.symm hne
  · refine ⟨.pointer (some ⟨b0, o0 + z.toNat * j.size, none⟩), w, ?_, Alike.refl w, ?_⟩
    · simp [execOp, Instr.indexAt, hv, h2, asIntOf, underlying, hu, h0, h1, (T.is hE).run_sizeOf, add_at]
    · simp only [rel]
      exact ⟨b0, _, rfl, by rw [← hr]; exact relAt_drop hat⟩
theorem XOp.idxO (T : Tab P) {x y : Operand} {t e : TypeId} {i j : TI} {k : IntKind} {l o m s off : Nat} {z : Int} (hx : opndO env x = some (.slc l o m s)) (hy : opndO env y = some (.val (.int k z))) (hT : tyAt T.l t = some i) (hd : i.d = .slice e) (hE : tyAt T.l e = some j)
    (h0 : 0 ≤ z) (h1 : z < m) (hr : o + z.toNat * j.size = off) : XOp P G env H ⟨d, .indexAddr t x y, ty, pos, after, gu⟩ (.ptr l off) H := by
  refine XOp.of_run2 hx hy (fun m h _ => by simpa [AV.lim] using h) fun K ρ w a h1' h2 => ?_
  simp only [rel] at h1' h2
  rcases h1' with ⟨cap, hv, hcap, _⟩ | ⟨hm0, _⟩
  rotate_left
  · omega
  have hu : P.underlying t = some (.slice e) := T.desc hT hd
  refine ⟨.pointer (some ⟨(ρ l).b, (ρ l).o + off, none⟩), w, ?_, Alike.refl w, by simp only [rel]⟩
  simp [execOp, Instr.indexAt, hv, h2, asIntOf, underlying, hu, h0, h1, (T.is hE).run_sizeOf, add_at, ← hr, Nat.add_assoc]
/-- an element of an array behind a pointer -/
theorem XOp.idxA (T : Tab P) {x y : Operand} {t e : TypeId} {i j : TI} {k : IntKind} {l o m off : Nat} {z : Int} (hx : opndO env x = some (.ptr l o)) (hy : opndO env y = some (.val (.int k z))) (hT : tyAt T.l t = some i) (hd : i.d = .arr m e) (hE : tyAt T.l e = some j)
    (h0 : 0 ≤ z) (h1 : z < m) (hr : o + z.toNat * j.size = off) : XOp P G env H ⟨d, .indexAddr t x y, ty, pos, after, gu⟩ (.ptr l off) H := by
  refine XOp.of_run2 hx hy (fun m h _ => by simpa [AV.lim] using h) fun K ρ w a h1' h2 => ?_
  simp only [rel] at h1' h2
  have hu : P.underlying t = some (.array m e) := T.desc hT hd
  refine ⟨.pointer (some ⟨(ρ l).b, (ρ l).o + off, none⟩), w, ?_, Alike.refl w, by simp only [rel]⟩
  simp [execOp, Instr.indexAt, h1', h2, asIntOf, underlying, hu, h0, h1, (T.is hE).run_sizeOf, add_at, ← hr, Nat.add_assoc, Instr.sureAddr]
theorem XOp.idxAF (T : Tab P) {x y : Operand} {t e : TypeId} {i j : TI} {k : IntKind} {m : Nat} {cs r : List AV} {z : Int} (hx : opndO env x = some (.fptr cs)) (hy : opndO env y = some (.val (.int k z))) (hT : tyAt T.l t = some i) (hd : i.d = .arr m e) (hE : tyAt T.l e = some j)
    (h0 : 0 ≤ z) (h1 : z < m) (hr : cs.drop (z.toNat * j.size) = r) : XOp P G env H ⟨d, .indexAddr t x y, ty, pos, after, gu⟩ (.fptr r) H := by
  refine XOp.of_run2 hx hy (fun m h _ => by simp only [AV.lim] at h ⊢; rw [← hr]; exact lims_drop h) fun K ρ w a h1' h2 => ?_
  simp only [rel] at h1' h2
  obtain ⟨b, o, hv, hat⟩ := h1'
  have hu : P.underlying t = some (.array m e) := T.desc hT hd
  refine ⟨.pointer (some ⟨b, o + z.toNat * j.size, none⟩), w, ?_, Alike.refl w, ?_⟩
  · simp [execOp, Instr.indexAt, hv, h2, asIntOf, underlying, hu, h0, h1, (T.is hE).run_sizeOf, add_at, Instr.sureAddr]
  · simp only [rel]; exact ⟨b, _, rfl, by rw [← hr]; exact relAt_drop hat⟩

/-- the whole of an array as a slice -/
theorem XOp.arrO (T : Tab P) {x : Operand} {t e : TypeId} {i j : TI} {l o m s : Nat} {cells : List AV} {b : Bool} (hx : opndO env x = some (.ptr l o)) (hT : tyAt T.l t = some i) (hd : i.d = .arr m e) (hE : tyAt T.l e = some j) (_ : j.size = s) (hH : H.get l = some ⟨cells, b⟩) (hc : Nat.ble (o + m * s) cells.length = true) :
    XOp P G env H ⟨d, .slice t x none none none, ty, pos, after, gu⟩ (.slc l o m s) H := by
  refine ⟨fun K ρ w a g he => ?_⟩
  obtain ⟨hlm, hv⟩ := rel_opnd he x
  rw [opndO_eq hx] at hv hlm
  simp only [rel] at hv
  have hu : P.underlying t = some (.array m e) := T.desc hT hd
  have a4 : cells.length ≤ (ρ l).e := by
    rcases g.obj l _ hH with ⟨row, t', fr, a1, a2, a3, a4, _⟩ | ⟨h, _, _⟩
    · exact a4
    · simp only [] at h; simp [h]
  have hrun : (execOp a.eval ⟨d, .slice t x none none none, ty, pos, after, gu⟩).run P w = .ok (.value (.slice (some ⟨(ρ l).b, (ρ l).o + o, none⟩) m m)) w := by
    simp only [execOp, Instr.sliceAt, hv, underlying, Sem.run_bind, run_program, Result.andThen_ok, hu, Sem.run_pure, Option.map_none, Instr.sureAddr, Instr.sliceBounds, (T.is hE).run_sizeOf]
    simp [add_at]
  rw [hrun]
  refine XPost.pure g (Alike.refl w) ?_ (by simpa [AV.lim] using hlm)
  simp only [rel]
  refine .inl ⟨m, rfl, Nat.le_refl _, ?_⟩
  have : o + m * s ≤ cells.length := by simpa using hc
  omega

theorem XOp.fieldV (T : Tab P) {x : Operand} {t f off u : Nat} {i j : TI} {fs : List (Nat × Nat)} {cs c1 c2 : List AV} (hx : opndO env x = some (.agg cs)) (hT : tyAt T.l t = some i) (hd : i.d = .st fs) (hf : fs[f]? = some (off, u)) (hj : tyAt T.l u = some j)
    (h1 : dropO cs off = some c1) (h2 : takeO c1 j.size = some c2) (h3 : packO j c2 = some av) : XOp P G env H ⟨d, .field t x f, ty, pos, after, gu⟩ av H := by
  obtain ⟨rfl, hk⟩ := dropO_eq h1
  obtain ⟨rfl, hs⟩ := takeO_eq h2
  have hpk := packO_eq h3
  refine XOp.of_run1 hx (fun m h => ?_) fun K ρ w a h1' => ?_
  · simp only [AV.lim] at h
    rw [hpk]
    exact lim_pack (lims_take (lims_drop h)) (by simp at hs ⊢; omega) (T.is hj).one
  · simp only [rel] at h1'
    obtain ⟨vs, hv, hr, hone⟩ := h1'
    have hu := T.desc hT hd
    obtain ⟨fields, hu1, hu2⟩ := hu
    rw [← hu2] at hf
    simp only [List.getElem?_map, Option.map_eq_some_iff, Prod.mk.injEq] at hf
    obtain ⟨fd, k1, k2, k3⟩ := hf
    have hfd : fields[f]? = some fd := by simpa using k1
    subst k3
    have hvl := rels_length hr
    have rd : ∀ {cs : List AV} {vs : List Value} (m : Nat), rels K ρ cs vs → rels K ρ (cs.drop m) (vs.drop m) := by
      intro cs vs m
      induction m generalizing cs vs with
      | zero => intro h; simpa using h
      | succ m ih =>
        intro h
        cases cs with
        | nil => simp only [rels] at h; subst h; simp [rels]
        | cons c cs => simp only [rels] at h; obtain ⟨v, l', rfl, _, h2⟩ := h; simpa using ih h2
    have rt : ∀ {cs : List AV} {vs : List Value} (m : Nat), rels K ρ cs vs → rels K ρ (cs.take m) (vs.take m) := by
      intro cs vs m
      induction m generalizing cs vs with
      | zero => intro h; simp [rels]
      | succ m ih =>
        intro h
        cases cs with
        | nil => simp only [rels] at h; subst h; simp [rels]
        | cons c cs => simp only [rels] at h; obtain ⟨v, l', rfl, h1, h2⟩ := h; simp only [List.take_succ_cons, rels]; exact ⟨v, _, rfl, h1, ih h2⟩
    have hr2 := rt j.size (rd off hr)
    cases ha : j.agg with
    | true =>
      rw [hpk, ha]
      refine ⟨.agg ⟨(vs.drop off).take j.size⟩, w, ?_, Alike.refl w, ?_⟩
      · simp only [execOp, Instr.field, underlying, Sem.run_bind, run_program, Result.andThen_ok, hu1, Sem.run_pure, hfd, hv, asAgg, part, (T.is hj).run_isAgg, ha, if_true, (T.is hj).run_sizeOf, k2]
        simp
      · simp only [if_true, rel]
        exact ⟨_, rfl, hr2, fun u hu => hone u (List.mem_of_mem_drop (List.mem_of_mem_take hu))⟩
    | false =>
      have h1s := (T.is hj).one ha
      rw [h1s] at hr2 hs
      have hlt : off < vs.length := by simp at hs; omega
      have hget : vs[off]? = some vs[off] := List.getElem?_eq_getElem hlt
      refine ⟨vs[off], w, ?_, Alike.refl w, ?_⟩
      · have : (⟨vs⟩ : Array Value)[off]? = some vs[off] := by simp
        simp only [execOp, Instr.field, underlying, Sem.run_bind, run_program, Result.andThen_ok, hu1, Sem.run_pure, hfd, hv, asAgg, part, (T.is hj).run_isAgg, ha, Bool.false_eq_true, if_false, k2, this]
      · rw [hpk, ha, h1s]
        have e : vs.drop off = vs[off] :: vs.drop (off + 1) := List.drop_eq_getElem_cons hlt
        rw [e] at hr2
        cases hc : cs.drop off with
        | nil => rw [hc] at hs; simp at hs
        | cons c cs' =>
          rw [hc] at hr2
          simp only [List.take_succ_cons, List.take_zero, rels] at hr2
          obtain ⟨v, l', e2, hv2, _⟩ := hr2
          simp only [List.cons.injEq] at e2
          obtain ⟨rfl, _⟩ := e2
          simpa using hv2
end ops
end Go.Ax
