/-
  Floats in the book.
-/
import Derived.Test.YtomidnkcohkhfaaGreatDoorK4
import Derived.Laws.FloatBits
namespace Go.Ax
open Ieee

theorem width_bound (k : FloatKind) : 2 ^ k.format.width = bound k := by cases k <;> rfl
theorem blt_dec (a b : Nat) : Nat.blt a b = decide (a < b) := by rw [Bool.eq_iff_iff]; simp
theorem read_nan (k : FloatKind) (b : Nat) : (k.format.read b).isNaN = isNaNb k b := by
  cases k
  · have h1 : FloatKind.f32.format.signWeight = 2147483648 := rfl
    have h2 : FloatKind.f32.format.binade = 8388608 := rfl
    have h3 : FloatKind.f32.format.infRung = 2139095040 := rfl
    unfold Format.read
    simp only [h1, h2, h3, isNaNb, blt_dec]
    by_cases c1 : b % 2147483648 < 8388608
    · rw [if_pos c1, decide_eq_false (by omega)]; rfl
    · rw [if_neg c1]
      by_cases c2 : b % 2147483648 < 2139095040
      · rw [if_pos c2, decide_eq_false (by omega)]; rfl
      · rw [if_neg c2]
        by_cases c3 : b % 2147483648 = 2139095040
        · rw [if_pos c3, decide_eq_false (by omega)]; rfl
        · rw [if_neg c3, decide_eq_true (by omega)]; rfl
  · have h1 : FloatKind.f64.format.signWeight = 9223372036854775808 := rfl
    have h2 : FloatKind.f64.format.binade = 4503599627370496 := rfl
    have h3 : FloatKind.f64.format.infRung = 9218868437227405312 := rfl
    unfold Format.read
    simp only [h1, h2, h3, isNaNb, blt_dec]
    by_cases c1 : b % 9223372036854775808 < 4503599627370496
    · rw [if_pos c1, decide_eq_false (by omega)]; rfl
    · rw [if_neg c1]
      by_cases c2 : b % 9223372036854775808 < 9218868437227405312
      · rw [if_pos c2, decide_eq_false (by omega)]; rfl
      · rw [if_neg c2]
        by_cases c3 : b % 9223372036854775808 = 9218868437227405312
        · rw [if_pos c3, decide_eq_false (by omega)]; rfl
        · rw [if_neg c3, decide_eq_true (by omega)]; rfl

theorem nanb_nan (k : FloatKind) : isNaNb k (nanb k) = true := by cases k <;> rfl
theorem nanb_lt (k : FloatKind) : nanb k < bound k := by cases k <;> decide
theorem canon_nan {k : FloatKind} {b : Nat} (h : isNaNb k b = true) : canon k b = nanb k := by simp [canon, h]
theorem isNaN_canon (k : FloatKind) (b : Nat) : isNaNb k (canon k b) = isNaNb k b := by
  cases h : isNaNb k b
  · rw [canon_of_not h, h]
  · rw [canon_nan h, nanb_nan]
theorem canon_canon (k : FloatKind) (b : Nat) : canon k (canon k b) = canon k b := by
  cases h : isNaNb k b
  · rw [canon_of_not h, canon_of_not h]
  · rw [canon_nan h, canon_nan (nanb_nan k)]
theorem canon_lt {k : FloatKind} {b : Nat} (h : b < bound k) : canon k b < bound k := by
  cases hn : isNaNb k b
  · rw [canon_of_not hn]; exact h
  · rw [canon_nan hn]; exact nanb_lt k

/-- A number as it is told. -/
def CF (k : FloatKind) (b : Nat) : Prop := b < bound k ∧ canon k b = b
theorem rel_flt {K : Mem} {ρ : Place} {k : FloatKind} {b : Nat} (h : CF k b) : rel K ρ (.flt k b) (.float k b) := by
  simp only [rel]; exact ⟨b, rfl, h.1, h.2⟩
theorem cf_of_rel {K : Mem} {ρ : Place} {k : FloatKind} {b : Nat} {v : Value} (h : rel K ρ (.flt k b) v) : CF k b := by
  simp only [rel] at h
  obtain ⟨b', _, h1, h2⟩ := h
  rw [← h2]
  exact ⟨canon_lt h1, canon_canon k b'⟩

/-- Data that are not told apart when both are no number. -/
def Alk (d e : Datum) : Prop := d = e ∨ (d.isNaN = true ∧ e.isNaN = true)
theorem alk_canon (k : FloatKind) (b : Nat) : Alk (k.format.read b) (k.format.read (canon k b)) := by
  cases h : isNaNb k b
  · rw [canon_of_not h]; exact .inl rfl
  · refine .inr ⟨by rw [read_nan, h], by rw [read_nan, isNaN_canon, h]⟩
theorem nan_form {d : Datum} (h : d.isNaN = true) : ∃ s t, d = .nan s t := by cases d <;> simp [Datum.isNaN] at h; exact ⟨_, _, rfl⟩

theorem alk_sum {d d' e e' : Datum} (h : Alk d d') (k : Alk e e') : d.sum e = d'.sum e' := by
  rcases h with rfl | ⟨h1, h2⟩
  · rcases k with rfl | ⟨k1, k2⟩
    · rfl
    · obtain ⟨s, t, rfl⟩ := nan_form k1
      obtain ⟨s', t', rfl⟩ := nan_form k2
      cases d <;> rfl
  · obtain ⟨s, t, rfl⟩ := nan_form h1
    obtain ⟨s', t', rfl⟩ := nan_form h2
    cases e <;> cases e' <;> rfl
theorem alk_opp {d e : Datum} (h : Alk d e) : Alk d.opposite e.opposite := by
  rcases h with rfl | ⟨h1, h2⟩
  · exact .inl rfl
  · obtain ⟨s, t, rfl⟩ := nan_form h1
    obtain ⟨s', t', rfl⟩ := nan_form h2
    exact .inr ⟨rfl, rfl⟩
theorem alk_prod {d d' e e' : Datum} (h : Alk d d') (k : Alk e e') : d.product e = d'.product e' := by
  rcases h with rfl | ⟨h1, h2⟩
  · rcases k with rfl | ⟨k1, k2⟩
    · rfl
    · obtain ⟨s, t, rfl⟩ := nan_form k1
      obtain ⟨s', t', rfl⟩ := nan_form k2
      cases d <;> rfl
  · obtain ⟨s, t, rfl⟩ := nan_form h1
    obtain ⟨s', t', rfl⟩ := nan_form h2
    cases e <;> cases e' <;> rfl
theorem alk_quo {n : Nat} {d d' e e' : Datum} (h : Alk d d') (k : Alk e e') : d.quotient n e = d'.quotient n e' := by
  rcases h with rfl | ⟨h1, h2⟩
  · rcases k with rfl | ⟨k1, k2⟩
    · rfl
    · obtain ⟨s, t, rfl⟩ := nan_form k1
      obtain ⟨s', t', rfl⟩ := nan_form k2
      cases d <;> rfl
  · obtain ⟨s, t, rfl⟩ := nan_form h1
    obtain ⟨s', t', rfl⟩ := nan_form h2
    cases e <;> cases e' <;> rfl
theorem alk_order {d d' e e' : Datum} (h : Alk d d') (k : Alk e e') : d.order e = d'.order e' := by
  rcases h with rfl | ⟨h1, h2⟩
  · rcases k with rfl | ⟨k1, k2⟩
    · rfl
    · obtain ⟨s, t, rfl⟩ := nan_form k1
      obtain ⟨s', t', rfl⟩ := nan_form k2
      cases d <;> rfl
  · obtain ⟨s, t, rfl⟩ := nan_form h1
    obtain ⟨s', t', rfl⟩ := nan_form h2
    cases e <;> cases e' <;> rfl

/-- no NaN comes of these -/
theorem sum_nn {d e r : Datum} (h : d.sum e = some r) : r.isNaN = false := by
  cases d <;> cases e <;> simp only [Datum.sum, reduceCtorEq, Option.some.injEq] at h
  case number.number => subst h; rfl
  case number.infinity => subst h; rfl
  case infinity.number => subst h; rfl
  case infinity.infinity => split at h <;> simp at h; subst h; rfl
theorem prod_nn {d e r : Datum} (h : d.product e = some r) : r.isNaN = false := by
  cases d <;> cases e <;> simp only [Datum.product, reduceCtorEq, Option.some.injEq] at h
  case number.number => subst h; rfl
  case number.infinity => split at h <;> simp at h; subst h; rfl
  case infinity.number => split at h <;> simp at h; subst h; rfl
  case infinity.infinity => subst h; rfl
theorem quo_nn {n : Nat} {d e r : Datum} (h : d.quotient n e = some r) : r.isNaN = false := by
  cases d <;> cases e <;> simp only [Datum.quotient, reduceCtorEq, Option.some.injEq] at h
  case number.number =>
    split at h
    · split at h <;> simp at h; subst h; rfl
    · simp at h; subst h; rfl
  case number.infinity => subst h; rfl
  case infinity.number => subst h; rfl

theorem word_nn (k : FloatKind) (neg : Bool) {rung : Nat} (h : rung ≤ k.format.infRung) : isNaNb k (k.format.word neg rung) = false := by
  cases k
  · have h1 : FloatKind.f32.format.signWeight = 2147483648 := rfl
    have h3 : FloatKind.f32.format.infRung = 2139095040 := rfl
    rw [h3] at h
    unfold Format.word
    rw [h1]
    cases hb : isNaNb .f32 (if neg = true then 2147483648 + rung else rung)
    · rfl
    · simp only [isNaNb, Nat.blt_eq] at hb
      split at hb <;> omega
  · have h1 : FloatKind.f64.format.signWeight = 9223372036854775808 := rfl
    have h3 : FloatKind.f64.format.infRung = 9218868437227405312 := rfl
    rw [h3] at h
    unfold Format.word
    rw [h1]
    cases hb : isNaNb .f64 (if neg = true then 9223372036854775808 + rung else rung)
    · rfl
    · simp only [isNaNb, Nat.blt_eq] at hb
      split at hb <;> omega
theorem write_nn (k : FloatKind) {d : Datum} (h : d.isNaN = false) : isNaNb k (k.format.write d) = false := by
  cases d with
  | number neg mag place =>
    unfold Format.write Format.nearest
    dsimp only
    split
    · exact word_nn k _ (Nat.zero_le _)
    · exact word_nn k _ (Nat.min_le_right _ _)
  | infinity neg => exact word_nn k _ (Nat.le_refl _)
  | nan s t => simp [Datum.isNaN] at h
theorem cf_write (k : FloatKind) {d : Datum} (h : d.isNaN = false) : CF k (k.format.write d) :=
  ⟨by rw [← width_bound]; exact k.format.write_lt d, canon_of_not (write_nn k h)⟩
theorem cf_nan (k : FloatKind) : CF k (nanb k) := ⟨nanb_lt k, canon_nan (nanb_nan k)⟩

def fraw (op : BinOp) (k : FloatKind) (x y : Nat) : Option Nat := match op with
  | .add => k.format.add x y
  | .sub => k.format.sub x y
  | .mul => k.format.mul x y
  | .quo => k.format.div x y
  | _ => none
/-- The four operations. -/
def fop (op : BinOp) (k : FloatKind) (x y : Nat) : Nat :=
  match fraw op k x y with
  | some r => r
  | none => nanb k
def fadd := fop .add .f32
def fsub := fop .sub .f32
def fmul := fop .mul .f32
def fdiv := fop .quo .f32
def isAr : BinOp → Bool
  | .add | .sub | .mul | .quo => true
  | _ => false

theorem cf_fop (op : BinOp) (k : FloatKind) (x y : Nat) : CF k (fop op k x y) := by
  unfold fop
  split
  · rename_i r h
    cases op <;> simp only [fraw, reduceCtorEq] at h
    all_goals
      simp only [Format.add, Format.sub, Format.mul, Format.div, Option.map_eq_some_iff] at h
      obtain ⟨d, h1, rfl⟩ := h
    · exact cf_write k (sum_nn h1)
    · exact cf_write k (sum_nn h1)
    · exact cf_write k (prod_nn h1)
    · exact cf_write k (quo_nn h1)
  · exact cf_nan k

def fcmp (op : BinOp) (k : FloatKind) (x y : Nat) : Bool :=
  match op with
  | .eql => k.format.order x y == some .eq
  | .neq => k.format.order x y != some .eq
  | .lss => k.format.order x y == some .lt
  | .leq => k.format.order x y == some .lt || k.format.order x y == some .eq
  | .gtr => k.format.order x y == some .gt
  | .geq => k.format.order x y == some .gt || k.format.order x y == some .eq
  | _ => false
def isCmp : BinOp → Bool
  | .eql | .neq | .lss | .leq | .gtr | .geq => true
  | _ => false
theorem order_canon (k : FloatKind) (x y : Nat) : k.format.order x y = k.format.order (canon k x) (canon k y) := alk_order (alk_canon k x) (alk_canon k y)

theorem nan_cut (k : FloatKind) (t x y : Nat) : isNaNb k ((Question.nanBits k x y).cut t) = true ∧ (Question.nanBits k x y).cut t < bound k := by
  cases k
  · simp only [Question.cut, isNaNb, bound, Nat.blt_eq]
    have h1 : t % 2 < 2 := Nat.mod_lt _ (by omega)
    have h2 : t / 2 % (2 ^ 23 - 1) < 2 ^ 23 - 1 := Nat.mod_lt _ (by decide)
    have h3 : (2 : Nat) ^ 23 - 1 = 8388607 := by decide
    have h4 : (2 : Nat) ^ 31 = 2147483648 := by decide
    rw [h3] at *; rw [h4]
    have h5 : t % 2 = 0 ∨ t % 2 = 1 := by omega
    rcases h5 with h5 | h5 <;> rw [h5] <;> omega
  · simp only [Question.cut, isNaNb, bound, Nat.blt_eq]
    have h1 : t % 2 < 2 := Nat.mod_lt _ (by omega)
    have h2 : t / 2 % (2 ^ 52 - 1) < 2 ^ 52 - 1 := Nat.mod_lt _ (by decide)
    have h3 : (2 : Nat) ^ 52 - 1 = 4503599627370495 := by decide
    have h4 : (2 : Nat) ^ 63 = 9223372036854775808 := by decide
    rw [h3] at *; rw [h4]
    have h5 : t % 2 = 0 ∨ t % 2 = 1 := by omega
    rcases h5 with h5 | h5 <;> rw [h5] <;> omega
theorem conv_cut (k : FloatKind) (t b : Nat) : isNaNb k ((Question.nanConv k b).cut t) = true ∧ (Question.nanConv k b).cut t < bound k := by
  have := nan_cut k t 0 0
  cases k <;> exact this

variable {P : Program} {G K : Mem} {ρ : Place} {H H' : Heap} {w w' : World} {env : Env} {a : Act} {n : Nat}
section ops
variable {d : Option Tmp} {ty : TypeId} {pos : String} {after : Array Edge} {gu : Option (Nat × Bool)} {av : AV}

/-- A float among the operands: what is told of it. -/
def fltO (env : Env) (x : Operand) : Option (FloatKind × Nat) := match opndO env x with
  | some (.flt k b) => some (k, b)
  | some (.val (.float k b)) => bif isNaNb k b then some (k, nanb k) else some (k, b)
  | _ => none
theorem flt_ok {m : Nat} {x : Operand} {k : FloatKind} {b : Nat} (he : EnvOk K ρ m env a) (h : fltO env x = some (k, b)) : ∃ b', a.eval x = .float k b' ∧ canon k b' = b := by
  unfold fltO at h
  split at h
  · rename_i k' b0 ho
    have := (rel_opnd he x).2
    rw [opndO_eq ho] at this
    simp only [rel] at this
    obtain ⟨b', h1, _, h2⟩ := this
    simp only [Option.some.injEq, Prod.mk.injEq] at h
    obtain ⟨rfl, rfl⟩ := h
    exact ⟨b', h1, h2⟩
  · rename_i k' b0 ho
    have := (rel_opnd he x).2
    rw [opndO_eq ho] at this
    simp only [rel] at this
    cases hn : isNaNb k' b0
    · rw [hn] at h
      simp only [cond_false, Option.some.injEq, Prod.mk.injEq] at h
      obtain ⟨rfl, rfl⟩ := h
      exact ⟨b0, this, canon_of_not hn⟩
    · rw [hn] at h
      simp only [cond_true, Option.some.injEq, Prod.mk.injEq] at h
      obtain ⟨rfl, rfl⟩ := h
      exact ⟨b0, this, canon_nan hn⟩
  · simp at h

theorem XOp.farith {op : BinOp} {x y : Operand} {t u : TypeId} {k : FloatKind} {m n : Nat} (ho : isAr op = true) (hx : fltO env x = some (k, m)) (hy : fltO env y = some (k, n)) :
    XOp P G env H ⟨d, .binOp op t x y u, ty, pos, after, gu⟩ (.flt k (fop op k m n)) H := by
  refine ⟨fun K ρ w a g he => ?_⟩
  obtain ⟨x', hx1, hx2⟩ := flt_ok he hx
  obtain ⟨y', hy1, hy2⟩ := flt_ok he hy
  have key : ∃ v w', (execOp a.eval ⟨d, .binOp op t x y u, ty, pos, after, gu⟩).run P w = .ok (.value v) w' ∧ Alike w w' ∧ rel K ρ (.flt k (fop op k m n)) v := by
    have e1 := alk_canon k x'
    have e2 := alk_canon k y'
    rw [hx2] at e1
    rw [hy2] at e2
    have hres : fraw op k x' y' = fraw op k m n := by
      cases op <;> simp only [isAr, Bool.false_eq_true] at ho <;> simp only [fraw, Format.add, Format.sub, Format.mul, Format.div]
      · rw [alk_sum e1 e2]
      · rw [alk_sum e1 (alk_opp e2)]
      · rw [alk_prod e1 e2]
      · rw [alk_quo e1 e2]
    have hcf := cf_fop op k m n
    have hrun : (execOp a.eval ⟨d, .binOp op t x y u, ty, pos, after, gu⟩).run P w =
        (match fraw op k x' y' with
          | some r => .ok (.value (.float k r)) w
          | none => .ok (.value (.float k ((Question.nanBits k x' y').cut (w.tape w.drawn (.nanBits k x' y'))))) { w with drawn := w.drawn + 1 }) := by
      cases op <;> simp only [isAr, Bool.false_eq_true] at ho <;> simp only [execOp, hx1, hy1, eqGuard_at_float, binOp, Op.floatArith, Sem.run_bind, Sem.run_pure, Result.andThen_ok, ne_eq, not_true, if_false, fraw]
      · cases k.format.add x' y' <;> simp [choose, Sem.run, Question.forced]
      · cases k.format.sub x' y' <;> simp [choose, Sem.run, Question.forced]
      · cases k.format.mul x' y' <;> simp [choose, Sem.run, Question.forced]
      · cases k.format.div x' y' <;> simp [choose, Sem.run, Question.forced]
    rw [hrun, hres]
    unfold fop at hcf ⊢
    split
    · rename_i r hr
      rw [hr] at hcf
      exact ⟨_, _, rfl, Alike.refl w, by simpa only [hr] using rel_flt hcf⟩
    · rename_i hr
      refine ⟨_, _, rfl, ⟨rfl, rfl, rfl, rfl⟩, ?_⟩
      obtain ⟨c1, c2⟩ := nan_cut k (w.tape w.drawn (.nanBits k x' y')) x' y'
      simp only [rel]
      exact ⟨_, rfl, c2, canon_nan c1⟩
  obtain ⟨v, w', e1, e2, e3⟩ := key
  rw [e1]
  exact XPost.pure g e2 e3 rfl

theorem XOp.fcmp {op : BinOp} {x y : Operand} {t u : TypeId} {k : FloatKind} {m n : Nat} (ho : isCmp op = true) (hx : fltO env x = some (k, m)) (hy : fltO env y = some (k, n)) :
    XOp P G env H ⟨d, .binOp op t x y u, ty, pos, after, gu⟩ (.val (.bool (fcmp op k m n))) H := by
  refine ⟨fun K ρ w a g he => ?_⟩
  obtain ⟨x', hx1, hx2⟩ := flt_ok he hx
  obtain ⟨y', hy1, hy2⟩ := flt_ok he hy
  have hord : k.format.order x' y' = k.format.order m n := by rw [order_canon k x' y', hx2, hy2]
  have hrun : (execOp a.eval ⟨d, .binOp op t x y u, ty, pos, after, gu⟩).run P w = .ok (.value (.bool (Ax.fcmp op k m n))) w := by
    cases op <;> simp only [isCmp, Bool.false_eq_true] at ho <;> simp only [execOp, hx1, hy1, eqGuard_at_float, binOp, Op.floatCmp, Sem.run_bind, Sem.run_pure, Result.andThen_ok, ne_eq, not_true, if_false, hord, Ax.fcmp]
  rw [hrun]
  exact XPost.pure g (Alike.refl w) (by simp [rel]) rfl

def fneg (k : FloatKind) (x : Nat) : Nat := bif isNaNb k x then nanb k else Op.negFloat k x
theorem nan_neg (k : FloatKind) {b : Nat} (hb : b < bound k) : isNaNb k (Op.negFloat k b) = isNaNb k b ∧ Op.negFloat k b < bound k := by
  cases k
  · have e : Op.negFloat .f32 b = b ^^^ 2 ^ 31 := rfl
    rw [e]
    have hx : b ^^^ 2 ^ 31 < 2 ^ 32 := Nat.xor_lt_two_pow hb (by decide)
    refine ⟨?_, hx⟩
    have hmod : (b ^^^ 2 ^ 31) % 2 ^ 31 = b % 2 ^ 31 := by
      rw [Nat.xor_mod_two_pow, Nat.mod_self, Nat.xor_zero]
    simp only [isNaNb]
    rw [show (2147483648 : Nat) = 2 ^ 31 from rfl, hmod]
  · have e : Op.negFloat .f64 b = b ^^^ 2 ^ 63 := rfl
    rw [e]
    have hx : b ^^^ 2 ^ 63 < 2 ^ 64 := Nat.xor_lt_two_pow hb (by decide)
    refine ⟨?_, hx⟩
    have hmod : (b ^^^ 2 ^ 63) % 2 ^ 63 = b % 2 ^ 63 := by
      rw [Nat.xor_mod_two_pow, Nat.mod_self, Nat.xor_zero]
    simp only [isNaNb]
    rw [show (9223372036854775808 : Nat) = 2 ^ 63 from rfl, hmod]
theorem XOp.fneg {x : Operand} {t : TypeId} {k : FloatKind} {m : Nat} (hx : opndO env x = some (.flt k m)) :
    XOp P G env H ⟨d, .unOp .neg t x, ty, pos, after, gu⟩ (.flt k (fneg k m)) H := by
  refine XOp.of_run1 hx (fun _ _ => rfl) fun K ρ w a h1 => ?_
  simp only [rel] at h1
  obtain ⟨b', hv, hb, rfl⟩ := h1
  obtain ⟨c1, c2⟩ := nan_neg k hb
  refine ⟨.float k (Op.negFloat k b'), w, by simp [execOp, hv, Op.unary], Alike.refl w, ?_⟩
  simp only [rel]
  refine ⟨_, rfl, c2, ?_⟩
  unfold Ax.fneg
  rw [isNaN_canon]
  cases hn : isNaNb k b'
  · rw [canon_of_not hn, cond_false]; rw [hn] at c1; exact canon_of_not c1
  · rw [cond_true]; rw [hn] at c1; exact canon_nan c1

/-! ### conversions -/
theorem XOp.cvtIF (T : Tab P) {x : Operand} {s t : TypeId} {i j : TI} {ki : IntKind} {k : FloatKind} {m : Int} (hx : opndO env x = some (.val (.int ki m))) (hs : tyAt T.l s = some i) (ht : tyAt T.l t = some j) (hd : j.d = .flt k) :
    XOp P G env H ⟨d, .convert s t x, ty, pos, after, gu⟩ (.flt k (k.nearest m)) H := by
  refine XOp.of_run1 hx (fun _ _ => rfl) fun K ρ w a h1 => ?_
  simp only [rel] at h1
  have h2 := (T.is ht).desc
  rw [hd] at h2
  have h3 : ∃ ds, P.underlying s = some ds := by
    have := (T.is hs).desc
    unfold TDIs at this
    cases hk : i.d <;> rw [hk] at this <;> simp only [] at this <;> first | exact ⟨_, this⟩ | (obtain ⟨x, h, _⟩ := this; exact ⟨_, h⟩)
  obtain ⟨ds, h3⟩ := h3
  refine ⟨.float k (k.nearest m), w, ?_, Alike.refl w, ?_⟩
  · have h2' : P.underlying t = some (.float k) := h2
    simp [execOp, convert, underlying, h3, h2', h1, Conv.intToFloat]
  · exact rel_flt (cf_write k (d := .number (decide (m < 0)) m.natAbs 0) rfl)

/-- one float to another width, where it does not overflow -/
def fcvt (s k : FloatKind) (x : Nat) : Nat := match s.decode x with
  | .nan _ _ => nanb k
  | .infinity g => k.encode (.infinity g)
  | .number g m e => k.encode (.number g m e)
def fcvtOk (s k : FloatKind) (x : Nat) : Bool := match s.decode x with
  | .number g m e => !(k.decode (k.encode (.number g m e))).isInfinity
  | _ => true
theorem XOp.cvtFF (T : Tab P) {x : Operand} {t u : TypeId} {i j : TI} {s k : FloatKind} {m : Nat} (hx : fltO env x = some (s, m)) (hs : tyAt T.l t = some i) (ht : tyAt T.l u = some j) (hd : j.d = .flt k) (hne : decide (s ≠ k) = true) (hok : fcvtOk s k m = true) :
    XOp P G env H ⟨d, .convert t u x, ty, pos, after, gu⟩ (.flt k (fcvt s k m)) H := by
  refine ⟨fun K ρ w a g he => ?_⟩
  obtain ⟨x', hx1, hx2⟩ := flt_ok he hx
  have h2 := (T.is ht).desc
  rw [hd] at h2
  have h3 : ∃ ds, P.underlying t = some ds := by
    have := (T.is hs).desc
    unfold TDIs at this
    cases hk : i.d <;> rw [hk] at this <;> simp only [] at this <;> first | exact ⟨_, this⟩ | (obtain ⟨x, h, _⟩ := this; exact ⟨_, h⟩)
  obtain ⟨ds, h3⟩ := h3
  have h2' : P.underlying u = some (.float k) := h2
  have hne' : s ≠ k := by simpa using hne
  have hexec : (execOp a.eval ⟨d, .convert t u x, ty, pos, after, gu⟩).run P w = ((Conv.floatToFloat s x' k).run P w).andThen fun v w' => .ok (.value v) w' := by
    simp [execOp, convert, underlying, h3, h2', hx1]
  rw [hexec]
  have hal := alk_canon s x'
  rw [hx2] at hal
  unfold fcvtOk at hok
  unfold fcvt
  simp only [Conv.floatToFloat, hne', if_false]
  have hdec : s.decode x' = s.format.read x' := rfl
  have hdec2 : s.decode m = s.format.read m := rfl
  rcases hal with hal | ⟨n1, n2⟩
  · rw [hdec, hal, ← hdec2]
    cases hm : s.decode m with
    | nan q r =>
      obtain ⟨c1, c2⟩ := conv_cut k (w.tape w.drawn (.nanConv k x')) x'
      refine (show XPost G K ρ H w (.flt k (nanb k)) H (.float k ((Question.nanConv k x').cut (w.tape w.drawn (.nanConv k x')))) { w with drawn := w.drawn + 1 } from ?_)
      refine XPost.pure (av := .flt k (nanb k)) g (Alike.drew w) ?_ rfl
      simp only [rel]
      exact ⟨_, rfl, c2, canon_nan c1⟩
    | infinity q =>
      simp only [Sem.run_pure, Result.andThen_ok]
      exact XPost.pure g (Alike.refl w) (rel_flt (cf_write k rfl)) rfl
    | number q r e =>
      rw [hm] at hok
      simp only [Bool.not_eq_true'] at hok
      simp only [hok, Bool.false_eq_true, if_false, Sem.run_pure, Result.andThen_ok]
      exact XPost.pure g (Alike.refl w) (rel_flt (cf_write k rfl)) rfl
  · obtain ⟨q, r, e1⟩ := nan_form n1
    obtain ⟨q', r', e2⟩ := nan_form n2
    rw [hdec, e1, hdec2, e2]
    obtain ⟨c1, c2⟩ := conv_cut k (w.tape w.drawn (.nanConv k x')) x'
    refine (show XPost G K ρ H w (.flt k (nanb k)) H (.float k ((Question.nanConv k x').cut (w.tape w.drawn (.nanConv k x')))) { w with drawn := w.drawn + 1 } from ?_)
    refine XPost.pure (av := .flt k (nanb k)) g (Alike.drew w) ?_ rfl
    simp only [rel]
    exact ⟨_, rfl, c2, canon_nan c1⟩

/-- a float to an integer, where it is one of the kind -/
theorem XOp.cvtFI (T : Tab P) {x : Operand} {t u : TypeId} {i j : TI} {s : FloatKind} {k : IntKind} {m : Nat} {z : Int} (hx : fltO env x = some (s, m)) (hs : tyAt T.l t = some i) (ht : tyAt T.l u = some j) (hd : j.d = .int k) (hz : (s.decode m).toInt .zero = some z) (hr : k.min ≤ z ∧ z ≤ k.max) :
    XOp P G env H ⟨d, .convert t u x, ty, pos, after, gu⟩ (.val (.int k z)) H := by
  refine ⟨fun K ρ w a g he => ?_⟩
  obtain ⟨x', hx1, hx2⟩ := flt_ok he hx
  have h2 := (T.is ht).desc
  rw [hd] at h2
  have h3 : ∃ ds, P.underlying t = some ds := by
    have := (T.is hs).desc
    unfold TDIs at this
    cases hk : i.d <;> rw [hk] at this <;> simp only [] at this <;> first | exact ⟨_, this⟩ | (obtain ⟨x, h, _⟩ := this; exact ⟨_, h⟩)
  obtain ⟨ds, h3⟩ := h3
  have h2' : P.underlying u = some (.int k) := h2
  have hal := alk_canon s x'
  rw [hx2] at hal
  have hdz : (s.decode x').toInt .zero = some z := by
    rcases hal with hal | ⟨n1, n2⟩
    · rw [show s.decode x' = s.format.read x' from rfl, hal]; exact hz
    · obtain ⟨q', r', e2⟩ := nan_form n2
      rw [show s.decode m = s.format.read m from rfl, e2] at hz
      simp [Datum.toInt, Datum.integral] at hz
  have hexec : (execOp a.eval ⟨d, .convert t u x, ty, pos, after, gu⟩).run P w = .ok (.value (.int k z)) w := by
    simp only [execOp, convert, underlying, Sem.run_bind, run_program, Result.andThen_ok, h3, h2', Sem.run_pure, hx1, Conv.floatToInt, hdz, hr, and_self, if_true]
  rw [hexec]
  exact XPost.pure g (Alike.refl w) (by simp [rel]) rfl

theorem XOp.cvtII (T : Tab P) {x : Operand} {s t : TypeId} {i j : TI} {ki k : IntKind} {m c : Int} (hx : opndO env x = some (.val (.int ki m))) (hs : tyAt T.l s = some i) (ht : tyAt T.l t = some j) (hd : j.d = .int k) (hc : k.wrap m = c) :
    XOp P G env H ⟨d, .convert s t x, ty, pos, after, gu⟩ (.val (.int k c)) H := by
  refine XOp.of_run1 hx (fun _ _ => rfl) fun K ρ w a h1 => ?_
  simp only [rel] at h1
  have h2 := (T.is ht).desc
  rw [hd] at h2
  have h3 : ∃ ds, P.underlying s = some ds := by
    have := (T.is hs).desc
    unfold TDIs at this
    cases hk : i.d <;> rw [hk] at this <;> simp only [] at this <;> first | exact ⟨_, this⟩ | (obtain ⟨x, h, _⟩ := this; exact ⟨_, h⟩)
  obtain ⟨ds, h3⟩ := h3
  refine ⟨.int k c, w, ?_, Alike.refl w, rfl⟩
  have h2' : P.underlying t = some (.int k) := h2
  simp [execOp, convert, underlying, h3, h2', h1, Conv.intToInt, hc]
end ops
end Go.Ax
