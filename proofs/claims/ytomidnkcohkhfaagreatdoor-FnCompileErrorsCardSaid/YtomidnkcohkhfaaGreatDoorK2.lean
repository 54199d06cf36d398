/-
  Single operations over the book, and runs of code: a run ends as the book says.
-/
import Derived.Test.YtomidnkcohkhfaaGreatDoorK1
import Derived.Laws.Sem
import Derived.Laws.Cells
import Derived.Laws.Entries
namespace Go.Ax

abbrev Env := List (Nat × AV)
def look : Env → Nat → AV
  | [], _ => .any
  | (k, v) :: e, t => bif Nat.beq k t then v else look e t

def EnvOk (K : Mem) (ρ : Place) (m : Nat) (env : Env) (a : Act) : Prop :=
  ∀ t, (look env t).lim m = true ∧ rel K ρ (look env t) (a.tmps.getD t undef)

def constAV : Value → AV
  | .float k b => bif isNaNb k b then .val (.float k b) else bif Nat.blt b (bound k) then .flt k b else .val (.float k b)
  | .func (.func f) ⟨[]⟩ ⟨[]⟩ => .fn f []
  | v => .val v
def opnd (env : Env) : Operand → AV
  | .tmp t => look env t
  | .const v => constAV v
  | .global g => .val (.pointer (some ⟨g, 0, none⟩))
  | .func f => .fn f []

variable {P : Program} {G K : Mem} {ρ : Place} {H H' : Heap} {w w' : World} {env : Env} {a : Act}

def lookO : Env → Nat → Option AV
  | [], _ => none
  | (k, v) :: e, t => bif Nat.beq k t then some v else lookO e t
def constO : Value → Option AV
  | .float k b => bif isNaNb k b then some (.val (.float k b)) else bif Nat.blt b (bound k) then some (.flt k b) else some (.val (.float k b))
  | .func (.func f) ⟨[]⟩ ⟨[]⟩ => some (.fn f [])
  | v => some (.val v)
/-- The same, reckoned out. -/
def opndO (env : Env) : Operand → Option AV
  | .tmp t => lookO env t
  | .const v => constO v
  | .global g => some (.val (.pointer (some ⟨g, 0, none⟩)))
  | .func f => some (.fn f [])

theorem lookO_eq {env : Env} {t : Nat} {av : AV} (h : lookO env t = some av) : look env t = av := by
  induction env with
  | nil => simp [lookO] at h
  | cons p e ih =>
    obtain ⟨k, v⟩ := p
    simp only [lookO, look] at h ⊢
    cases hb : Nat.beq k t with
    | true => rw [hb] at h; simpa using h
    | false => rw [hb] at h; exact ih h
theorem opndO_eq {env : Env} {x : Operand} {av : AV} (h : opndO env x = some av) : opnd env x = av := by
  cases x with
  | tmp t => exact lookO_eq h
  | const v =>
    have : constO v = some (constAV v) := by
      unfold constO constAV
      split
      · cases isNaNb _ _ <;> simp
        cases Nat.blt _ _ <;> simp
      · rfl
      · rfl
    simp only [opndO, this, Option.some.injEq] at h
    exact h
  | global g => simpa [opndO, opnd] using h
  | func f => simpa [opndO, opnd] using h

theorem canon_of_not {k : FloatKind} {b : Nat} (h : isNaNb k b = false) : canon k b = b := by simp [canon, h]

theorem rel_constAV (v : Value) (m : Nat) : (constAV v).lim m = true ∧ rel K ρ (constAV v) v := by
  unfold constAV
  split
  · rename_i k b
    cases h : isNaNb k b
    · cases h2 : Nat.blt b (bound k)
      · simp [AV.lim, rel]
      · simp only [cond_false, cond_true, AV.lim, rel, true_and]
        exact ⟨b, rfl, by simpa using h2, canon_of_not h⟩
    · simp [AV.lim, rel]
  · simp [AV.lim, AV.lims, rel, rels]
  · simp [AV.lim, rel]

theorem rel_opnd {m : Nat} (h : EnvOk K ρ m env a) (x : Operand) : (opnd env x).lim m = true ∧ rel K ρ (opnd env x) (a.eval x) := by
  cases x with
  | tmp t => exact h t
  | const v => exact rel_constAV v m
  | global g => simp [opnd, AV.lim, rel, Act.eval]
  | func f => simp [opnd, AV.lim, AV.lims, rel, rels, Act.eval]

/-- What an operation comes to. -/
def XPost (G : Mem) (K : Mem) (ρ : Place) (H : Heap) (w : World) (av : AV) (H' : Heap) (v : Value) (w' : World) : Prop :=
  ∃ K' ρ', Good G K' ρ' H' w' ∧ Ext K ρ H w K' ρ' H' w' ∧ rel K' ρ' av v ∧ av.lim H'.length = true

def XUpon (P : Program) (Q : Value → World → Prop) : Result Next → Prop
  | .ok (.value v) w' => Q v w'
  | .ok .skip w' => Q undef w'
  | .ok (.enter f args) w' => Calls P f args w' fun e w'' => ∃ v, e = .returned v ∧ Q v w''
  | .ok (.row row args) w' => Rows P row args w' Q
  | _ => False

structure XOp (P : Program) (G : Mem) (env : Env) (H : Heap) (o : Oper) (av : AV) (H' : Heap) : Prop where
  run : ∀ K ρ w a, Good G K ρ H w → EnvOk K ρ H.length env a → XUpon P (XPost G K ρ H w av H') ((execOp a.eval o).run P w)

theorem XUpon.mono {Q Q' : Value → World → Prop} (h : ∀ v w, Q v w → Q' v w) {r : Result Next} (hr : XUpon P Q r) : XUpon P Q' r := by
  cases r with
  | ok n w' =>
    cases n <;> simp only [XUpon] at hr ⊢ <;>
      first
        | exact h _ _ hr
        | exact hr.mono (fun e w'' ⟨v, he, hq⟩ => ⟨v, he, h _ _ hq⟩)
        | exact hr.mono (fun v w'' hq => h _ _ hq)
  | halt x w' => simp only [XUpon] at hr

theorem XUpon.wp {o : Oper} {next : Act → World → Prop} {Q : Exit → Act → World → Prop} (h : XUpon P (fun v w' => next (a.put o.dst v) w') ((execOp a.eval o).run P w)) : o.wp P a w next Q := by
  unfold Oper.wp
  generalize (execOp a.eval o).run P w = r at h
  cases r with
  | ok n w' =>
    cases n <;> simp only [XUpon] at h <;> simp only [Oper.upon]
    case value v => exact h
    case skip => exact h
    case enter f args => exact h.mono (fun e w'' ⟨v, he, hq⟩ => by subst he; exact hq)
    case row r args => exact h
  | halt x w' => simp only [XUpon] at h

/-- A value in the world that it got, but for draws. -/
theorem XPost.pure (g : Good G K ρ H w) (hw : Alike w w') {av : AV} {v : Value} (hr : rel K ρ av v) (hl : av.lim H.length = true) : XPost G K ρ H w av H v w' :=
  ⟨K, ρ, g.alike hw, Ext.alike hw, hr, hl⟩

section ops
variable {d : Option Tmp} {ty : TypeId} {pos : String} {after : Array Edge} {gu : Option (Nat × Bool)} {av : AV}

theorem XOp.move {x : Operand} (h : opndO env x = some av) : XOp P G env H ⟨d, .move x, ty, pos, after, gu⟩ av H := by
  refine ⟨fun K ρ w a g he => ?_⟩
  obtain ⟨h1, h2⟩ := rel_opnd he x
  rw [opndO_eq h] at h1 h2
  exact XPost.pure g (Alike.refl w) h2 h1
theorem XOp.assign {x : Operand} (h : opndO env x = some av) : XOp P G env H ⟨d, .assign x, ty, pos, after, gu⟩ av H := by
  refine ⟨fun K ρ w a g he => ?_⟩
  obtain ⟨h1, h2⟩ := rel_opnd he x
  rw [opndO_eq h] at h1 h2
  exact XPost.pure g (Alike.refl w) h2 h1
theorem XOp.pick {c x y : Operand} {b : Bool} (hc : opndO env c = some (.val (.bool b))) (h : (bif b then opndO env x else opndO env y) = some av) :
    XOp P G env H ⟨d, .pick c x y, ty, pos, after, gu⟩ av H := by
  refine ⟨fun K ρ w a g he => ?_⟩
  obtain ⟨_, h2⟩ := rel_opnd he c
  rw [opndO_eq hc] at h2
  simp only [rel] at h2
  simp only [execOp, h2, asBool]
  cases b
  · obtain ⟨h3, h4⟩ := rel_opnd he y
    rw [opndO_eq (show opndO env y = some av from h)] at h3 h4
    exact XPost.pure g (Alike.refl w) h4 h3
  · obtain ⟨h3, h4⟩ := rel_opnd he x
    rw [opndO_eq (show opndO env x = some av from h)] at h3 h4
    exact XPost.pure g (Alike.refl w) h4 h3

/-- An operation on one value whose outcome is reckoned from it alone. -/
theorem XOp.of_run1 {o : Oper} {x : Operand} {ax av : AV} (hx : opndO env x = some ax) (hl : ∀ m, ax.lim m = true → av.lim m = true)
    (h : ∀ (K : Mem) (ρ : Place) (w : World) (a : Act), rel K ρ ax (a.eval x) → ∃ v w', (execOp a.eval o).run P w = .ok (.value v) w' ∧ Alike w w' ∧ rel K ρ av v) : XOp P G env H o av H := by
  refine ⟨fun K ρ w a g he => ?_⟩
  obtain ⟨h1, h2⟩ := rel_opnd he x
  rw [opndO_eq hx] at h1 h2
  obtain ⟨v, w', e1, e2, e3⟩ := h K ρ w a h2
  rw [e1]
  exact XPost.pure g e2 e3 (hl _ h1)
theorem XOp.of_run2 {o : Oper} {x y : Operand} {ax ay av : AV} (hx : opndO env x = some ax) (hy : opndO env y = some ay) (hl : ∀ m, ax.lim m = true → ay.lim m = true → av.lim m = true)
    (h : ∀ (K : Mem) (ρ : Place) (w : World) (a : Act), rel K ρ ax (a.eval x) → rel K ρ ay (a.eval y) → ∃ v w', (execOp a.eval o).run P w = .ok (.value v) w' ∧ Alike w w' ∧ rel K ρ av v) : XOp P G env H o av H := by
  refine ⟨fun K ρ w a g he => ?_⟩
  obtain ⟨h1, h2⟩ := rel_opnd he x
  obtain ⟨h3, h4⟩ := rel_opnd he y
  rw [opndO_eq hx] at h1 h2
  rw [opndO_eq hy] at h3 h4
  obtain ⟨v, w', e1, e2, e3⟩ := h K ρ w a h2 h4
  rw [e1]
  exact XPost.pure g e2 e3 (hl _ h1 h3)

/-! ### integers, bools, strings -/
theorem XOp.arith {op : BinOp} {k : IntKind} {x y : Operand} {t u : TypeId} {m n c : Int} (hx : opndO env x = some (.val (.int k m))) (hy : opndO env y = some (.val (.int k n)))
    (h : (match op with | .add => some (k.wrap (m + n)) | .sub => some (k.wrap (m - n)) | .mul => some (k.wrap (m * n)) | _ => none) = some c) :
    XOp P G env H ⟨d, .binOp op t x y u, ty, pos, after, gu⟩ (.val (.int k c)) H := by
  refine XOp.of_run2 hx hy (fun _ _ _ => rfl) fun K ρ w a h1 h2 => ?_
  simp only [rel] at h1 h2
  refine ⟨.int k c, w, ?_, Alike.refl w, rfl⟩
  cases op <;> simp only [reduceCtorEq] at h <;> cases h <;> simp [execOp, h1, h2, eqGuard_at_int, binOp, Op.intArith]

/-- Within the bounds of the kind. -/
def _root_.Go.IntKind.InR : IntKind → Int → Prop
  | .i8, n => -128 ≤ n ∧ n ≤ 127
  | .i16, n => -32768 ≤ n ∧ n ≤ 32767
  | .i32, n => -2147483648 ≤ n ∧ n ≤ 2147483647
  | .i64, n => -9223372036854775808 ≤ n ∧ n ≤ 9223372036854775807
  | .u8, n => 0 ≤ n ∧ n ≤ 255
  | .u16, n => 0 ≤ n ∧ n ≤ 65535
  | .u32, n => 0 ≤ n ∧ n ≤ 4294967295
  | .u64, n => 0 ≤ n ∧ n ≤ 18446744073709551615
theorem wrap_in {k : IntKind} {n : Int} (h : k.InR n) : k.wrap n = n := by
  cases k <;> simp only [IntKind.InR] at h <;> simp only [IntKind.wrap, IntKind.signed, IntKind.bits] <;> simp <;> omega

theorem XOp.arithI {op : BinOp} {k : IntKind} {x y : Operand} {t u : TypeId} {m n c : Int} (hx : opndO env x = some (.val (.int k m))) (hy : opndO env y = some (.val (.int k n)))
    (h : (match op with | .add => some (m + n) | .sub => some (m - n) | .mul => some (m * n) | _ => none) = some c) (hr : k.InR c) :
    XOp P G env H ⟨d, .binOp op t x y u, ty, pos, after, gu⟩ (.val (.int k c)) H := by
  refine XOp.arith hx hy ?_
  cases op <;> simp only [reduceCtorEq] at h <;> cases h <;> simp only [Option.some.injEq] <;> exact wrap_in hr

theorem XOp.cmp {op : BinOp} {k : IntKind} {x y : Operand} {t u : TypeId} {m n : Int} {b : Bool} (hx : opndO env x = some (.val (.int k m))) (hy : opndO env y = some (.val (.int k n)))
    (h : (match op with | .eql => some (decide (m = n)) | .neq => some (!decide (m = n)) | .lss => some (decide (m < n)) | .leq => some (decide (m ≤ n)) | .gtr => some (decide (m > n)) | .geq => some (decide (m ≥ n)) | _ => none) = some b) :
    XOp P G env H ⟨d, .binOp op t x y u, ty, pos, after, gu⟩ (.val (.bool b)) H := by
  refine XOp.of_run2 hx hy (fun _ _ _ => rfl) fun K ρ w a h1 h2 => ?_
  simp only [rel] at h1 h2
  refine ⟨.bool b, w, ?_, Alike.refl w, rfl⟩
  cases op <;> simp only [reduceCtorEq] at h <;> cases h <;> simp [execOp, h1, h2, eqGuard_at_int, binOp, Op.intCmp] <;> rfl

theorem XOp.not {t : TypeId} {x : Operand} {b c : Bool} (hx : opndO env x = some (.val (.bool b))) (h : (!b) = c) : XOp P G env H ⟨d, .unOp .not t x, ty, pos, after, gu⟩ (.val (.bool c)) H := by
  refine XOp.of_run1 hx (fun _ _ => rfl) fun K ρ w a h1 => ?_
  simp only [rel] at h1
  exact ⟨.bool c, w, by simp [execOp, h1, Op.unary, h], Alike.refl w, rfl⟩
end ops
end Go.Ax
namespace Go.Ax

variable {P : Program} {G K K1 : Mem} {ρ ρ1 : Place} {H H' H1 : Heap} {w w' w1 : World} {env env' : Env} {a : Act} {n : Nat}

abbrev Post := Exit → Env → Heap → Prop

def WPost (G : Mem) (K : Mem) (ρ : Place) (H : Heap) (w : World) (n : Nat) (Q : Post) : Exit → Act → World → Prop := fun (e : Exit) (a' : Act) (w' : World) =>
  ∃ env' H' K' ρ', Q e env' H' ∧ Good G K' ρ' H' w' ∧ EnvOk K' ρ' H'.length env' a' ∧ a'.tmps.size = n ∧ a'.defers = [] ∧ Ext K ρ H w K' ρ' H' w'

structure W (P : Program) (G : Mem) (n : Nat) (c : Code) (env : Env) (H : Heap) (Q : Post) : Prop where
  run : ∀ K ρ w a, Good G K ρ H w → EnvOk K ρ H.length env a → a.tmps.size = n → a.defers = [] → c.wp P (WPost G K ρ H w n Q) a w

theorem WPost.of {Q : Post} {e : Exit} (hq : Q e env H) (g : Good G K ρ H w) (he : EnvOk K ρ H.length env a) (hs : a.tmps.size = n) (hd : a.defers = []) : WPost G K ρ H w n Q e a w :=
  ⟨env, H, K, ρ, hq, g, he, hs, hd, Ext.refl _ _ _ _⟩
theorem WPost.trans {Q : Post} {e : Exit} {a' : Act} (g : Good G K ρ H w) (g1 : Good G K1 ρ1 H1 w1) (e1 : Ext K ρ H w K1 ρ1 H1 w1) (h : WPost G K1 ρ1 H1 w1 n Q e a' w') : WPost G K ρ H w n Q e a' w' := by
  obtain ⟨env', H', K', ρ', h1, h2, h3, h4, h5, h6⟩ := h
  exact ⟨env', H', K', ρ', h1, h2, h3, h4, h5, e1.trans g g1 h6⟩

theorem W.mono {c : Code} {Q Q' : Post} (h : W P G n c env H Q) (hq : ∀ e env H, Q e env H → Q' e env H) : W P G n c env H Q' := ⟨fun K ρ w a g he hs hd =>
  wp_mono (h.run K ρ w a g he hs hd) fun _ _ _ ⟨env', H', K', ρ', h1, h2⟩ => ⟨env', H', K', ρ', hq _ _ _ h1, h2⟩⟩

def thenP (nx : Env → Heap → Prop) (Q : Post) : Post
  | .normal, e, H => nx e H
  | x, e, H => Q x e H

theorem W.seq {x y : Code} {Q : Post} (h : W P G n x env H (thenP (fun env H => W P G n y env H Q) Q)) : W P G n (.seq x y) env H Q := by
  refine ⟨fun K ρ w a g he hs hd => ?_⟩
  refine wp_seq (wp_mono (h.run K ρ w a g he hs hd) ?_)
  rintro e a1 w1 ⟨env1, H1, K1, ρ1, h1, g1, he1, hs1, hd1, e1⟩
  cases e with
  | normal =>
    have h2 : W P G n y env1 H1 Q := h1
    exact wp_mono (h2.run K1 ρ1 w1 a1 g1 he1 hs1 hd1) fun _ _ _ h => h.trans g g1 e1
  | _ => exact ⟨env1, H1, K1, ρ1, h1, g1, he1, hs1, hd1, e1⟩

theorem W.skip {Q : Post} (h : Q .normal env H) : W P G n .skip env H Q := ⟨fun _ _ _ _ g he hs hd => wp_skip (.of h g he hs hd)⟩
theorem W.exit {Q : Post} {id : Nat} (h : Q (.exit id) env H) : W P G n (.exit id) env H Q := ⟨fun _ _ _ _ g he hs hd => wp_exit (.of h g he hs hd)⟩
theorem W.ret {Q : Post} (h : Q .ret env H) : W P G n .ret env H Q := ⟨fun _ _ _ _ g he hs hd => wp_ret (.of h g he hs hd)⟩

theorem W.cond {c : Operand} {x y : Code} {Q : Post} {b : Bool} (hc : opndO env c = some (.val (.bool b))) (ht : b = true → W P G n x env H Q) (hf : b = false → W P G n y env H Q) : W P G n (.cond c x y) env H Q := by
  refine ⟨fun K ρ w a g he hs hd => ?_⟩
  have h := (rel_opnd he c).2
  rw [opndO_eq hc] at h
  simp only [rel] at h
  cases b with
  | true => exact Go.wp_cond h ((ht rfl).run K ρ w a g he hs hd)
  | false => exact Go.wp_cond h ((hf rfl).run K ρ w a g he hs hd)
theorem W.condT {c : Operand} {x y : Code} {Q : Post} (hc : opndO env c = some (.val (.bool true))) (ht : W P G n x env H Q) : W P G n (.cond c x y) env H Q :=
  W.cond hc (fun _ => ht) (fun h => by cases h)
theorem W.condF {c : Operand} {x y : Code} {Q : Post} (hc : opndO env c = some (.val (.bool false))) (ht : W P G n y env H Q) : W P G n (.cond c x y) env H Q :=
  W.cond hc (fun h => by cases h) (fun _ => ht)
theorem W.condP {c : Operand} {x y : Code} {Q : Post} {p : Prop} {_ : Decidable p} (hc : opndO env c = some (.val (.bool (decide p)))) (ht : p → W P G n x env H Q) (hf : ¬ p → W P G n y env H Q) : W P G n (.cond c x y) env H Q :=
  W.cond hc (fun h => ht (of_decide_eq_true h)) (fun h => hf (of_decide_eq_false h))

def inBlockP (id : Nat) (Q : Post) : Post
  | .exit i, e, H => bif Nat.beq i id then Q .normal e H else Q (.exit i) e H
  | x, e, H => Q x e H
theorem W.block {id : Nat} {c : Code} {Q : Post} (h : W P G n c env H (inBlockP id Q)) : W P G n (.block id c) env H Q := by
  refine ⟨fun K ρ w a g he hs hd => ?_⟩
  refine wp_block (wp_mono (h.run K ρ w a g he hs hd) ?_)
  rintro e a1 w1 ⟨env1, H1, K1, ρ1, h1, h2⟩
  cases e with
  | exit i =>
    simp only [inBlockP] at h1
    simp only [Exit.inBlock]
    cases hi : Nat.beq i id with
    | true =>
      have e : i = id := Nat.eq_of_beq_eq_true hi
      rw [hi] at h1; rw [if_pos e]; exact ⟨env1, H1, K1, ρ1, h1, h2⟩
    | false =>
      have e : i ≠ id := Nat.ne_of_beq_eq_false hi
      rw [hi] at h1; rw [if_neg e]; exact ⟨env1, H1, K1, ρ1, h1, h2⟩
  | _ => exact ⟨env1, H1, K1, ρ1, h1, h2⟩

/-! ## the environment -/
theorem EnvOk.mono {m m' : Nat} {K' : Mem} {ρ' : Place} (h : EnvOk K ρ m env a) (hK : K.le K') (hρ : ∀ l, l < m → ρ' l = ρ l) (hm : m ≤ m') : EnvOk K' ρ' m' env a := fun t =>
  ⟨AV.lim_mono hm _ (h t).1, rel_mono hK hρ _ _ (h t).1 (h t).2⟩
theorem EnvOk.put {m : Nat} {d : Nat} {av : AV} {v : Value} (h : EnvOk K ρ m env a) (hd : d < a.tmps.size) (hl : av.lim m = true) (hr : rel K ρ av v) : EnvOk K ρ m ((d, av) :: env) (a.put (some d) v) := fun t => by
  simp only [look, Act.put]
  cases e : Nat.beq d t with
  | true =>
    have : d = t := by simpa using e
    subst this
    simp only [cond_true]
    refine ⟨hl, ?_⟩
    rw [Array.getD_eq_getD_getElem?, Array.getElem?_setIfInBounds_self_of_lt hd]
    exact hr
  | false =>
    have : d ≠ t := Nat.ne_of_beq_eq_false e
    simp only [cond_false]
    refine ⟨(h t).1, ?_⟩
    rw [Array.getD_eq_getD_getElem?, Array.getElem?_setIfInBounds_ne this, ← Array.getD_eq_getD_getElem?]
    exact (h t).2

/-- env' says no more than env. -/
def EnvLe (env' env : Env) : Prop := ∀ t, look env' t = .any ∨ look env' t = look env t
theorem EnvLe.ok {m : Nat} (hle : EnvLe env' env) (h : EnvOk K ρ m env a) : EnvOk K ρ m env' a := fun t => by
  rcases hle t with e | e <;> rw [e]
  · exact ⟨rfl, by simp [rel]⟩
  · exact h t
theorem W.weaken {c : Code} {Q : Post} (hle : EnvLe env' env) (h : W P G n c env' H Q) : W P G n c env H Q := ⟨fun K ρ w a g he hs hd => h.run K ρ w a g (hle.ok he) hs hd⟩
theorem EnvLe.nil : EnvLe [] env := fun _ => .inl rfl
theorem EnvLe.cons {t : Nat} {av : AV} (h : look env t = av) (hr : EnvLe env' env) : EnvLe ((t, av) :: env') env := fun s => by
  simp only [look]
  cases e : Nat.beq t s with
  | true =>
    have : t = s := by simpa using e
    subst this
    exact .inr h.symm
  | false => exact hr s

/-! ## regions -/
def opAt : List Oper → Nat → Option Oper
  | [], _ => none
  | o :: _, 0 => some o
  | _ :: l, j + 1 => opAt l j
theorem opAt_eq (l : List Oper) (j : Nat) : opAt l j = l[j]? := by
  induction l generalizing j with
  | nil => simp [opAt]
  | cons o l ih => cases j <;> simp [opAt, ih]

/-- Is the operation wanted? -/
def wantedB (ops : List Oper) (env : Env) : Option (Nat × Bool) → Option Bool
  | none => some true
  | some (j, b) => match opAt ops j with
    | some o => match o.dst with
      | some g => match look env g with
        | .val (.bool b') => some (Bool.and (Bool.or b' (!b)) (Bool.or (!b') b))
        | .val (.tuple _) => some false
        | _ => none
      | none => none
    | none => none

theorem wanted_of {ops : List Oper} {o : Oper} {m : Nat} {b : Bool} (h : wantedB ops env o.guard = some b) (he : EnvOk K ρ m env a) : Region.wanted o (yielded ⟨ops⟩ a.tmps) = b := by
  unfold Region.wanted
  unfold wantedB at h
  cases hg : o.guard with
  | none => rw [hg] at h; simp at h ⊢; exact h
  | some p =>
    obtain ⟨j, want⟩ := p
    rw [hg] at h
    simp only [] at h ⊢
    cases ho : opAt ops j with
    | none => rw [ho] at h; simp at h
    | some oj =>
      rw [ho] at h
      simp only [] at h
      cases hd : oj.dst with
      | none => rw [hd] at h; simp at h
      | some g =>
        rw [hd] at h
        simp only [] at h
        have hr := (he g).2
        revert h
        cases hl : look env g with
        | val v =>
          cases v with
          | bool b' =>
            intro h
            rw [hl] at hr
            simp only [rel] at hr
            have hy : yielded ⟨ops⟩ a.tmps j = some b' := by
              unfold yielded
              rw [opAt_eq] at ho
              have : ((⟨ops⟩ : Array Oper)[j]?) = some oj := by simpa using ho
              rw [this]
              simp only [Option.bind_some, hd]
              rw [Array.getD_eq_getD_getElem?] at hr
              cases hx : a.tmps[g]? with
              | none => rw [hx] at hr; simp [undef] at hr
              | some u => rw [hx] at hr; simp at hr; rw [hr]
            rw [hy]
            simp only [Option.some.injEq] at h
            subst h
            cases b' <;> cases want <;> rfl
          | tuple us =>
            intro h
            rw [hl] at hr
            simp only [rel] at hr
            have hy : yielded ⟨ops⟩ a.tmps j = none := by
              unfold yielded
              rw [opAt_eq] at ho
              have : ((⟨ops⟩ : Array Oper)[j]?) = some oj := by simpa using ho
              rw [this]
              simp only [Option.bind_some, hd]
              rw [Array.getD_eq_getD_getElem?] at hr
              cases hx : a.tmps[g]? with
              | none => rfl
              | some u => rw [hx] at hr; simp at hr; rw [hr]
            rw [hy]
            simp only [Option.some.injEq] at h
            subst h
            rfl
          | _ => intro h; simp at h
        | _ => intro h; simp at h

/-- The operations of a region from number i on. -/
structure Wops (P : Program) (G : Mem) (n : Nat) (ops : List Oper) (l : List Oper) (env : Env) (H : Heap) (Q : Post) : Prop where
  run : ∀ i, (∀ j, ops[i + j]? = l[j]?) → ∀ K ρ w a, Good G K ρ H w → EnvOk K ρ H.length env a → a.tmps.size = n → a.defers = [] → wpOps P ⟨ops⟩ (WPost G K ρ H w n Q) (List.range' i l.length) a w

theorem W.region {id : Nat} {ops : List Oper} {Q : Post} (h : Wops P G n ops ops env H Q) : W P G n (.region id ⟨ops⟩ false) env H Q := by
  refine ⟨fun K ρ w a g he hs hd => ?_⟩
  refine wp_region ?_
  have := h.run 0 (fun j => by simp) K ρ w a g he hs hd
  rwa [List.range_eq_range'] 

theorem Wops.nil {ops : List Oper} {Q : Post} (h : Q .normal env H) : Wops P G n ops [] env H Q := ⟨fun i _ K ρ w a g he hs hd => by
  simp only [List.length_nil, List.range'_zero, wpOps]
  exact .of h g he hs hd⟩

theorem Wops.nilS {ops : List Oper} {y : Code} {Q Q' : Post} (h : W P G n y env H Q) : Wops P G n ops [] env H (thenP (fun env H => W P G n y env H Q) Q') := Wops.nil h

theorem XPost.envOk {av : AV} {v : Value} {K' : Mem} {ρ' : Place} {d : Nat} (g : Good G K ρ H w) (he : EnvOk K ρ H.length env a) (hd : d < a.tmps.size) (e : Ext K ρ H w K' ρ' H' w') (hr : rel K' ρ' av v) (hl : av.lim H'.length = true) :
    EnvOk K' ρ' H'.length ((d, av) :: env) (a.put (some d) v) :=
  (he.mono (e.le g) (fun l hl => e.plc l hl) e.len).put hd hl hr

theorem wpOps_mono {ops : Array Oper} {Q Q' : Exit → Act → World → Prop} (hq : ∀ e a w, Q e a w → Q' e a w) : ∀ (l : List Nat) (a : Act) (w : World), wpOps P ops Q l a w → wpOps P ops Q' l a w := by
  intro l
  induction l with
  | nil => intro a w h; exact hq _ _ _ h
  | cons i l ih =>
    intro a w h
    simp only [wpOps] at h ⊢
    split
    · rename_i ho; simp only [ho] at h; exact ih _ _ h
    · rename_i o ho
      simp only [ho] at h
      split
      · rename_i hw
        simp only [hw, if_true] at h
        rcases h with h | ⟨h1, a0, w0, h2⟩
        · refine .inl ?_
          unfold Oper.wp at *
          generalize (execOp a.eval o).run P w = r at *
          cases r with
          | ok n w' =>
            cases n <;> simp only [Oper.upon] at h ⊢ <;>
              first
                | exact ih _ _ h
                | exact Calls.mono h (fun e w'' he => by
                    cases e with
                    | returned v => exact ih _ _ he
                    | panicked c => exact hq _ _ _ he
                    | outgrown => obtain ⟨a0, w0, h0⟩ := he; exact ⟨a0, w0, hq _ _ _ h0⟩)
                | exact Rows.mono h (fun _ _ he => ih _ _ he)
          | halt x w' => cases x <;> simp only [Oper.upon] at h ⊢ <;> exact hq _ _ _ h
        · exact .inr ⟨h1, a0, w0, hq _ _ _ h2⟩
      · rename_i hw; simp only [hw] at h; exact ih _ _ h

theorem Wops.cons {ops rest : List Oper} {o : Oper} {d : Nat} {av : AV} {Q : Post} (hx : XOp P G env H o av H') (hg : wantedB ops env o.guard = some true) (hd : o.dst = some d) (hn : Nat.blt d n = true)
    (h : Wops P G n ops rest ((d, av) :: env) H' Q) : Wops P G n ops (o :: rest) env H Q := by
  refine ⟨fun i hi K ρ w a g he hs hdf => ?_⟩
  simp only [List.length_cons, List.range'_succ, wpOps]
  have h0 : (⟨ops⟩ : Array Oper)[i]? = some o := by simpa using hi 0
  rw [h0]
  simp only [wanted_of hg he, if_true]
  refine .inl (XUpon.wp ((hx.run K ρ w a g he).mono ?_))
  rintro v w1 ⟨K1, ρ1, g1, e1, hr1, hl1⟩
  rw [hd]
  have hdn : d < a.tmps.size := by rw [hs]; simpa using hn
  refine wpOps_mono (fun e a' w' hh => hh.trans g g1 e1) _ _ _ (h.run (i + 1) (fun j => ?_) K1 ρ1 w1 _ g1 (XPost.envOk g he hdn e1 hr1 hl1) (by simpa [Act.put] using hs) (by simpa [Act.put] using hdf))
  have := hi (j + 1)
  rw [show i + 1 + j = i + (j + 1) by omega, this]; simp

theorem Wops.consN {ops rest : List Oper} {o : Oper} {av : AV} {Q : Post} (hx : XOp P G env H o av H') (hg : wantedB ops env o.guard = some true) (hd : o.dst = none)
    (h : Wops P G n ops rest env H' Q) : Wops P G n ops (o :: rest) env H Q := by
  refine ⟨fun i hi K ρ w a g he hs hdf => ?_⟩
  simp only [List.length_cons, List.range'_succ, wpOps]
  have h0 : (⟨ops⟩ : Array Oper)[i]? = some o := by simpa using hi 0
  rw [h0]
  simp only [wanted_of hg he, if_true]
  refine .inl (XUpon.wp ((hx.run K ρ w a g he).mono ?_))
  rintro v w1 ⟨K1, ρ1, g1, e1, hr1, hl1⟩
  rw [hd]
  refine wpOps_mono (fun e a' w' hh => hh.trans g g1 e1) _ _ _ (h.run (i + 1) (fun j => ?_) K1 ρ1 w1 _ g1 (he.mono (e1.le g) (fun l hl => e1.plc l hl) e1.len) (by simpa [Act.put] using hs) (by simpa [Act.put] using hdf))
  have := hi (j + 1)
  rw [show i + 1 + j = i + (j + 1) by omega, this]; simp

theorem Wops.skip {ops rest : List Oper} {o : Oper} {d : Nat} {Q : Post} (hg : wantedB ops env o.guard = some false) (hd : o.dst = some d) (hn : Nat.blt d n = true)
    (h : Wops P G n ops rest ((d, .val undef) :: env) H Q) : Wops P G n ops (o :: rest) env H Q := by
  refine ⟨fun i hi K ρ w a g he hs hdf => ?_⟩
  simp only [List.length_cons, List.range'_succ, wpOps]
  have h0 : (⟨ops⟩ : Array Oper)[i]? = some o := by simpa using hi 0
  rw [h0]
  simp only [wanted_of hg he, Bool.false_eq_true, if_false]
  rw [hd]
  have hdn : d < a.tmps.size := by rw [hs]; simpa using hn
  refine h.run (i + 1) (fun j => ?_) K ρ w _ g (he.put hdn rfl (by simp [rel])) (by simpa [Act.put] using hs) (by simpa [Act.put] using hdf)
  have := hi (j + 1)
  rw [show i + 1 + j = i + (j + 1) by omega, this]; simp

theorem EnvOk.known {m : Nat} {g : Nat} {av : AV} (h : EnvOk K ρ m env a) (e : look env g = av) : EnvOk K ρ m ((g, av) :: env) a := fun t => by
  simp only [look]
  cases e1 : Nat.beq g t with
  | true =>
    have : g = t := by simpa using e1
    subst this
    rw [← e]; exact h g
  | false => exact h t

/-- A test whose outcome is open: both ways. -/
theorem Wops.split {ops l : List Oper} {g : Nat} {b : Bool} {Q : Post} (h0 : lookO env g = some (.val (.bool b)))
    (ht : b = true → Wops P G n ops l ((g, .val (.bool true)) :: env) H Q) (hf : b = false → Wops P G n ops l ((g, .val (.bool false)) :: env) H Q) : Wops P G n ops l env H Q := by
  have h := lookO_eq h0
  cases b with
  | true => exact ⟨fun i hi K ρ w a gd he hs hd => (ht rfl).run i hi K ρ w a gd (he.known h) hs hd⟩
  | false => exact ⟨fun i hi K ρ w a gd he hs hd => (hf rfl).run i hi K ρ w a gd (he.known h) hs hd⟩

/-! ## calls -/
/-- A function of the program's own text. -/
def Callable (P : Program) (f : FuncId) : Prop := ∃ fn, P.funcs[f]? = some fn ∧ (fn.name == "runtime.NumGoroutine") = false ∧ fn.body.isNone = false
structure ACall (P : Program) (G : Mem) (f : FuncId) (args : List AV) (H : Heap) (res : AV) (H' : Heap) : Prop where
  fn : Callable P f
  run : ∀ K ρ w vs, Good G K ρ H w → AV.lims H.length args = true → rels K ρ args vs → Calls P f ⟨vs⟩ w fun e w' => ∃ v, e = .returned v ∧ XPost G K ρ H w res H' v w'

def envOf : Nat → List AV → Env
  | _, [] => []
  | i, v :: vs => (i, v) :: envOf (i + 1) vs

theorem envOf_look (vs : List AV) : ∀ (i t : Nat), look (envOf i vs) t = if i ≤ t then (vs[t - i]?).getD .any else .any := by
  induction vs with
  | nil => intro i t; simp [envOf, look]
  | cons v vs ih =>
    intro i t
    simp only [envOf, look]
    cases e : Nat.beq i t with
    | true =>
      have : i = t := by simpa using e
      subst this; simp
    | false =>
      have hne : i ≠ t := Nat.ne_of_beq_eq_false e
      rw [cond_false, ih]
      by_cases h : i + 1 ≤ t
      · rw [if_pos h, if_pos (by omega), show t - i = (t - (i + 1)) + 1 by omega]; simp
      · rw [if_neg h, if_neg (by omega)]

theorem envOf_ok {m : Nat} {args : List AV} {vs : List Value} (hl : AV.lims m args = true) (hr : rels K ρ args vs) (k : Nat) (ds : List Deferred) :
    EnvOk K ρ m (envOf 0 args) { tmps := ⟨vs⟩ ++ Array.replicate k undef, defers := ds } := fun t => by
  rw [envOf_look]
  simp only [Nat.zero_le, if_true, Nat.sub_zero]
  cases h : args[t]? with
  | none => simp [rel, AV.lim]
  | some c =>
    simp only [Option.getD_some]
    refine ⟨lims_get hl h, ?_⟩
    obtain ⟨v, h1, h2⟩ := rels_get hr h
    have hlt : t < vs.length := (List.getElem?_eq_some_iff.1 h1).1
    rw [Array.getD_eq_getD_getElem?, Array.getElem?_append_left (by simpa using hlt)]
    simp [h1]; exact h2

end Go.Ax
namespace Go.Ax

inductive TD where
  | int (k : IntKind) | flt (k : FloatKind) | bool | str | ptr (e : Nat) | slice (e : Nat) | arr (n e : Nat) | st (fs : List (Nat × Nat)) | other
structure TI where
  size : Nat
  bytes : Nat
  zero : List AV
  d : TD
def TI.agg (i : TI) : Bool := match i.d with | .arr _ _ | .st _ => true | _ => false

def zval : AV → Value
  | .val v => v
  | .flt k b => .float k b
  | _ => undef
def zok : AV → Bool
  | .val v => v.one
  | .flt k b => Nat.beq b 0 || (Nat.beq b 0 && (k matches .f32))
  | _ => false

def TDIs (P : Program) (t : Nat) : TD → Prop
  | .int k => P.underlying t = some (.int k)
  | .flt k => P.underlying t = some (.float k)
  | .bool => P.underlying t = some .bool
  | .str => P.underlying t = some .string
  | .ptr e => P.underlying t = some (.pointer e)
  | .slice e => P.underlying t = some (.slice e)
  | .arr n e => P.underlying t = some (.array n e)
  | .st fs => ∃ fields, P.underlying t = some (.struct fields) ∧ fields.toList.map (fun f => (f.offset, f.type)) = fs
  | .other => ∃ d, P.underlying t = some d ∧ (match d with | .struct _ | .array _ _ => false | _ => true) = true

structure TyIs (P : Program) (t : Nat) (i : TI) : Prop where
  info : ∃ info, P.info? t = some info ∧ info.size = i.size ∧ info.bytes = i.bytes ∧ info.zero = some (if i.agg then .agg ⟨i.zero.map zval⟩ else (zval (i.zero.headD .any)))
  len : i.zero.length = i.size
  zok : i.zero.all zok = true
  one : i.agg = false → i.size = 1
  desc : TDIs P t i.d

def TyAll (P : Program) : Nat → List (Option TI) → Prop
  | _, [] => True
  | k, none :: l => TyAll P (k + 1) l
  | k, some i :: l => TyIs P k i ∧ TyAll P (k + 1) l

def tyAt : List (Option TI) → Nat → Option TI
  | [], _ => none
  | i :: _, 0 => i
  | _ :: l, t + 1 => tyAt l t

/-- The table of a program's types. -/
structure Tab (P : Program) where
  l : List (Option TI)
  ok : TyAll P 0 l

theorem TyAll.at {P : Program} : ∀ {l : List (Option TI)} {k t : Nat} {i : TI}, TyAll P k l → tyAt l t = some i → TyIs P (k + t) i
  | [], _, _, _, _, h => by simp [tyAt] at h
  | none :: l, k, 0, i, _, h => by simp [tyAt] at h
  | some j :: l, k, 0, i, ha, h => by simp only [tyAt, Option.some.injEq] at h; subst h; exact ha.1
  | none :: l, k, t + 1, i, ha, h => by have := TyAll.at (k := k + 1) ha h; rwa [show k + 1 + t = k + (t + 1) by omega] at this
  | some j :: l, k, t + 1, i, ha, h => by have := TyAll.at (k := k + 1) ha.2 h; rwa [show k + 1 + t = k + (t + 1) by omega] at this
theorem Tab.is {P : Program} (T : Tab P) {t : Nat} {i : TI} (h : tyAt T.l t = some i) : TyIs P t i := by
  have := TyAll.at T.ok h
  rwa [Nat.zero_add] at this

variable {P : Program} {G K K1 : Mem} {ρ ρ1 : Place} {H H' H1 : Heap} {w w' w1 : World} {env env' : Env} {a : Act} {n : Nat}

theorem TyIs.run_isAgg {t : Nat} {i : TI} (h : TyIs P t i) : (isAgg t).run P w = .ok i.agg w := by
  have hd := h.desc
  unfold TI.agg
  unfold TDIs at hd
  cases hk : i.d <;> rw [hk] at hd <;> simp only [] at hd
  case st fs => obtain ⟨fields, h1, _⟩ := hd; simp [isAgg, underlying, h1]
  case other =>
    obtain ⟨d, h1, h2⟩ := hd
    simp only [isAgg, underlying, Sem.run_bind, run_program, Result.andThen_ok, h1, Sem.run_pure]
    cases d <;> simp at h2 ⊢
  all_goals simp [isAgg, underlying, hd]
theorem TyIs.run_sizeOf {t : Nat} {i : TI} (h : TyIs P t i) : (sizeOf t).run P w = .ok i.size w := by
  obtain ⟨info, h1, h2, _⟩ := h.info
  simp [Go.sizeOf, typeInfo, h1, h2]
theorem TyIs.run_typeInfo {t : Nat} {i : TI} (h : TyIs P t i) : ∃ info, (typeInfo t).run P w = .ok info w ∧ info.bytes = i.bytes := by
  obtain ⟨info, h1, h2, h3, _⟩ := h.info
  exact ⟨info, by simp [Go.typeInfo, h1], h3⟩

/-- reading cells -/
theorem cell_at {b o : Nat} {row : Array Value} {t : TypeId} {fr : Nat × Nat} {v : Value} (h : w.heap[b]? = some (.cells row t fr)) (hv : row[o]? = some v) : w.cell? ⟨b, o, none⟩ = some v := by
  simp [World.cell?, h, hv]
theorem add_at (b o k : Nat) : (Addr.add ⟨b, o, none⟩ k) = ⟨b, o + k, none⟩ := by
  unfold Addr.add; split <;> simp_all

theorem load_cells {b o s : Nat} {cs : List AV} (hl : cs.length = s) (h : ∀ (i : Nat) c, cs[i]? = some c → ∃ v, w.cell? ⟨b, o + i, none⟩ = some v ∧ v.one = true ∧ rel K ρ c v) :
    ∃ l, (loadCells ⟨b, o, none⟩ s).run P w = .ok ⟨l⟩ w ∧ rels K ρ cs l ∧ ∀ u ∈ l, u.one = true := by
  have : ∀ (cs : List AV) (o : Nat), (∀ (i : Nat) c, cs[i]? = some c → ∃ v, w.cell? ⟨b, o + i, none⟩ = some v ∧ v.one = true ∧ rel K ρ c v) →
      ∃ l, l.length = cs.length ∧ (∀ (i : Nat) v, l[i]? = some v → w.cell? ⟨b, o + i, none⟩ = some v) ∧ rels K ρ cs l ∧ ∀ u ∈ l, u.one = true := by
    intro cs
    induction cs with
    | nil => intro o _; exact ⟨[], rfl, fun i v hv => by simp at hv, by simp [rels], fun u hu => by simp at hu⟩
    | cons c cs ih =>
      intro o h
      obtain ⟨v, h1, h2, h3⟩ := h 0 c rfl
      obtain ⟨l, k1, k2, k3, k4⟩ := ih (o + 1) (fun i c hc => by
        have := h (i + 1) c (by simpa using hc)
        rwa [show o + (i + 1) = o + 1 + i by omega] at this)
      refine ⟨v :: l, by simp [k1], fun i u hu => ?_, ?_, fun u hu => ?_⟩
      · cases i with
        | zero => simp at hu; subst hu; exact h1
        | succ i => have := k2 i u (by simpa using hu); rwa [show o + 1 + i = o + (i + 1) by omega] at this
      · simp only [rels]; exact ⟨v, l, rfl, h3, k3⟩
      · simp only [List.mem_cons] at hu
        rcases hu with rfl | hu
        · exact h2
        · exact k4 u hu
  obtain ⟨l, h1, h2, h3, h4⟩ := this cs o h
  refine ⟨l, ?_, h3, h4⟩
  have := run_loadCells_list (P := P) (w := w) ⟨b, o, none⟩ l (fun j v hv => by rw [add_at]; exact h2 j v hv)
  rw [← hl, ← h1]
  rw [this]

/-- reading a variable out of cells -/
theorem load_var {t : Nat} {i : TI} (ht : TyIs P t i) {b o : Nat} {cs : List AV} (hl : cs.length = i.size) (h : ∀ (j : Nat) c, cs[j]? = some c → ∃ v, w.cell? ⟨b, o + j, none⟩ = some v ∧ v.one = true ∧ rel K ρ c v) :
    ∃ v, (loadVar t ⟨b, o, none⟩).run P w = .ok v w ∧ rel K ρ (if i.agg then .agg cs else cs.headD .any) v ∧ (i.agg = false → v.one = true) := by
  simp only [loadVar, Sem.run_bind, ht.run_isAgg, Result.andThen_ok]
  cases ha : i.agg with
  | true =>
    simp only [if_true, Sem.run_bind, ht.run_sizeOf, Result.andThen_ok]
    obtain ⟨l, h1, h2, h3⟩ := load_cells (P := P) hl h
    exact ⟨.agg ⟨l⟩, by rw [h1]; rfl, by simp only [rel]; exact ⟨l, rfl, h2, h3⟩, fun h => by cases h⟩
  | false =>
    have h1 := ht.one ha
    match cs, hl.trans h1 with
    | [c], _ =>
      obtain ⟨v, k1, k2, k3⟩ := h 0 c rfl
      refine ⟨v, ?_, by simpa using k3, fun _ => k2⟩
      simp only [Bool.false_eq_true, if_false]
      simp only [load, Sem.run, Nat.add_zero] at k1 ⊢
      rw [k1]

theorem Good.cells (g : Good G K ρ H w) {l : Nat} {o : AObj} (hl : H.get l = some o) {k : Nat} {c : AV} (hc : o.cells[k]? = some c) :
    c.lim H.length = true ∧ ∃ v, w.cell? ⟨(ρ l).b, (ρ l).o + k, none⟩ = some v ∧ v.one = true ∧ rel K ρ c v := by
  have hL : Lies K ρ H.length w o (ρ l) := by
    rcases g.obj l o hl with h | ⟨h, _, _⟩
    · exact h
    · rw [h] at hc; simp at hc
  obtain ⟨row, t, fr, h1, _, _, _, _, _, _, h8⟩ := hL
  obtain ⟨k1, v, k2, k3⟩ := h8 k c hc
  exact ⟨k1, v, cell_at h1 k2, k3⟩

end Go.Ax
namespace Go.Ax

def dropO : List AV → Nat → Option (List AV)
  | l, 0 => some l
  | [], _ + 1 => none
  | _ :: l, n + 1 => dropO l n
  termination_by structural _ n => n
def takeO : List AV → Nat → Option (List AV)
  | _, 0 => some []
  | [], _ + 1 => none
  | c :: l, n + 1 => match takeO l n with
    | some r => some (c :: r)
    | none => none
  termination_by structural _ n => n
theorem dropO_eq : ∀ {l : List AV} {n : Nat} {r : List AV}, dropO l n = some r → r = l.drop n ∧ n ≤ l.length
  | l, 0, r, h => by simp only [dropO, Option.some.injEq] at h; subst h; simp
  | [], _ + 1, _, h => by simp [dropO] at h
  | _ :: l, n + 1, r, h => by
    simp only [dropO] at h
    obtain ⟨h1, h2⟩ := dropO_eq h
    exact ⟨by simpa using h1, by simp; omega⟩
theorem takeO_eq : ∀ {l : List AV} {n : Nat} {r : List AV}, takeO l n = some r → r = l.take n ∧ n ≤ l.length
  | l, 0, r, h => by simp only [takeO, Option.some.injEq] at h; subst h; simp
  | [], _ + 1, _, h => by simp [takeO] at h
  | c :: l, n + 1, r, h => by
    simp only [takeO] at h
    split at h
    · rename_i r' hr'
      simp only [Option.some.injEq] at h
      subst h
      obtain ⟨h1, h2⟩ := takeO_eq hr'
      exact ⟨by simp [h1], by simp; omega⟩
    · simp at h

def packO (i : TI) (r : List AV) : Option AV := bif i.agg then some (.agg r) else match r with
  | [c] => some c
  | _ => none
/-- What is read as a variable of type t there. -/
def readO {P : Program} (T : Tab P) (H : Heap) (t : Nat) : AV → Option AV
  | .ptr l k => match H.get l with
    | some o => match tyAt T.l t with
      | some i => match dropO o.cells k with
        | some cs => match takeO cs i.size with
          | some r => packO i r
          | none => none
        | none => none
      | none => none
    | none => none
  | .fptr cs => match tyAt T.l t with
    | some i => match takeO cs i.size with
      | some r => packO i r
      | none => none
    | none => none
  | _ => none

variable {P : Program} {G K : Mem} {ρ : Place} {H H' : Heap} {w w' : World} {env : Env} {a : Act}

theorem relAt_get : ∀ {cs : List AV} {b o i : Nat} {c : AV}, relAt K ρ cs b o → cs[i]? = some c → ∃ row v, K b = some row ∧ row[o + i]? = some v ∧ v.one = true ∧ rel K ρ c v
  | [], _, _, _, _, _, hc => by simp at hc
  | c0 :: cs, b, o, i, c, h, hc => by
    simp only [relAt] at h
    cases i with
    | zero => simp at hc; subst hc; simpa using h.1
    | succ i =>
      have := relAt_get h.2 (by simpa using hc)
      rwa [show o + 1 + i = o + (i + 1) by omega] at this
theorem Good.fcell (g : Good G K ρ H w) {b o : Nat} {row : Array Value} {v : Value} (h : K b = some row) (hv : row[o]? = some v) : w.cell? ⟨b, o, none⟩ = some v := by
  obtain ⟨t, fr, h1⟩ := g.froz b row h
  exact cell_at h1 hv

theorem packO_eq {i : TI} {r : List AV} {av : AV} (h : packO i r = some av) : av = (if i.agg then .agg r else r.headD .any) := by
  unfold packO at h
  cases ha : i.agg with
  | true => rw [ha] at h; simp at h; simp [h]
  | false =>
    rw [ha] at h
    simp only [cond_false] at h
    match r, h with
    | [c], h => simp at h; simp [h]

theorem lims_of_forall {m : Nat} : ∀ {cs : List AV}, (∀ (i : Nat) c, cs[i]? = some c → c.lim m = true) → AV.lims m cs = true
  | [], _ => rfl
  | c :: cs, h => by
    simp only [AV.lims, Bool.and_eq_true]
    exact ⟨h 0 c rfl, lims_of_forall (fun i c hc => h (i + 1) c (by simpa using hc))⟩
theorem lim_pack {m : Nat} {i : TI} {r : List AV} (h : AV.lims m r = true) (hl : r.length = i.size) (h1 : i.agg = false → i.size = 1) : AV.lim m (if i.agg then .agg r else r.headD .any) = true := by
  cases ha : i.agg with
  | true => simpa [AV.lim] using h
  | false =>
    have := h1 ha
    match r, hl.trans this, h with
    | [c], _, h => simpa [AV.lims] using h

theorem read_ok (T : Tab P) (g : Good G K ρ H w) {p av : AV} {t : Nat} {v : Value} (hp : rel K ρ p v) (hl : p.lim H.length = true) (h : readO T H t p = some av) :
    ∃ u, (Instr.loadAt t v).run P w = .ok u w ∧ rel K ρ av u ∧ av.lim H.length = true ∧ (∀ i, tyAt T.l t = some i → i.agg = false → u.one = true) := by
  cases p with
  | ptr l k =>
    simp only [readO] at h
    split at h <;> try (simp at h; done)
    rename_i o ho
    split at h <;> try (simp at h; done)
    rename_i i hi
    split at h <;> try (simp at h; done)
    rename_i cs hcs
    split at h <;> try (simp at h; done)
    rename_i r hr
    obtain ⟨rfl, hk⟩ := dropO_eq hcs
    obtain ⟨rfl, hs⟩ := takeO_eq hr
    simp only [rel] at hp
    have hcell : ∀ (j : Nat) c, ((o.cells.drop k).take i.size)[j]? = some c → o.cells[k + j]? = some c := fun j c hc => by
      have hj : j < i.size := by
        have := (List.getElem?_eq_some_iff.1 hc).1; simp at this; omega
      rwa [List.getElem?_take, if_pos hj, List.getElem?_drop] at hc
    obtain ⟨u, h1, h2, h3⟩ := load_var (P := P) (w := w) (T.is hi) (b := (ρ l).b) (o := (ρ l).o + k) (K := K) (ρ := ρ) (cs := (o.cells.drop k).take i.size) (by simp at hs ⊢; omega) (fun j c hc => by
      have := (g.cells ho (hcell j c hc)).2
      rwa [show (ρ l).o + (k + j) = (ρ l).o + k + j by omega] at this)
    refine ⟨u, by rw [hp]; simp only [Instr.loadAt, Instr.sureAddr, Sem.run_bind, Sem.run_pure, Result.andThen_ok]; exact h1, by rw [packO_eq h]; exact h2, ?_, fun i' hi' ha => ?_⟩
    · rw [packO_eq h]
      exact lim_pack (lims_of_forall (fun j c hc => (g.cells ho (hcell j c hc)).1)) (by simp at hs ⊢; omega) (T.is hi).one
    · rw [hi] at hi'; cases hi'; exact h3 ha
  | fptr cs =>
    simp only [readO] at h
    split at h <;> try (simp at h; done)
    rename_i i hi
    split at h <;> try (simp at h; done)
    rename_i r hr
    obtain ⟨rfl, hs⟩ := takeO_eq hr
    simp only [rel] at hp
    obtain ⟨b, o, hv, hat⟩ := hp
    have hcell : ∀ (j : Nat) c, (cs.take i.size)[j]? = some c → cs[j]? = some c := fun j c hc => by
      have hj : j < i.size := by
        have := (List.getElem?_eq_some_iff.1 hc).1; simp at this; omega
      rwa [List.getElem?_take, if_pos hj] at hc
    obtain ⟨u, h1, h2, h3⟩ := load_var (P := P) (w := w) (T.is hi) (b := b) (o := o) (K := K) (ρ := ρ) (cs := cs.take i.size) (by simp; omega) (fun j c hc => by
      obtain ⟨row, x, k1, k2, k3, k4⟩ := relAt_get hat (hcell j c hc)
      exact ⟨x, g.fcell k1 k2, k3, k4⟩)
    refine ⟨u, by rw [hv]; simp only [Instr.loadAt, Instr.sureAddr, Sem.run_bind, Sem.run_pure, Result.andThen_ok]; exact h1, by rw [packO_eq h]; exact h2, ?_, fun i' hi' ha => ?_⟩
    · rw [packO_eq h]
      refine lim_pack (lims_of_forall (fun j c hc => ?_)) (by simp; omega) (T.is hi).one
      exact lims_get (by simpa [AV.lim] using hl) (hcell j c hc)
    · rw [hi] at hi'; cases hi'; exact h3 ha
  | _ => simp [readO] at h

section ops
variable {d : Option Tmp} {ty : TypeId} {pos : String} {after : Array Edge} {gu : Option (Nat × Bool)} {av : AV}

theorem XOp.load (T : Tab P) {t : Nat} {x : Operand} {p : AV} (hx : opndO env x = some p) (h : readO T H t p = some av) : XOp P G env H ⟨d, .load t x, ty, pos, after, gu⟩ av H := by
  refine ⟨fun K ρ w a g he => ?_⟩
  obtain ⟨h1, h2⟩ := rel_opnd he x
  rw [opndO_eq hx] at h1 h2
  obtain ⟨u, k1, k2, k3, _⟩ := read_ok T g h2 h1 h
  simp only [execOp, Sem.run_bind, k1, Result.andThen_ok, Sem.run_pure]
  exact XPost.pure g (Alike.refl w) k2 k3

/-! ### stores -/
/-- The cells of a value that is stored as a variable of this type. -/
def okCell : AV → Bool
  | .agg _ | .tup _ | .any => false
  | .val v => v.one
  | _ => true
def cellsO (i : TI) (v : AV) : Option (List AV) := bif i.agg then (match v with
    | .agg cs => bif Nat.beq cs.length i.size then some cs else none
    | _ => none)
  else bif okCell v then some [v] else none

theorem one_of_rel {c : AV} {v : Value} (h : okCell c = true) (hr : rel K ρ c v) : v.one = true := by
  cases c <;> simp only [okCell, Bool.false_eq_true] at h <;> simp only [rel] at hr
  case val => subst hr; exact h
  case flt => obtain ⟨b', rfl, _⟩ := hr; rfl
  case lst => obtain ⟨a, cap, rfl, _⟩ := hr; rfl
  case emp => obtain ⟨a, rfl⟩ := hr; rfl
  case fptr => obtain ⟨b, o, rfl, _⟩ := hr; rfl
  case ptr => subst hr; rfl
  case slc => rcases hr with ⟨cap, rfl, _⟩ | ⟨_, b, rfl⟩ <;> rfl
  case fn => obtain ⟨l, rfl, _⟩ := hr; rfl
  case ifc => obtain ⟨l, rfl, _⟩ := hr; rfl

theorem cells_of {i : TI} {c : AV} {v : Value} {cs : List AV} (h : cellsO i c = some cs) (h1 : i.agg = false → i.size = 1) (hr : rel K ρ c v) :
    ∃ l, v.cells.toList = l ∧ rels K ρ cs l ∧ (∀ u ∈ l, u.one = true) ∧ cs.length = i.size ∧ (∀ m, c.lim m = true → AV.lims m cs = true) := by
  unfold cellsO at h
  cases ha : i.agg with
  | true =>
    rw [ha] at h
    simp only [cond_true] at h
    cases c with
    | agg cs0 =>
      simp only [] at h
      cases hb : Nat.beq cs0.length i.size with
      | false => rw [hb] at h; simp at h
      | true =>
        rw [hb] at h
        simp only [cond_true, Option.some.injEq] at h
        subst h
        simp only [rel] at hr
        obtain ⟨l, rfl, k2, k3⟩ := hr
        exact ⟨l, rfl, k2, k3, by simpa using hb, fun m hm => by simpa [AV.lim] using hm⟩
    | _ => simp at h
  | false =>
    rw [ha] at h
    simp only [cond_false] at h
    cases hb : okCell c with
    | false => rw [hb] at h; simp at h
    | true =>
      rw [hb] at h
      simp only [cond_true, Option.some.injEq] at h
      subst h
      have ho := one_of_rel hb hr
      have hc : v.cells = #[v] := by cases v <;> simp [Value.one] at ho <;> rfl
      refine ⟨[v], by rw [hc], by simp only [rels]; exact ⟨v, [], rfl, hr, rfl⟩, fun u hu => by simp at hu; rw [hu]; exact ho, by simp [h1 ha], fun m hm => by simp [AV.lims, hm]⟩

theorem oneCell'_of_one {v : Value} (h : v.one = true) : v.oneCell' = true := by cases v <;> first | rfl | (simp [Value.one] at h)

theorem run_puts {b : Nat} {t : TypeId} {fr : Nat × Nat} : ∀ (vs : List Value) (w : World) (o i : Nat) (row : Array Value), w.heap[b]? = some (.cells row t fr) → Unmarked row fr → o + i + vs.length ≤ row.size → (∀ v ∈ vs, v.one = true) →
    (storeCells ⟨b, o, none⟩ vs i).run P w = .ok () (puts w b (o + i) vs) := by
  intro vs
  induction vs with
  | nil => intro w o i row _ _ _ _; rfl
  | cons v vs ih =>
    intro w o i row h hu hl h1
    simp only [List.length_cons] at hl
    simp only [storeCells, Sem.run_bind, add_at]
    rw [run_store _ _ _ _ _ (oneCell'_of_one (h1 v (by simp)))]
    have hcell : w.cell? ⟨b, o + i, none⟩ = some row[o + i] := cell_at h (Array.getElem?_eq_getElem (by omega))
    have hfz : w.frozen? ⟨b, o + i, none⟩ = false := by
      have := hu (o + i) (by omega)
      simp only [World.frozen?, h]
      simp only [Bool.and_eq_false_iff, decide_eq_false_iff_not]
      omega
    rw [hcell]
    simp only [hfz, Bool.false_eq_true, if_false, Result.andThen_ok]
    rw [ih (w.setCell ⟨b, o + i, none⟩ v) o (i + 1) (row.setIfInBounds (o + i) v) (setCell_same h) (by intro j hj; simp at hj; exact hu j hj) (by simp; omega) (fun u hu => h1 u (by simp [hu]))]
    rfl

def spliceO : List AV → Nat → List AV → Option (List AV)
  | l, 0, [] => some l
  | _ :: l, 0, c :: cs => match spliceO l 0 cs with
    | some r => some (c :: r)
    | none => none
  | x :: l, k + 1, cs => match spliceO l k cs with
    | some r => some (x :: r)
    | none => none
  | [], 0, _ :: _ => none
  | [], _ + 1, _ => none
theorem spliceO_eq : ∀ {l : List AV} {k : Nat} {cs r : List AV}, spliceO l k cs = some r → r = splice l k cs ∧ k + cs.length ≤ l.length
  | l, 0, [], r, h => by simp only [spliceO, Option.some.injEq] at h; subst h; simp [splice]
  | x :: l, 0, c :: cs, r, h => by
    simp only [spliceO] at h
    split at h <;> try (simp at h; done)
    rename_i r' hr'
    simp only [Option.some.injEq] at h
    subst h
    obtain ⟨h1, h2⟩ := spliceO_eq hr'
    refine ⟨?_, by simp at h2 ⊢; omega⟩
    rw [h1]
    have e1 : 0 + (c :: cs).length = cs.length + 1 := by simp
    have e2 : 0 + cs.length = cs.length := by simp
    simp only [splice, e1, e2, List.drop_succ_cons, List.take_zero, List.nil_append, List.cons_append]
  | x :: l, k + 1, cs, r, h => by
    rw [spliceO] at h
    split at h <;> try (simp at h; done)
    rename_i r' hr'
    simp only [Option.some.injEq] at h
    subst h
    obtain ⟨h1, h2⟩ := spliceO_eq hr'
    refine ⟨?_, by simp at h2 ⊢; omega⟩
    rw [h1]
    have e1 : k + 1 + cs.length = (k + cs.length) + 1 := by omega
    simp only [splice, e1, List.drop_succ_cons, List.take_succ_cons, List.cons_append]
  | [], 0, _ :: _, _, h => by simp [spliceO] at h
  | [], _ + 1, _, _, h => by simp [spliceO] at h

def setO : Heap → Nat → Option AObj → Option Heap
  | [], _, _ => none
  | _ :: H, 0, x => some (x :: H)
  | o :: H, l + 1, x => match setO H l x with
    | some r => some (o :: r)
    | none => none
theorem setO_eq : ∀ {H : Heap} {l : Nat} {x : Option AObj} {r : Heap}, setO H l x = some r → r = H.set l x
  | [], _, _, _, h => by simp [setO] at h
  | _ :: H, 0, x, r, h => by simp only [setO, Option.some.injEq] at h; subst h; rfl
  | o :: H, l + 1, x, r, h => by
    simp only [setO] at h
    split at h <;> try (simp at h; done)
    rename_i r' hr'
    simp only [Option.some.injEq] at h
    subst h
    rw [setO_eq hr']; rfl

def writeO {P : Program} (T : Tab P) (H : Heap) (t : Nat) (v : AV) : AV → Option Heap
  | .ptr l k => match H.get l with
    | some ⟨cells, arr⟩ => match tyAt T.l t with
      | some i => match cellsO i v with
        | some cs => match spliceO cells k cs with
          | some r => setO H l (some ⟨r, arr⟩)
          | none => none
        | none => none
      | none => none
    | none => none
  | _ => none

theorem write_ok (T : Tab P) (g : Good G K ρ H w) {p c : AV} {t : Nat} {v u : Value} (hp : rel K ρ p v) (hc : rel K ρ c u) (hcl : c.lim H.length = true) (h : writeO T H t c p = some H') :
    ∃ w', (Instr.storeAt t v u).run P w = .ok () w' ∧ Good G K ρ H' w' ∧ Ext K ρ H w K ρ H' w' := by
  cases p with
  | ptr l k =>
    simp only [writeO] at h
    split at h <;> try (simp at h; done)
    rename_i cells arr ho
    split at h <;> try (simp at h; done)
    rename_i i hi
    split at h <;> try (simp at h; done)
    rename_i cs hcs
    split at h <;> try (simp at h; done)
    rename_i r hr
    obtain ⟨rfl, hk⟩ := spliceO_eq hr
    have := setO_eq h
    subst this
    obtain ⟨vs, e1, e2, e3, e4, e5⟩ := cells_of hcs (T.is hi).one hc
    have hvs := rels_length e2
    simp only [rel] at hp
    obtain ⟨g1, x1⟩ := store_obj g ho (k := k) e2 (e5 _ hcl) e3 hk
    refine ⟨_, ?_, g1, x1⟩
    rw [hp]
    simp only [Instr.storeAt, Instr.sureAddr, storeVar, Sem.run_bind, Sem.run_pure, Result.andThen_ok, (T.is hi).run_sizeOf]
    have hsz : u.cells.size = i.size := by
      have : u.cells.size = u.cells.toList.length := by simp
      rw [this, e1, hvs, e4]
    simp only [hsz, ne_eq, not_true, if_false]
    rw [e1]
    by_cases hz : vs = []
    · subst hz; rfl
    have hpos : 0 < vs.length := List.length_pos_iff.2 hz
    have hL : Lies K ρ H.length w ⟨cells, arr⟩ (ρ l) := by
      rcases g.obj l _ ho with h | ⟨h, _, _⟩
      · exact h
      · simp only [] at h; rw [h] at hk; simp only [List.length_nil] at hk; omega
    obtain ⟨row, t', fr, a1, a2, a3, a4, a5, a6, a7, a8⟩ := hL
    have := run_puts (P := P) (b := (ρ l).b) (t := t') (fr := fr) vs w ((ρ l).o + k) 0 row a1 a2 (by simp only [] at a4 hk; omega) e3
    simp only [Nat.add_zero] at this
    exact this
  | _ => simp [writeO] at h

theorem XOp.store (T : Tab P) {t : Nat} {x y : Operand} {p c : AV} (hx : opndO env x = some p) (hy : opndO env y = some c) (h : writeO T H t c p = some H') : XOp P G env H ⟨d, .store t x y, ty, pos, after, gu⟩ .any H' := by
  refine ⟨fun K ρ w a g he => ?_⟩
  obtain ⟨h1, h2⟩ := rel_opnd he x
  obtain ⟨h3, h4⟩ := rel_opnd he y
  rw [opndO_eq hx] at h1 h2
  rw [opndO_eq hy] at h3 h4
  obtain ⟨w', k1, k2, k3⟩ := write_ok T g h2 h4 h3 h
  simp only [execOp, Sem.run_bind, k1, Result.andThen_ok, Sem.run_pure]
  exact ⟨K, ρ, k2, k3, by simp [rel], rfl⟩

/-! ### new variables -/
def snocO : Heap → Option AObj → Option Heap
  | [], x => some [x]
  | o :: H, x => match snocO H x with
    | some r => some (o :: r)
    | none => none
theorem snocO_eq : ∀ {H : Heap} {x : Option AObj} {r : Heap}, snocO H x = some r → r = H ++ [x]
  | [], _, _, h => by simp only [snocO, Option.some.injEq] at h; subst h; rfl
  | o :: H, x, r, h => by
    simp only [snocO] at h
    split at h <;> try (simp at h; done)
    rename_i r' hr'
    simp only [Option.some.injEq] at h
    subst h
    rw [snocO_eq hr']; rfl

theorem new_ok (g : Good G K ρ H w) {cs : List AV} {vs : List Value} (t : TypeId) (hr : rels K ρ cs vs) (hl : AV.lims H.length cs = true) (h1 : ∀ v ∈ vs, v.one = true) :
    ∃ ρ', Good G K ρ' (H ++ [some ⟨cs, false⟩]) (World.more w (.cells ⟨vs⟩ t)) ∧ Ext K ρ H w K ρ' (H ++ [some ⟨cs, false⟩]) (World.more w (.cells ⟨vs⟩ t)) ∧ ρ' H.length = ⟨w.heap.size, 0, vs.length⟩ := by
  have hlen := rels_length hr
  obtain ⟨g1, x1⟩ := alloc_obj g ⟨vs⟩ t (0, 0) (by intro i _; omega) ⟨cs, false⟩ (by simp; omega) (fun _ => by simp; omega) (fun i c hc => by
    obtain ⟨v, k1, k2⟩ := rels_get hr hc
    exact ⟨lims_get hl hc, v, by simpa using k1, h1 v (List.mem_of_getElem? k1), k2⟩)
  exact ⟨_, g1, x1, by rw [Place.upd_same]; simp⟩

theorem zeros_ok : ∀ {cs : List AV}, cs.all zok = true → rels K ρ cs (cs.map zval) ∧ (∀ m, AV.lims m cs = true) ∧ ∀ v ∈ cs.map zval, v.one = true
  | [], _ => ⟨by simp [rels], fun _ => rfl, fun v hv => by simp at hv⟩
  | c :: cs, h => by
    simp only [List.all_cons, Bool.and_eq_true] at h
    obtain ⟨h1, h2, h3⟩ := zeros_ok h.2
    have hc : rel K ρ c (zval c) ∧ (∀ m, c.lim m = true) ∧ (zval c).one = true := by
      cases c <;> simp only [zok, Bool.false_eq_true, false_and] at h
      case val v => exact ⟨by simp [rel, zval], fun _ => rfl, h.1⟩
      case flt k b =>
        have hb : b = 0 := by
          have := h.1
          simp only [Bool.or_eq_true, Bool.and_eq_true] at this
          rcases this with h | h
          · simpa using h
          · simpa using h.1
        subst hb
        refine ⟨?_, fun _ => rfl, rfl⟩
        simp only [rel, zval]
        exact ⟨0, rfl, by cases k <;> decide, by cases k <;> rfl⟩
    refine ⟨?_, fun m => by simp only [AV.lims, Bool.and_eq_true]; exact ⟨hc.2.1 m, h2 m⟩, fun v hv => ?_⟩
    · simp only [rels, List.map_cons]; exact ⟨_, _, rfl, hc.1, h1⟩
    · simp only [List.map_cons, List.mem_cons] at hv
      rcases hv with rfl | hv
      · exact hc.2.2
      · exact h3 v hv

theorem TyIs.run_zero {t : Nat} {i : TI} (h : TyIs P t i) : ∃ z, (zeroValue t).run P w = .ok z w ∧ z.cells = ⟨i.zero.map zval⟩ := by
  obtain ⟨info, h1, h2, h3, h4⟩ := h.info
  refine ⟨_, by simp only [zeroValue, Go.typeInfo, Sem.run_bind, run_program, Result.andThen_ok, h1, Sem.run_pure, h4]; rfl, ?_⟩
  cases ha : i.agg with
  | true => simp [Value.cells]
  | false =>
    have hl := h.len.trans (h.one ha)
    have hz := h.zok
    match hi : i.zero, hl with
    | [c], _ =>
      rw [hi] at hz
      obtain ⟨_, _, h3⟩ := zeros_ok (K := fun _ => none) (ρ := fun _ => default) hz
      have := h3 (zval c) (by simp)
      simp only [Bool.false_eq_true, if_false, List.headD_cons, List.map_cons, List.map_nil]
      cases hv : zval c <;> rw [hv] at this <;> simp [Value.one] at this <;> rfl

theorem XOp.alloc (T : Tab P) {t l : Nat} {i : TI} (hT : tyAt T.l t = some i) (hl : H.length = l) (h : snocO H (some ⟨i.zero, false⟩) = some H') : XOp P G env H ⟨d, .alloc t, ty, pos, after, gu⟩ (.ptr l 0) H' := by
  refine ⟨fun K ρ w a g he => ?_⟩
  have hi := T.is hT
  obtain ⟨z1, z2, z3⟩ := zeros_ok (K := K) (ρ := ρ) hi.zok
  obtain ⟨ρ', g1, x1, e1⟩ := new_ok g t z1 (z2 _) z3
  have := snocO_eq h
  subst this
  subst hl
  obtain ⟨z, k1, k2⟩ := hi.run_zero (w := w)
  simp only [execOp, Instr.alloc, Sem.run_bind, k1, Result.andThen_ok, newVar, newRow, k2, run_newObj, Sem.run_pure]
  refine ⟨K, ρ', g1, x1, ?_, by simp [AV.lim]⟩
  simp only [rel, e1]

theorem XOp.box (T : Tab P) {t l : Nat} {i : TI} {x : Operand} {c : AV} {cs : List AV} (hx : opndO env x = some c) (hT : tyAt T.l t = some i) (hc : cellsO i c = some cs) (hl : H.length = l) (h : snocO H (some ⟨cs, false⟩) = some H') :
    XOp P G env H ⟨d, .box t x, ty, pos, after, gu⟩ (.ptr l 0) H' := by
  refine ⟨fun K ρ w a g he => ?_⟩
  have hi := T.is hT
  obtain ⟨h1, h2⟩ := rel_opnd he x
  rw [opndO_eq hx] at h1 h2
  obtain ⟨vs, e1, e2, e3, e4, e5⟩ := cells_of hc hi.one h2
  obtain ⟨ρ', g1, x1, e6⟩ := new_ok g t e2 (e5 _ h1) e3
  have := snocO_eq h
  subst this
  subst hl
  have hcells : (a.eval x).cells = ⟨vs⟩ := by rw [← e1]
  simp only [execOp, Instr.box, Sem.run_bind, newVar, newRow, hcells, run_newObj, Sem.run_pure, Result.andThen_ok]
  refine ⟨K, ρ', g1, x1, ?_, by simp [AV.lim]⟩
  simp only [rel, e6]

/-! ### addresses of parts -/
def fieldO {P : Program} (T : Tab P) (s f : Nat) : Option Nat := match tyAt T.l s with
  | some i => match i.d with
    | .st fs => match fs[f]? with
      | some (o, t) => match tyAt T.l t with
        | some j => bif Nat.blt 0 j.size then some o else none
        | none => none
      | none => none
    | _ => none
  | none => none

theorem field_ok (T : Tab P) {s f off : Nat} (h : fieldO T s f = some off) (b o : Nat) : (Instr.fieldAt s (.pointer (some ⟨b, o, none⟩)) f).run P w = .ok (.pointer (some ⟨b, o + off, none⟩)) w := by
  unfold fieldO at h
  split at h <;> try (simp at h; done)
  rename_i i hi
  split at h <;> try (simp at h; done)
  rename_i fs hfs
  split at h <;> try (simp at h; done)
  rename_i o' t hf
  split at h <;> try (simp at h; done)
  rename_i j hj
  cases hb : Nat.blt 0 j.size with
  | false => rw [hb] at h; simp at h
  | true =>
    rw [hb] at h
    simp only [cond_true, Option.some.injEq] at h
    subst h
    have hd := (T.is hi).desc
    rw [hfs] at hd
    obtain ⟨fields, h1, h2⟩ := hd
    rw [← h2] at hf
    simp only [List.getElem?_map, Option.map_eq_some_iff, Prod.mk.injEq] at hf
    obtain ⟨fd, k1, k2, k3⟩ := hf
    have hfd : fields[f]? = some fd := by simpa using k1
    have hne : j.size ≠ 0 := by have : 0 < j.size := by simpa using hb
                                omega
    subst k3
    simp only [Instr.fieldAt, underlying, Sem.run_bind, run_program, Result.andThen_ok, h1, Sem.run_pure, hfd, Instr.sureAddr, fieldPlace, (T.is hj).run_sizeOf, hne, if_false, add_at, k2]

theorem XOp.fieldP (T : Tab P) {s f off l k k' : Nat} {x : Operand} (hx : opndO env x = some (.ptr l k)) (hf : fieldO T s f = some off) (hk : k + off = k') : XOp P G env H ⟨d, .fieldAddr s x f, ty, pos, after, gu⟩ (.ptr l k') H := by
  refine XOp.of_run1 hx (fun m h => by simpa [AV.lim] using h) fun K ρ w a h1 => ?_
  simp only [rel] at h1
  refine ⟨_, w, ?_, Alike.refl w, (by simp only [rel]; rfl)⟩
  simp only [execOp, Sem.run_bind, h1, field_ok T hf, Result.andThen_ok, Sem.run_pure]
  rw [← hk, Nat.add_assoc]

theorem relAt_drop : ∀ {cs : List AV} {b o n : Nat}, relAt K ρ cs b o → relAt K ρ (cs.drop n) b (o + n)
  | cs, b, o, 0, h => by simpa using h
  | [], b, o, n + 1, h => by simp [relAt]
  | c :: cs, b, o, n + 1, h => by
    simp only [relAt] at h
    have := relAt_drop (n := n) h.2
    simp only [List.drop_succ_cons]
    rwa [show o + 1 + n = o + (n + 1) by omega] at this
theorem lims_drop {m : Nat} : ∀ {cs : List AV} {n : Nat}, AV.lims m cs = true → AV.lims m (cs.drop n) = true
  | cs, 0, h => by simpa using h
  | [], n + 1, h => by simp [AV.lims]
  | c :: cs, n + 1, h => by
    simp only [AV.lims, Bool.and_eq_true] at h
    exact lims_drop (n := n) h.2

theorem XOp.fieldF (T : Tab P) {s f off : Nat} {x : Operand} {cs cs' : List AV} (hx : opndO env x = some (.fptr cs)) (hf : fieldO T s f = some off) (hk : dropO cs off = some cs') : XOp P G env H ⟨d, .fieldAddr s x f, ty, pos, after, gu⟩ (.fptr cs') H := by
  obtain ⟨rfl, _⟩ := dropO_eq hk
  refine XOp.of_run1 hx (fun m h => by simp only [AV.lim] at h ⊢; exact lims_drop h) fun K ρ w a h1 => ?_
  simp only [rel] at h1
  obtain ⟨b, o, hv, hat⟩ := h1
  refine ⟨_, w, ?_, Alike.refl w, (by simp only [rel]; exact ⟨b, o + off, rfl, relAt_drop hat⟩)⟩
  simp only [execOp, Sem.run_bind, hv, field_ok T hf, Result.andThen_ok, Sem.run_pure]

theorem XOp.nilCheckP {x : Operand} {l k : Nat} (hx : opndO env x = some (.ptr l k)) : XOp P G env H ⟨d, .nilCheck x, ty, pos, after, gu⟩ (.ptr l k) H := by
  refine XOp.of_run1 hx (fun m h => h) fun K ρ w a h1 => ?_
  have h2 := h1
  simp only [rel] at h1
  exact ⟨a.eval x, w, by simp only [execOp, h1]; rfl, Alike.refl w, h2⟩
theorem XOp.nilCheckF {x : Operand} {cs : List AV} (hx : opndO env x = some (.fptr cs)) : XOp P G env H ⟨d, .nilCheck x, ty, pos, after, gu⟩ (.fptr cs) H := by
  refine XOp.of_run1 hx (fun m h => h) fun K ρ w a h1 => ?_
  have h2 := h1
  simp only [rel] at h1
  obtain ⟨b, o, hv, _⟩ := h1
  exact ⟨a.eval x, w, by simp only [execOp, hv]; rfl, Alike.refl w, h2⟩

theorem XOp.extract {x : Operand} {cs : List AV} {i : Nat} (hx : opndO env x = some (.tup cs)) (hi : cs[i]? = some av) : XOp P G env H ⟨d, .extract x i, ty, pos, after, gu⟩ av H := by
  refine XOp.of_run1 hx (fun m h => by simp only [AV.lim] at h; exact lims_get h hi) fun K ρ w a h1 => ?_
  simp only [rel] at h1
  obtain ⟨l, hv, hr⟩ := h1
  obtain ⟨v, k1, k2⟩ := rels_get hr hi
  have : (⟨l⟩ : Array Value)[i]? = some v := by simpa using k1
  exact ⟨v, w, by simp only [execOp, Instr.extract, hv, this, Sem.run_bind, Sem.run_pure, Result.andThen_ok], Alike.refl w, k2⟩
end ops
end Go.Ax
namespace Go.Ax
variable {P : Program} {G K K1 : Mem} {ρ ρ1 : Place} {H H' H1 : Heap} {w w' w1 : World} {env env' : Env} {a : Act} {n : Nat}

/-! ## results -/
def resOf (T : Tab P) (env : Env) (H : Heap) : ResultVar → Option AV
  | .tmp t => lookO env t
  | .cell a t => match lookO env a with
    | some (.ptr l k) => readO T H t (.ptr l k)
    | _ => none
def resAll (T : Tab P) (env : Env) (H : Heap) : List ResultVar → Option (List AV)
  | [] => some []
  | r :: rs => match resOf T env H r with
    | some v => match resAll T env H rs with
      | some vs => some (v :: vs)
      | none => none
    | none => none
def tupOf : List AV → AV
  | [v] => v
  | vs => .tup vs

def rread (tmps : Array Value) : ResultVar → Sem Value
  | .tmp t => Pure.pure (tmps.getD t undef)
  | .cell x t => do loadVar t (← asAddr (tmps.getD x undef))

theorem res_one (T : Tab P) (g : Good G K ρ H w) (he : EnvOk K ρ H.length env a) {r : ResultVar} {av : AV} (h : resOf T env H r = some av) :
    ∃ v, (rread a.tmps r).run P w = .ok v w ∧ rel K ρ av v := by
  cases r with
  | tmp t => simp only [resOf] at h; exact ⟨_, rfl, by have := (he t).2; rwa [lookO_eq h] at this⟩
  | cell x t =>
    simp only [resOf] at h
    split at h <;> try (simp at h; done)
    rename_i l k hp
    have hx := he x
    rw [lookO_eq hp] at hx
    obtain ⟨u, h1, h2, _⟩ := read_ok T g hx.2 hx.1 h
    have hv := hx.2
    simp only [rel] at hv
    refine ⟨u, ?_, h2⟩
    simp only [rread, hv, asAddr, Sem.run_bind, Sem.run_pure, Result.andThen_ok]
    simpa only [hv, Instr.loadAt, Instr.sureAddr, Sem.run_bind, Sem.run_pure, Result.andThen_ok] using h1

theorem res_all (T : Tab P) (g : Good G K ρ H w) (he : EnvOk K ρ H.length env a) : ∀ {rs : List ResultVar} {avs : List AV}, resAll T env H rs = some avs →
    ∃ vs, (rs.mapM (rread a.tmps)).run P w = .ok vs w ∧ rels K ρ avs vs := by
  intro rs
  induction rs with
  | nil => intro avs h; simp only [resAll, Option.some.injEq] at h; subst h; exact ⟨[], rfl, by simp [rels]⟩
  | cons r rs ih =>
    intro avs h
    simp only [resAll] at h
    cases h1 : resOf T env H r with
    | none => rw [h1] at h; simp at h
    | some v =>
      rw [h1] at h
      simp only [] at h
      cases h2 : resAll T env H rs with
      | none => rw [h2] at h; simp at h
      | some vs =>
        rw [h2] at h
        simp only [Option.some.injEq] at h
        subst h
        obtain ⟨u, k1, k2⟩ := res_one T g he h1
        obtain ⟨us, k3, k4⟩ := ih h2
        refine ⟨u :: us, ?_, by simp only [rels]; exact ⟨u, us, rfl, k2, k4⟩⟩
        rw [List.mapM_cons]
        simp only [Sem.run_bind]
        refine (congrArg (fun r => Result.andThen r _) k1).trans ?_
        simp only [Result.andThen_ok]
        refine (congrArg (fun r => Result.andThen r _) k3).trans ?_
        rfl

/-- av says no more than av1 -/
def Sub (av1 av : AV) : Prop := ∀ K ρ v, rel K ρ av1 v → rel K ρ av v
theorem Sub.refl (av : AV) : Sub av av := fun _ _ _ h => h

/-- The end of a call: what is in the slots of the results; the objects from number H'.length on are let go. -/
def RetQ (T : Tab P) (rs : List ResultVar) (res : AV) (H' : Heap) : Post := fun e env H2 =>
  (e = .normal ∨ e = .ret) ∧ ∃ avs m, resAll T env H2 rs = some avs ∧ Sub (tupOf avs) res ∧ H2.take m = H' ∧ m ≤ H2.length ∧ res.lim m = true ∧ (∀ l o, Heap.get H' l = some o → AV.lims m o.cells = true)

theorem RetQ.ok {T : Tab P} {rs : List ResultVar} {avs : List AV} {res : AV} {H' H2 : Heap} {e : Exit} (h0 : e = .normal ∨ e = .ret) (h1 : resAll T env H2 rs = some avs) (h2 : Sub (tupOf avs) res) (m : Nat) (h3 : H2.take m = H') (hm : Nat.ble m H2.length = true)
    (h4 : res.lim m = true) (h5 : ∀ l o, Heap.get H' l = some o → AV.lims m o.cells = true) : RetQ T rs res H' e env H2 :=
  ⟨h0, avs, m, h1, h2, h3, by simpa using hm, h4, h5⟩
/-- Nothing is handed back but a value that speaks of no object. -/
theorem RetQ.pure {T : Tab P} {rs : List ResultVar} {avs : List AV} {res : AV} {H2 : Heap} {e : Exit} (h0 : e = .normal ∨ e = .ret) (h1 : resAll T env H2 rs = some avs)
    (h4 : res.lim 0 = true) (h2 : Sub (tupOf avs) res) : RetQ T rs res [] e env H2 :=
  ⟨h0, avs, 0, h1, h2, by simp, by simp, h4, fun l o h => by simp [Heap.get] at h⟩

theorem Good.take (g : Good G K ρ H w) {m : Nat} (hm : m ≤ H.length) (hc : ∀ l o, Heap.get (H.take m) l = some o → AV.lims m o.cells = true) : Good G K ρ (H.take m) w := by
  have hget : ∀ l o, Heap.get (H.take m) l = some o → H.get l = some o := fun l o h => by
    by_cases hl : l < m
    · rwa [Heap.get_take hl] at h
    · rw [Heap.get_take_ge (by omega)] at h; cases h
  refine ⟨g.glob, g.froz, fun l o h => ?_, fun l l' o o' h h' hne => g.apart l l' o o' (hget _ _ h) (hget _ _ h') hne⟩
  refine (g.obj l o (hget l o h)).imp (fun hL => ?_) id
  obtain ⟨row, t, fr, h1, h2, h3, h4, h5, h6, h7, h8⟩ := hL
  refine ⟨row, t, fr, h1, h2, h3, h4, h5, h6, h7, fun i c hi => ?_⟩
  have : (H.take m).length = m := by simp; omega
  rw [this]
  exact ⟨lims_get (hc l o h) hi, (h8 i c hi).2⟩

theorem Ext.take {K' : Mem} {ρ' : Place} (e : Ext K ρ H w K' ρ' H1 w') {m : Nat} (hm : H.length ≤ m) (hm1 : m ≤ H1.length) : Ext K ρ H w K' ρ' (H1.take m) w' := by
  have hget : ∀ l o, Heap.get (H1.take m) l = some o → H1.get l = some o := fun l o h => by
    by_cases hl : l < m
    · rwa [Heap.get_take hl] at h
    · rw [Heap.get_take_ge (by omega)] at h; cases h
  refine ⟨e.fr, fun b hb => (e.old b hb).imp id (fun ⟨h0, l, o, h1, h2, h3, h4, h5⟩ => ⟨h0, l, o, h1, h2, h3, h4, by
      have := Heap.get_lt h1
      rw [Heap.get_take (by omega)]; exact h5⟩), e.plc, by simp; omega, fun l o hl h => e.live l o hl (hget l o h), fun l o hl h => ?_⟩
  rcases e.fresh l o hl (hget l o h) with hf | hf | ⟨ha, l0, o0, h4, h5, h6, h7⟩
  · exact .inl hf
  · exact .inr (.inl hf)
  · have := Heap.get_lt h4
    exact .inr (.inr ⟨ha, l0, o0, h4, h5, by rw [Heap.get_take (by omega)]; exact h6, h7⟩)

theorem ACall.intro (T : Tab P) {f : FuncId} {fn : Func} {c : Code} {args : List AV} {res : AV} {rs : List ResultVar} (hf : P.funcs[f]? = some fn) (hn : (fn.name == "runtime.NumGoroutine") = false) (hb : fn.body = some c) (hr : fn.results.toList = rs)
    (ha : Nat.ble args.length fn.ntmps = true) (hm : Nat.ble H.length H'.length = true) (h : W P G fn.ntmps c (envOf 0 args) H (RetQ T rs res H')) : ACall P G f args H res H' := by
  refine ⟨⟨fn, hf, hn, by rw [hb]; rfl⟩, ?_⟩
  intro K ρ w vs g hl hrels
  refine calls_of_wp hf hb (wp_mono (h.run K ρ w _ g (envOf_ok hl hrels _ _) ?_ rfl) ?_)
  · have := rels_length hrels
    have h2 : args.length ≤ fn.ntmps := by simpa using ha
    simp; omega
  · rintro e a' w' ⟨env', H2, K', ρ', ⟨he, avs, m, h1, h2, h3, h3', h4, h5⟩, g', heo, hs, hd, ext⟩
    have hlen : H'.length = m := by rw [← h3]; simp; omega
    have hm' : H.length ≤ m := by have : H.length ≤ H'.length := by simpa using hm
                                  omega
    obtain ⟨us, k1, k2⟩ := res_all T g' heo h1
    have hres : ∃ v, (results fn a'.tmps).run P w' = .ok v w' ∧ rel K' ρ' (tupOf avs) v := by
      unfold results
      rw [Array.mapM_eq_mapM_toList, hr]
      simp only [Sem.run_bind, Sem.run_map]
      refine ⟨if h : us.toArray.size = 1 then us.toArray[0] else .tuple us.toArray, ?_, ?_⟩
      · refine (congrArg (fun r => Result.andThen (Result.andThen r _) _) k1).trans ?_
        simp only [Result.andThen_ok]
        rfl
      · have hl2 := rels_length k2
        match avs, us, k2, hl2 with
        | [], [], k2, _ => simp [tupOf, rel, rels]
        | [c], [u], k2, _ =>
          simp only [rels, List.cons.injEq] at k2
          obtain ⟨v, l', ⟨rfl, _⟩, hv, _⟩ := k2
          simpa [tupOf] using hv
        | c1 :: c2 :: cs, u1 :: u2 :: us, k2, _ => simp only [tupOf, rel]; exact ⟨u1 :: u2 :: us, by simp, k2⟩
    obtain ⟨v, hv1, hv2⟩ := hres
    have hpost : ∃ v', Ending.returned v = .returned v' ∧ XPost G K ρ H w res H' v' w' := by
      refine ⟨v, rfl, K', ρ', ?_, ?_, h2 _ _ _ hv2, by rw [hlen]; exact h4⟩
      · rw [← h3]; exact g'.take h3' (fun l o h => h5 l o (by rw [← h3]; exact h))
      · rw [← h3]; exact ext.take hm' h3'
    rcases he with rfl | rfl
    · exact ⟨hd, v, hv1, hpost⟩
    · exact ⟨hd, v, hv1, hpost⟩
end Go.Ax
namespace Go.Ax

variable {P : Program} {G K : Mem} {ρ : Place} {H H' : Heap} {w w' : World} {env : Env} {a : Act} {n : Nat}

def argsO (env : Env) : List Operand → Option (List AV)
  | [] => some []
  | x :: xs => match opndO env x with
    | some v => match argsO env xs with
      | some vs => some (v :: vs)
      | none => none
    | none => none
theorem argsO_ok {m : Nat} (he : EnvOk K ρ m env a) : ∀ {xs : List Operand} {avs : List AV}, argsO env xs = some avs → AV.lims m avs = true ∧ rels K ρ avs (xs.map a.eval)
  | [], avs, h => by simp only [argsO, Option.some.injEq] at h; subst h; simp [AV.lims, rels]
  | x :: xs, avs, h => by
    simp only [argsO] at h
    split at h <;> try (simp at h; done)
    rename_i v hv
    split at h <;> try (simp at h; done)
    rename_i vs hvs
    simp only [Option.some.injEq] at h
    subst h
    obtain ⟨h1, h2⟩ := rel_opnd he x
    rw [opndO_eq hv] at h1 h2
    obtain ⟨h3, h4⟩ := argsO_ok he hvs
    exact ⟨by simp only [AV.lims, Bool.and_eq_true]; exact ⟨h1, h3⟩, by simp only [rels, List.map_cons]; exact ⟨_, _, rfl, h2, h4⟩⟩

theorem rels_append {cs ds : List AV} {vs us : List Value} (h1 : rels K ρ cs vs) (h2 : rels K ρ ds us) : rels K ρ (cs ++ ds) (vs ++ us) := by
  induction cs generalizing vs with
  | nil => simp only [rels] at h1; subst h1; simpa using h2
  | cons c cs ih =>
    simp only [rels] at h1
    obtain ⟨v, l', rfl, k1, k2⟩ := h1
    simp only [List.cons_append, rels]
    exact ⟨v, l' ++ us, rfl, k1, ih k2⟩
theorem lims_append {m : Nat} {cs ds : List AV} (h1 : AV.lims m cs = true) (h2 : AV.lims m ds = true) : AV.lims m (cs ++ ds) = true := by
  induction cs with
  | nil => simpa using h2
  | cons c cs ih =>
    simp only [AV.lims, Bool.and_eq_true, List.cons_append] at h1 ⊢
    exact ⟨h1.1, ih h1.2⟩

/-- What is offered says at least what is asked. -/
inductive Subs : List AV → List AV → Prop
  | nil : Subs [] []
  | cons {c d : AV} {cs ds : List AV} : Sub c d → d.lim 0 = true ∨ c = d → Subs cs ds → Subs (c :: cs) (d :: ds)

section ops
variable {d : Option Tmp} {ty : TypeId} {pos : String} {after : Array Edge} {gu : Option (Nat × Bool)} {av : AV}

theorem run_callFunc {f : FuncId} (hc : Callable P f) (args : Array Value) : (callFunc f args).run P w = .ok (.enter f args) w := by
  obtain ⟨fn, h1, h2, h3⟩ := hc
  simp only [callFunc, Sem.run_bind, run_program, Result.andThen_ok, h1, h2, h3, Bool.false_eq_true, if_false, Sem.run_pure]

theorem XOp.callC {f : Operand} {xs : List Operand} {ts : Array TypeId} {g : FuncId} {cap avs all : List AV} (hf : opndO env f = some (.fn g cap)) (hx : argsO env xs = some avs) (ha : avs ++ cap = all)
    (h : ACall P G g all H av H') : XOp P G env H ⟨d, .call ⟨.value f, ⟨xs⟩, ts⟩, ty, pos, after, gu⟩ av H' := by
  refine ⟨fun K ρ w a gd he => ?_⟩
  obtain ⟨h1, h2⟩ := rel_opnd he f
  rw [opndO_eq hf] at h1 h2
  simp only [rel] at h2
  obtain ⟨l, hv, hr⟩ := h2
  obtain ⟨k1, k2⟩ := argsO_ok he hx
  subst ha
  obtain ⟨hcl, hc⟩ := h
  have hrun : (execOp a.eval ⟨d, .call ⟨.value f, ⟨xs⟩, ts⟩, ty, pos, after, gu⟩).run P w = .ok (.enter g ⟨xs.map a.eval ++ l⟩) w := by
    simp only [execOp, resolve, Deferred.ofValue, hv, Sem.run_bind, Sem.run_pure, Result.andThen_ok, invoke]
    rw [run_callFunc hcl]
    simp
  rw [hrun]
  exact hc K ρ w _ gd (lims_append k1 (by simpa [AV.lim] using h1)) (rels_append k2 hr)

theorem XOp.call {g : FuncId} {xs : List Operand} {ts : Array TypeId} {avs : List AV} (hx : argsO env xs = some avs)
    (h : ACall P G g avs H av H') : XOp P G env H ⟨d, .call ⟨.value (.func g), ⟨xs⟩, ts⟩, ty, pos, after, gu⟩ av H' :=
  XOp.callC (cap := []) rfl hx (List.append_nil _) h

theorem ACall.sub {f : FuncId} {args args' : List AV} {res : AV} (hs : Subs args args') (h : ACall P G f args' H res H') : ACall P G f args H res H' := by
  refine ⟨h.fn, fun K ρ w vs g hl hr => h.run K ρ w vs g ?_ ?_⟩
  · clear h hr
    induction hs with
    | nil => rfl
    | cons h1 h2 _ ih =>
      simp only [AV.lims, Bool.and_eq_true] at hl ⊢
      refine ⟨?_, ih hl.2⟩
      rcases h2 with h2 | rfl
      · exact AV.lim_mono (Nat.zero_le _) _ h2
      · exact hl.1
  · clear h hl
    induction hs generalizing vs with
    | nil => exact hr
    | cons h1 h2 _ ih =>
      simp only [rels] at hr ⊢
      obtain ⟨v, l', rfl, k1, k2⟩ := hr
      exact ⟨v, l', rfl, h1 _ _ _ k1, ih _ k2⟩

theorem ACall.res {f : FuncId} {args : List AV} {res res' : AV} (hs : Sub res res') (hl : res'.lim H'.length = true) (h : ACall P G f args H res H') : ACall P G f args H res' H' :=
  ⟨h.fn, fun K ρ w vs g hl0 hr => (h.run K ρ w vs g hl0 hr).mono fun _ _ ⟨v, he, K', ρ', h1, h2, h3, _⟩ => ⟨v, he, K', ρ', h1, h2, hs _ _ _ h3, hl⟩⟩

theorem Sub.nilLst : Sub (.val (.slice none 0 0)) (.lst 0 []) := fun K ρ v h => by
  simp only [rel] at h ⊢; exact ⟨none, 0, h, Nat.le_refl _, by simp⟩
theorem Sub.empLst : Sub .emp (.lst 0 []) := fun K ρ v h => by
  simp only [rel] at h ⊢
  obtain ⟨a, h⟩ := h
  exact ⟨a, 0, h, Nat.le_refl _, by simp⟩
theorem Sub.nilEmp : Sub (.val (.slice none 0 0)) .emp := fun K ρ v h => by
  simp only [rel] at h ⊢; exact ⟨none, h⟩
theorem Sub.any (av : AV) : Sub av .any := fun K ρ v _ => by simp [rel]

/-! ### len -/
theorem XOp.lenL (T : Tab P) {x : Operand} {t u : TypeId} {i : TI} {m : Nat} {cs : List AV} (hx : opndO env x = some (.lst m cs)) (hT : tyAt T.l t = some i) (hs : i.d = .slice u) :
    XOp P G env H ⟨d, .call ⟨.builtin .len, ⟨[x]⟩, ⟨[t]⟩⟩, ty, pos, after, gu⟩ (.val (.int .i64 m)) H := by
  refine XOp.of_run1 hx (fun _ _ => rfl) fun K ρ w a h1 => ?_
  simp only [rel] at h1
  obtain ⟨b, cap, hv, _⟩ := h1
  have hd := (T.is hT).desc
  rw [hs] at hd
  refine ⟨.int .i64 m, w, ?_, Alike.refl w, rfl⟩
  simp [execOp, resolve, invoke, builtin, Builtin.len_, hv, underlying, show P.underlying t = some (.slice u) from hd, goInt]
theorem XOp.lenO (T : Tab P) {x : Operand} {t u : TypeId} {i : TI} {m l k z : Nat} (hx : opndO env x = some (.slc l k m z)) (hT : tyAt T.l t = some i) (hs : i.d = .slice u) :
    XOp P G env H ⟨d, .call ⟨.builtin .len, ⟨[x]⟩, ⟨[t]⟩⟩, ty, pos, after, gu⟩ (.val (.int .i64 m)) H := by
  refine XOp.of_run1 hx (fun _ _ => rfl) fun K ρ w a h1 => ?_
  simp only [rel] at h1
  have hd := (T.is hT).desc
  rw [hs] at hd
  have hv : ∃ b cap, a.eval x = .slice b m cap := by
    rcases h1 with ⟨cap, hv, _⟩ | ⟨rfl, b, hv⟩
    · exact ⟨_, _, hv⟩
    · exact ⟨_, _, hv⟩
  obtain ⟨b, cap, hv⟩ := hv
  refine ⟨.int .i64 m, w, ?_, Alike.refl w, rfl⟩
  simp [execOp, resolve, invoke, builtin, Builtin.len_, hv, underlying, show P.underlying t = some (.slice u) from hd, goInt]
theorem XOp.lenE (T : Tab P) {x : Operand} {t u : TypeId} {i : TI} (hx : opndO env x = some .emp) (hT : tyAt T.l t = some i) (hs : i.d = .slice u) :
    XOp P G env H ⟨d, .call ⟨.builtin .len, ⟨[x]⟩, ⟨[t]⟩⟩, ty, pos, after, gu⟩ (.val (.int .i64 0)) H := by
  refine XOp.of_run1 hx (fun _ _ => rfl) fun K ρ w a h1 => ?_
  simp only [rel] at h1
  obtain ⟨b, hv⟩ := h1
  have hd := (T.is hT).desc
  rw [hs] at hd
  refine ⟨.int .i64 0, w, ?_, Alike.refl w, rfl⟩
  simp [execOp, resolve, invoke, builtin, Builtin.len_, hv, underlying, show P.underlying t = some (.slice u) from hd, goInt]
theorem XOp.lenS (T : Tab P) {x : Operand} {t : TypeId} {i : TI} {s : ByteArray} (hx : opndO env x = some (.val (.string s))) (hT : tyAt T.l t = some i) (hs : i.d = .str) :
    XOp P G env H ⟨d, .call ⟨.builtin .len, ⟨[x]⟩, ⟨[t]⟩⟩, ty, pos, after, gu⟩ (.val (.int .i64 s.size)) H := by
  refine XOp.of_run1 hx (fun _ _ => rfl) fun K ρ w a h1 => ?_
  simp only [rel] at h1
  have hd := (T.is hT).desc
  rw [hs] at hd
  refine ⟨.int .i64 s.size, w, ?_, Alike.refl w, rfl⟩
  simp [execOp, resolve, invoke, builtin, Builtin.len_, h1, underlying, show P.underlying t = some .string from hd, goInt]
end ops

/-! ## loops -/
/-- The state says at least what E and H0 say. -/
structure Fits (E : Env) (H0 : Heap) (env : Env) (H : Heap) : Prop where
  le : EnvLe E env
  heap : ∃ m, m ≤ H.length ∧ H.take m = H0 ∧ (m = H.length ∨ ((∀ t, (look E t).lim m = true) ∧ ∀ l o, Heap.get H0 l = some o → AV.lims m o.cells = true))

theorem Fits.same {E : Env} (h : EnvLe E env) : Fits E H env H := ⟨h, H.length, Nat.le_refl _, by simp, .inl rfl⟩

theorem EnvOk.lim {m m' : Nat} (he : EnvOk K ρ m env a) (h : ∀ t, (look env t).lim m' = true) : EnvOk K ρ m' env a := fun t => ⟨h t, (he t).2⟩

theorem Fits.use {E : Env} {H0 : Heap} (h : Fits E H0 env H) (g : Good G K ρ H w) (he : EnvOk K ρ H.length env a) {H1 : Heap} {K1 : Mem} {ρ1 : Place} {w1 : World} (hlen : H1.length ≤ H0.length) (e : Ext K1 ρ1 H1 w1 K ρ H w) :
    Good G K ρ H0 w ∧ EnvOk K ρ H0.length E a ∧ Ext K1 ρ1 H1 w1 K ρ H0 w := by
  obtain ⟨m, h1, h2, h3⟩ := h.heap
  have hl : H0.length = m := by rw [← h2]; simp; omega
  have he1 := h.le.ok he
  rcases h3 with h3 | ⟨h3, h4⟩
  · have : H0 = H := by rw [← h2, h3]; simp
    subst this
    exact ⟨g, he1, e⟩
  · refine ⟨?_, ?_, ?_⟩
    · rw [← h2]; exact g.take h1 (by rw [h2]; exact h4)
    · rw [hl]; exact he1.lim h3
    · rw [← h2]; exact e.take (by omega) h1

theorem wp_loop_ghost {ι : Type} {c : Code} {Q : Exit → Act → World → Prop} (I : ι → Act → World → Prop) (μ : ι → Nat) (i0 : ι) (h₀ : I i0 a w)
    (round : ∀ i a w, I i a w → c.wp P (Exit.then (fun a' w' => ∃ j, μ j < μ i ∧ I j a' w') Q) a w) : (Code.loop c).wp P Q a w := by
  intro b k cs
  have key : ∀ n i a w, μ i = n → I i a w →
      ∃ e a' w', Q e a' w' ∧ Arrives P (lone (b.at a (.code c :: .inLoop c :: k)) cs w) b k cs e a' w' := by
    intro n
    induction n using Nat.strongRecOn with
    | _ n ih =>
      intro i a w hn hI
      obtain ⟨e, a₁, w₁, hq, harr⟩ := round i a w hI b (.inLoop c :: k) cs
      cases e with
      | normal =>
        obtain ⟨j, hlt, hI₁⟩ := hq
        obtain ⟨e₂, a₂, w₂, hq₂, harr₂⟩ := ih (μ j) (hn ▸ hlt) j a₁ w₁ rfl hI₁
        exact ⟨e₂, a₂, w₂, hq₂, .of_steps (Steps.trans harr (.one step_inLoop)) harr₂⟩
      | exit id => exact ⟨_, a₁, w₁, hq, .pass (x := .inLoop c) rfl (fun _ _ => .inl (by simp)) harr⟩
      | goto l => exact ⟨_, a₁, w₁, hq, .pass (x := .inLoop c) rfl (fun _ _ => .inl (by simp)) harr⟩
      | ret => exact ⟨_, a₁, w₁, hq, .pass (x := .inLoop c) rfl (fun _ _ => .inl (by simp)) harr⟩
      | panic ch => exact ⟨_, a₁, w₁, hq, .pass (x := .inLoop c) rfl (fun _ _ => .inl (by simp)) harr⟩
      | outgrown => exact ⟨_, a₁, w₁, hq, .pass (x := .inLoop c) rfl (fun _ _ => .inl (by simp)) harr⟩
  obtain ⟨e, a', w', hq, harr⟩ := key _ i0 a w rfl h₀
  exact ⟨e, a', w', hq, .of_steps (.one step_loop) harr⟩

theorem W.loop {ι : Type} {c : Code} {Q : Post} (E : ι → Env) (Hf : ι → Heap) (μ : ι → Nat) (i0 : ι) (h0 : Fits (E i0) (Hf i0) env H) (hlen : ∀ i, H.length ≤ (Hf i).length)
    (round : ∀ i, W P G n c (E i) (Hf i) (thenP (fun env' H' => ∃ j, μ j < μ i ∧ Fits (E j) (Hf j) env' H') Q)) : W P G n (.loop c) env H Q := by
  refine ⟨fun K ρ w a g he hs hd => ?_⟩
  refine wp_loop_ghost (ι := ι) (fun i a1 w1 => ∃ K1 ρ1, Good G K1 ρ1 (Hf i) w1 ∧ EnvOk K1 ρ1 (Hf i).length (E i) a1 ∧ a1.tmps.size = n ∧ a1.defers = [] ∧ Ext K ρ H w K1 ρ1 (Hf i) w1) μ i0 ?_ ?_
  · obtain ⟨g1, e1, x1⟩ := h0.use g he (hlen i0) (Ext.refl K ρ H w)
    exact ⟨K, ρ, g1, e1, hs, hd, x1⟩
  · rintro i a1 w1 ⟨K1, ρ1, g1, e1, hs1, hd1, x1⟩
    refine wp_mono ((round i).run K1 ρ1 w1 a1 g1 e1 hs1 hd1) ?_
    rintro e a2 w2 ⟨env2, H2, K2, ρ2, hq, g2, e2, hs2, hd2, x2⟩
    have x12 := x1.trans g g1 x2
    cases e with
    | normal =>
      obtain ⟨j, hlt, hf⟩ := hq
      obtain ⟨g3, e3, x3⟩ := hf.use g2 e2 (hlen j) x12
      exact ⟨j, hlt, K2, ρ2, g3, e3, hs2, hd2, x3⟩
    | _ => exact ⟨env2, H2, K2, ρ2, hq, g2, e2, hs2, hd2, x12⟩

/-- A cut: what stands behind is told once. -/
theorem W.cut {ι : Type} {x y : Code} {Q : Post} (E : ι → Env) (Hf : ι → Heap) (hlen : ∀ i, H.length ≤ (Hf i).length)
    (h1 : W P G n x env H (thenP (fun env' H' => ∃ j, Fits (E j) (Hf j) env' H') Q)) (h2 : ∀ j, W P G n y (E j) (Hf j) Q) : W P G n (.seq x y) env H Q := by
  refine ⟨fun K ρ w a g he hs hd => ?_⟩
  refine wp_seq (wp_mono (h1.run K ρ w a g he hs hd) ?_)
  rintro e a1 w1 ⟨env1, H1, K1, ρ1, hq, g1, e1, hs1, hd1, x1⟩
  cases e with
  | normal =>
    obtain ⟨j, hf⟩ := hq
    obtain ⟨g3, e3, x3⟩ := hf.use g1 e1 (hlen j) x1
    exact wp_mono ((h2 j).run K1 ρ1 w1 a1 g3 e3 hs1 hd1) fun _ _ _ h => h.trans g g3 x3
  | _ => exact ⟨env1, H1, K1, ρ1, hq, g1, e1, hs1, hd1, x1⟩

end Go.Ax
