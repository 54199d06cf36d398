/-
  Freezing what is written no more, and pieces of slices.
-/
import Derived.Test.YtomidnkcohkhfaaGreatDoorK9
import Derived.Conc.AtomicLaws
namespace Go.Ax
variable {P : Program} {G K : Mem} {ρ : Place} {H H0 H0' H' H1 H2 L : Heap} {env : Env} {a : Act} {n : Nat}

theorem canon_inv {k : FloatKind} {b b' : Nat} (h : canon k b' = b) (hn : isNaNb k b = false) : b' = b := by
  unfold canon at h
  cases hb : isNaNb k b' with
  | true =>
    rw [hb] at h
    simp only [cond_true] at h
    rw [← h] at hn
    cases k <;> exact absurd hn (by decide)
  | false => rw [hb] at h; simpa using h

section ops
variable {d : Option Tmp} {ty : TypeId} {pos : String} {after : Array Edge} {gu : Option (Nat × Bool)} {av : AV}

theorem XOp.ext1 {f : FuncId} {fn : Func} {e : Array Value → Sem Value} {x : Operand} {ts : Array TypeId} {ax av : AV} (hx : opndO env x = some ax) (hf : P.funcs[f]? = some fn) (hname : (fn.name == "runtime.NumGoroutine") = false) (hb : fn.body = none) (hn : Extern.findNext fn = none) (he : Extern.find fn = some e)
    (hl : ∀ m, ax.lim m = true → av.lim m = true) (h : ∀ (K : Mem) (ρ : Place) (w : World) (u : Value), rel K ρ ax u → ∃ v w', (e #[u]).run P w = .ok v w' ∧ Alike w w' ∧ rel K ρ av v) : XOp P G env H ⟨d, .call ⟨.value (.func f), ⟨[x]⟩, ts⟩, ty, pos, after, gu⟩ av H := by
  refine XOp.of_run1 hx hl fun K ρ w a h1 => ?_
  obtain ⟨v, w', h2, h3, h4⟩ := h K ρ w _ h1
  refine ⟨v, w', ?_, h3, h4⟩
  simp only [execOp, resolve, Deferred.ofValue, Act.eval, Sem.run_bind, Sem.run_pure, Result.andThen_ok, invoke]
  have : (callFunc f (#[] ++ Array.map a.eval { toList := [x] } ++ #[])).run P w = .ok (.value v) w' := by
    have e1 : (#[] ++ Array.map a.eval { toList := [x] } ++ #[] : Array Value) = #[a.eval x] := by simp
    rw [e1, run_callFunc_extern hf hname (by rw [hb]; rfl) hn he, h2]; rfl
  simpa [Act.eval] using this

theorem XOp.fbits {f : FuncId} {fn : Func} {x : Operand} {ts : Array TypeId} {b : Nat} (hx : opndO env x = some (.flt .f32 b)) (hf : P.funcs[f]? = some fn) (hname : (fn.name == "runtime.NumGoroutine") = false) (hb : fn.body = none) (hn : Extern.findNext fn = none) (he : Extern.find fn = some Extern.MathFloatBits.float32bits)
    (hnan : isNaNb .f32 b = false) : XOp P G env H ⟨d, .call ⟨.value (.func f), ⟨[x]⟩, ts⟩, ty, pos, after, gu⟩ (.val (.int .u32 b)) H :=
  XOp.ext1 hx hf hname hb hn he (fun _ _ => rfl) fun K ρ w u hr => by
    simp only [rel] at hr
    obtain ⟨b', rfl, _, h2⟩ := hr
    have := canon_inv h2 hnan
    subst this
    exact ⟨_, w, rfl, Alike.refl w, by simp only [rel]⟩
theorem XOp.ffrom {f : FuncId} {fn : Func} {x : Operand} {ts : Array TypeId} {b : Int} (hx : opndO env x = some (.val (.int .u32 b))) (hf : P.funcs[f]? = some fn) (hname : (fn.name == "runtime.NumGoroutine") = false) (hb : fn.body = none) (hn : Extern.findNext fn = none) (he : Extern.find fn = some Extern.MathFloatBits.float32frombits)
    (h0 : 0 ≤ b) (h1 : b < 4294967296) : XOp P G env H ⟨d, .call ⟨.value (.func f), ⟨[x]⟩, ts⟩, ty, pos, after, gu⟩ (.flt .f32 (canon .f32 b.toNat)) H :=
  XOp.ext1 hx hf hname hb hn he (fun _ _ => rfl) fun K ρ w u hr => by
    simp only [rel] at hr
    subst hr
    refine ⟨_, w, rfl, Alike.refl w, ?_⟩
    simp only [rel]
    exact ⟨_, rfl, by simp only [bound]; omega, rfl⟩

/-- An element of a list whose cells stand there. -/
theorem XOp.idxC (T : Tab P) {x y : Operand} {t e : TypeId} {i j : TI} {k : IntKind} {m : Nat} {cs r : List AV} {c : AV} {z : Int} (hx : opndO env x = some (.lst m cs)) (hy : opndO env y = some (.val (.int k z))) (hT : tyAt T.l t = some i) (hd : i.d = .slice e) (hE : tyAt T.l e = some j)
    (hr : dropO cs (z.toNat * j.size) = some (c :: r)) (h0 : 0 ≤ z) (h1 : z < m) : XOp P G env H ⟨d, .indexAddr t x y, ty, pos, after, gu⟩ (.fptr (c :: r)) H := by
  obtain ⟨h2, _⟩ := dropO_eq hr
  exact XOp.idxL T hx hy hT hd hE h0 h1 h2.symm (by simp)

theorem drop_enc {α : Type} {enc : α → List AV} {s : Nat} (hs : ∀ x, (enc x).length = s) : ∀ (xs : List α) (k : Nat), (xs.flatMap enc).drop (k * s) = (xs.drop k).flatMap enc
  | xs, 0 => by simp
  | [], k + 1 => by simp
  | x :: xs, k + 1 => by
    rw [List.flatMap_cons, List.drop_succ_cons, Nat.add_mul, Nat.one_mul, Nat.add_comm, ← List.drop_drop, ← hs x, List.drop_left, hs x]
    exact drop_enc hs xs k
theorem drop_at {α : Type} [Inhabited α] {xs : List α} {k : Nat} (h : k < xs.length) : xs.drop k = xs.getD k default :: xs.drop (k + 1) := by
  rw [List.drop_eq_getElem_cons h]
  congr 1
  simp [h]

/-- An element of a list that is told by a function. -/
theorem XOp.idxE (T : Tab P) {α : Type} [Inhabited α] {enc : α → List AV} {s : Nat} {xs : List α} {x y : Operand} {t e : TypeId} {i j : TI} {k : IntKind} {m : Nat} {z : Int} (hx : opndO env x = some (.lst m (xs.flatMap enc))) (hy : opndO env y = some (.val (.int k z))) (hT : tyAt T.l t = some i) (hd : i.d = .slice e) (hE : tyAt T.l e = some j)
    (hj : j.size = s) (hs : ∀ x, (enc x).length = s) (hs0 : Nat.blt 0 s = true) (hm : m = xs.length) (h0 : 0 ≤ z) (h1 : z < xs.length) :
    XOp P G env H ⟨d, .indexAddr t x y, ty, pos, after, gu⟩ (.fptr (enc (xs.getD z.toNat default) ++ (xs.drop (z.toNat + 1)).flatMap enc)) H := by
  have hlt : z.toNat < xs.length := by omega
  refine XOp.idxL T hx hy hT hd hE h0 (by omega) ?_ ?_
  · rw [hj, drop_enc hs, drop_at hlt, List.flatMap_cons]
  · intro h
    have := congrArg List.length h
    simp only [List.length_append, hs, List.length_nil] at this
    have : 0 < s := by simpa using hs0
    omega
theorem XOp.idxB (T : Tab P) {xs : List UInt8} {x y : Operand} {t e : TypeId} {i j : TI} {k : IntKind} {m : Nat} {z : Int} (hx : opndO env x = some (.lst m (xs.flatMap encB))) (hy : opndO env y = some (.val (.int k z))) (hT : tyAt T.l t = some i) (hd : i.d = .slice e) (hE : tyAt T.l e = some j)
    (hj : j.size = 1) (hm : m = xs.length) (h0 : 0 ≤ z) (h1 : z < xs.length) :
    XOp P G env H ⟨d, .indexAddr t x y, ty, pos, after, gu⟩ (.fptr (encB (xs.getD z.toNat default) ++ (xs.drop (z.toNat + 1)).flatMap encB)) H :=
  XOp.idxE T hx hy hT hd hE hj (fun _ => rfl) rfl hm h0 h1
theorem XOp.idxF (T : Tab P) {xs : List Nat} {x y : Operand} {t e : TypeId} {i j : TI} {k : IntKind} {m : Nat} {z : Int} (hx : opndO env x = some (.lst m (xs.flatMap encF))) (hy : opndO env y = some (.val (.int k z))) (hT : tyAt T.l t = some i) (hd : i.d = .slice e) (hE : tyAt T.l e = some j)
    (hj : j.size = 1) (hm : m = xs.length) (h0 : 0 ≤ z) (h1 : z < xs.length) :
    XOp P G env H ⟨d, .indexAddr t x y, ty, pos, after, gu⟩ (.fptr (encF (xs.getD z.toNat default) ++ (xs.drop (z.toNat + 1)).flatMap encF)) H :=
  XOp.idxE T hx hy hT hd hE hj (fun _ => rfl) rfl hm h0 h1
theorem XOp.idxS (T : Tab P) {xs : List ByteArray} {x y : Operand} {t e : TypeId} {i j : TI} {k : IntKind} {m : Nat} {z : Int} (hx : opndO env x = some (.lst m (xs.flatMap encS))) (hy : opndO env y = some (.val (.int k z))) (hT : tyAt T.l t = some i) (hd : i.d = .slice e) (hE : tyAt T.l e = some j)
    (hj : j.size = 1) (hm : m = xs.length) (h0 : 0 ≤ z) (h1 : z < xs.length) :
    XOp P G env H ⟨d, .indexAddr t x y, ty, pos, after, gu⟩ (.fptr (encS (xs.getD z.toNat default) ++ (xs.drop (z.toNat + 1)).flatMap encS)) H :=
  XOp.idxE T hx hy hT hd hE hj (fun _ => rfl) rfl hm h0 h1
theorem XOp.idxI (T : Tab P) {xs : List Int} {x y : Operand} {t e : TypeId} {i j : TI} {k : IntKind} {m : Nat} {z : Int} (hx : opndO env x = some (.lst m (xs.flatMap encI))) (hy : opndO env y = some (.val (.int k z))) (hT : tyAt T.l t = some i) (hd : i.d = .slice e) (hE : tyAt T.l e = some j)
    (hj : j.size = 1) (hm : m = xs.length) (h0 : 0 ≤ z) (h1 : z < xs.length) :
    XOp P G env H ⟨d, .indexAddr t x y, ty, pos, after, gu⟩ (.fptr (encI (xs.getD z.toNat default) ++ (xs.drop (z.toNat + 1)).flatMap encI)) H :=
  XOp.idxE T hx hy hT hd hE hj (fun _ => rfl) rfl hm h0 h1
end ops
end Go.Ax
namespace Go.Ax
variable {P : Program} {G K : Mem} {ρ : Place} {H H0 H0' H' H1 H2 L : Heap} {w w' : World} {env : Env} {a : Act} {n : Nat}

/-- At most so many rounds are left. -/
def RW (P : Program) (G : Mem) (n : Nat) (c : Code) (Q : Post) : Nat → Env → Heap → Prop
  | 0, _, _ => False
  | k + 1, env, H => W P G n c env H (thenP (fun env' H' => RW P G n c Q k env' H') Q)
theorem RW.step {c : Code} {Q : Post} {k : Nat} (h : W P G n c env H (thenP (fun env' H' => RW P G n c Q k env' H') Q)) : RW P G n c Q (k + 1) env H := h
theorem W.rounds {c : Code} {Q : Post} (k : Nat) (h : RW P G n c Q k env H) : W P G n (.loop c) env H Q := by
  refine ⟨fun K ρ w a g he hs hd => ?_⟩
  refine wp_loop_ghost (ι := Nat) (fun i a1 w1 => ∃ env1 H1 K1 ρ1, RW P G n c Q i env1 H1 ∧ Good G K1 ρ1 H1 w1 ∧ EnvOk K1 ρ1 H1.length env1 a1 ∧ a1.tmps.size = n ∧ a1.defers = [] ∧ Ext K ρ H w K1 ρ1 H1 w1) id k ?_ ?_
  · exact ⟨env, H, K, ρ, h, g, he, hs, hd, Ext.refl K ρ H w⟩
  · rintro i a1 w1 ⟨env1, H1, K1, ρ1, hr, g1, e1, hs1, hd1, x1⟩
    cases i with
    | zero => exact hr.elim
    | succ i =>
      refine wp_mono (W.run hr K1 ρ1 w1 a1 g1 e1 hs1 hd1) ?_
      rintro e a2 w2 ⟨env2, H2, K2, ρ2, hq, g2, e2, hs2, hd2, x2⟩
      have x12 := x1.trans g g1 x2
      cases e with
      | normal => exact ⟨i, Nat.lt_succ_self i, env2, H2, K2, ρ2, hq, g2, e2, hs2, hd2, x12⟩
      | _ => exact ⟨env2, H2, K2, ρ2, hq, g2, e2, hs2, hd2, x12⟩

theorem flatF (xs : List Nat) : xs.flatMap encF = xs.map (fun x => AV.flt .f32 x) := by
  induction xs with
  | nil => rfl
  | cons x xs ih => rw [List.flatMap_cons, ih]; rfl
theorem dropO_of : ∀ {l : List AV} {k : Nat}, k ≤ l.length → dropO l k = some (l.drop k)
  | l, 0, _ => by simp [dropO]
  | [], k + 1, h => by simp at h
  | c :: l, k + 1, h => by simp only [dropO]; rw [dropO_of (by simpa using h)]; simp
theorem spliceO_of : ∀ {l : List AV} {k : Nat} {cs : List AV}, k + cs.length ≤ l.length → spliceO l k cs = some (splice l k cs)
  | l, 0, [], _ => by simp [spliceO, splice]
  | [], 0, c :: cs, h => by simp at h
  | x :: l, 0, c :: cs, h => by
    simp only [spliceO]
    rw [spliceO_of (by simp at h ⊢; omega)]
    have e1 : 0 + (c :: cs).length = cs.length + 1 := by simp
    have e2 : 0 + cs.length = cs.length := by simp
    simp only [splice, e1, e2, List.drop_succ_cons, List.take_zero, List.nil_append, List.cons_append]
  | [], k + 1, cs, h => by simp at h
  | x :: l, k + 1, cs, h => by
    simp only [spliceO]
    rw [spliceO_of (by simp at h; omega)]
    have e1 : k + 1 + cs.length = (k + cs.length) + 1 := by omega
    simp only [splice, e1, List.drop_succ_cons, List.take_succ_cons, List.cons_append]
theorem setO_of : ∀ {H : Heap} {l : Nat} {x : Option AObj}, l < H.length → setO H l x = some (H.set l x)
  | [], _, _, h => by simp at h
  | _ :: H, 0, x, _ => rfl
  | o :: H, l + 1, x, h => by simp only [setO]; rw [setO_of (by simpa using h)]; rfl

theorem flat0 {α : Type} {xs : List α} {f : α → List AV} (h : xs.length = 0) : xs.flatMap f = [] := by
  rw [List.length_eq_zero_iff.1 h]; rfl
theorem WView.whole {L : Heap} {f : Nat → Nat} {l n z : Nat} {b : Bool} {cs cs' : List AV} (ho : L.get l = some ⟨cs, b⟩) (hv : WViews L f cs cs') (hn : n = 0 → cs' = []) : WView L f (.slc l 0 n z) (.lst n cs') :=
  .slc ho (by simp) hv hn

section ops
variable {d : Option Tmp} {ty : TypeId} {pos : String} {after : Array Edge} {gu : Option (Nat × Bool)} {av : AV}

theorem XOp.idxO1 (T : Tab P) {x y : Operand} {t e : TypeId} {i j : TI} {k : IntKind} {l m : Nat} {z : Int} (hx : opndO env x = some (.slc l 0 m 1)) (hy : opndO env y = some (.val (.int k z))) (hT : tyAt T.l t = some i) (hd : i.d = .slice e) (hE : tyAt T.l e = some j) (hj : j.size = 1)
    (h0 : 0 ≤ z) (h1 : z < m) : XOp P G env H ⟨d, .indexAddr t x y, ty, pos, after, gu⟩ (.ptr l z.toNat) H :=
  XOp.idxO T hx hy hT hd hE h0 h1 (by rw [hj]; omega)

theorem XOp.loadF (T : Tab P) {t l k : Nat} {i : TI} {x : Operand} {xs : List Nat} {b : Bool} (hx : opndO env x = some (.ptr l k)) (hT : tyAt T.l t = some i) (hd : i.d = .flt .f32) (hs : i.size = 1) (ho : H.get l = some ⟨xs.flatMap encF, b⟩) (hk : k < xs.length) :
    XOp P G env H ⟨d, .load t x, ty, pos, after, gu⟩ (.flt .f32 (xs.getD k default)) H := by
  refine XOp.load T hx ?_
  unfold readO
  simp only [ho, hT]
  rw [dropO_of (by rw [flatF]; simp; omega)]
  simp only [hs]
  have e : (xs.flatMap encF).drop k = .flt .f32 (xs.getD k default) :: (xs.drop (k + 1)).flatMap encF := by
    have := drop_enc (enc := encF) (s := 1) (fun _ => rfl) xs k
    rw [Nat.mul_one] at this
    rw [this, drop_at hk, List.flatMap_cons]; rfl
  rw [e]
  simp only [takeO, packO, TI.agg, hd, cond_false]
theorem XOp.storeF (T : Tab P) {t l k v : Nat} {i : TI} {x y : Operand} {xs : List Nat} {b : Bool} (hx : opndO env x = some (.ptr l k)) (hy : opndO env y = some (.flt .f32 v)) (hT : tyAt T.l t = some i) (hd : i.d = .flt .f32) (_hs : i.size = 1) (ho : H.get l = some ⟨xs.flatMap encF, b⟩) (hk : k < xs.length)
    (hH : setO H l (some ⟨(xs.set k v).flatMap encF, b⟩) = some H') : XOp P G env H ⟨d, .store t x y, ty, pos, after, gu⟩ .any H' := by
  refine XOp.store T hx hy ?_
  unfold writeO
  simp only [ho, hT]
  have hc : cellsO i (.flt .f32 v) = some [.flt .f32 v] := by simp only [cellsO, TI.agg, hd, cond_false, okCell, cond_true]
  simp only [hc]
  rw [spliceO_of (by rw [flatF]; simp; omega)]
  have e : splice (xs.flatMap encF) k [.flt .f32 v] = (xs.set k v).flatMap encF := by
    rw [flatF, flatF, List.map_set]
    unfold splice
    rw [List.set_eq_take_append_cons_drop, if_pos (by simpa using hk)]
    simp
  rw [e]
  exact hH
end ops
end Go.Ax
namespace Go.Ax
variable {P : Program} {G K : Mem} {ρ : Place} {H H0 H0' H' H1 H2 L : Heap} {w w' : World} {env : Env} {a : Act} {n : Nat}
section ops
variable {d : Option Tmp} {ty : TypeId} {pos : String} {after : Array Edge} {gu : Option (Nat × Bool)} {av : AV}
theorem zrepF (m : Nat) : zrep m [.flt .f32 0] = (List.replicate m 0).flatMap encF := by
  rw [zrep_flt, flatF]
/-- A row of narrow zeros. -/
theorem XOp.makeF (T : Tab P) {t e m l : Nat} {i j : TI} {k1 k2 : IntKind} {x y : Operand} {n1 n2 : Int} (hx : opndO env x = some (.val (.int k1 n1))) (hy : opndO env y = some (.val (.int k2 n2))) (h1 : n1 = m) (h2 : n2 = m)
    (hT : tyAt T.l t = some i) (hd : i.d = .slice e) (hE : tyAt T.l e = some j) (hz : j.size = 1) (hzz : j.zero = [.flt .f32 0]) (hby : j.bytes = 4) (hb : m ≤ 1000000000) (hl : H.length = l) (h : snocO H (some ⟨(List.replicate m 0).flatMap encF, true⟩) = some H') :
    XOp P G env H ⟨d, .makeSlice t x y, ty, pos, after, gu⟩ (.slc l 0 m 1) H' :=
  XOp.makeSlice T hx hy h1 h2 hT hd hE hz (by rw [hby]; omega) (by omega) (by rw [hzz]; exact zrepF m) hl h
end ops
end Go.Ax
