/-
  Loops and calls in the book.
-/
import Derived.Test.YtomidnkcohkhfaaGreatDoorK7
namespace Go.Ax
variable {P : Program} {G K : Mem} {ρ ρ0 : Place} {H H' H1 : Heap} {w w' : World} {env : Env} {a : Act} {n : Nat}

mutual
inductive Ren (f : Nat → Nat × Nat) (wh : Nat → Bool) : AV → AV → Prop
  | same {c : AV} : c.lim 0 = true → Ren f wh c c
  | ptr {l k l' k' j : Nat} : f l = (l', j) → j + k = k' → Ren f wh (.ptr l k) (.ptr l' k')
  | slc {l k n z l' : Nat} : f l = (l', 0) → wh l = true → Ren f wh (.slc l k n z) (.slc l' k n z)
  | lst {n : Nat} {cs cs' : List AV} : Rens f wh cs cs' → Ren f wh (.lst n cs) (.lst n cs')
  | fptr {cs cs' : List AV} : Rens f wh cs cs' → Ren f wh (.fptr cs) (.fptr cs')
  | agg {cs cs' : List AV} : Rens f wh cs cs' → Ren f wh (.agg cs) (.agg cs')
  | tup {cs cs' : List AV} : Rens f wh cs cs' → Ren f wh (.tup cs) (.tup cs')
  | fn {g : FuncId} {cs cs' : List AV} : Rens f wh cs cs' → Ren f wh (.fn g cs) (.fn g cs')
  | ifc {t : TypeId} {c c' : AV} : Ren f wh c c' → Ren f wh (.ifc t c) (.ifc t c')
inductive Rens (f : Nat → Nat × Nat) (wh : Nat → Bool) : List AV → List AV → Prop
  | nil : Rens f wh [] []
  | same {cs : List AV} : AV.lims 0 cs = true → Rens f wh cs cs
  | cons {c c' : AV} {cs cs' : List AV} : Ren f wh c c' → Rens f wh cs cs' → Rens f wh (c :: cs) (c' :: cs')
end

/-- The small places and the large ones go together. -/
def Along (f : Nat → Nat × Nat) (wh : Nat → Bool) (ρ0 ρ : Place) : Prop :=
  ∀ l, (ρ0 l).b = (ρ (f l).1).b ∧ (ρ0 l).o = (ρ (f l).1).o + (f l).2 ∧ (wh l = true → (ρ0 l).e = (ρ (f l).1).e)

theorem rel_any0 (K : Mem) (ρ0 ρ : Place) {c : AV} {v : Value} (h : c.lim 0 = true) : rel K ρ0 c v ↔ rel K ρ c v :=
  ⟨rel_mono (fun _ _ h => h) (m := 0) (fun l hl => by omega) c v h, rel_mono (fun _ _ h => h) (m := 0) (fun l hl => by omega) c v h⟩
theorem rels_any0 (K : Mem) (ρ0 ρ : Place) {cs : List AV} {vs : List Value} (h : AV.lims 0 cs = true) : rels K ρ0 cs vs ↔ rels K ρ cs vs :=
  ⟨rels_mono (fun _ _ h => h) (m := 0) (fun l hl => by omega) cs vs h, rels_mono (fun _ _ h => h) (m := 0) (fun l hl => by omega) cs vs h⟩
theorem relAt_any0 (K : Mem) (ρ0 ρ : Place) {cs : List AV} {b o : Nat} (h : AV.lims 0 cs = true) : relAt K ρ0 cs b o ↔ relAt K ρ cs b o :=
  ⟨relAt_mono (fun _ _ h => h) (m := 0) (fun l hl => by omega) cs b o h, relAt_mono (fun _ _ h => h) (m := 0) (fun l hl => by omega) cs b o h⟩

mutual
theorem ren_iff {f : Nat → Nat × Nat} {wh : Nat → Bool} (hA : Along f wh ρ0 ρ) : ∀ {c c' : AV}, Ren f wh c c' → ∀ (v : Value), rel K ρ0 c v ↔ rel K ρ c' v
  | _, _, .same h, v => rel_any0 K ρ0 ρ h
  | .ptr l k, _, .ptr (l' := l') (j := j) h1 h2, v => by
    obtain ⟨e1, e2, _⟩ := hA l
    rw [h1] at e1 e2
    simp only [rel, e1, e2, ← h2, Nat.add_assoc]
  | .slc l k n z, _, .slc (l' := l') h1 h2, v => by
    obtain ⟨e1, e2, e3⟩ := hA l
    have e3 := e3 h2
    rw [h1] at e1 e2 e3
    simp only [rel, e1, e2, e3, Nat.add_zero]
  | .lst n cs, _, .lst h, v => by
    simp only [rel]
    constructor
    · rintro ⟨a, cap, h1, h2, h3⟩
      refine ⟨a, cap, h1, h2, h3.imp (fun h0 => ?_) (fun ⟨b, o, h4, h5⟩ => ⟨b, o, h4, (renAt_iff hA h b o).1 h5⟩)⟩
      subst h0; cases h <;> rfl
    · rintro ⟨a, cap, h1, h2, h3⟩
      refine ⟨a, cap, h1, h2, h3.imp (fun h0 => ?_) (fun ⟨b, o, h4, h5⟩ => ⟨b, o, h4, (renAt_iff hA h b o).2 h5⟩)⟩
      subst h0; cases h <;> rfl
  | .fptr cs, _, .fptr h, v => by
    simp only [rel]
    exact ⟨fun ⟨b, o, h4, h5⟩ => ⟨b, o, h4, (renAt_iff hA h b o).1 h5⟩, fun ⟨b, o, h4, h5⟩ => ⟨b, o, h4, (renAt_iff hA h b o).2 h5⟩⟩
  | .agg cs, _, .agg h, v => by
    simp only [rel]
    exact ⟨fun ⟨l, h1, h2, h3⟩ => ⟨l, h1, (rens_iff hA h l).1 h2, h3⟩, fun ⟨l, h1, h2, h3⟩ => ⟨l, h1, (rens_iff hA h l).2 h2, h3⟩⟩
  | .tup cs, _, .tup h, v => by
    simp only [rel]
    exact ⟨fun ⟨l, h1, h2⟩ => ⟨l, h1, (rens_iff hA h l).1 h2⟩, fun ⟨l, h1, h2⟩ => ⟨l, h1, (rens_iff hA h l).2 h2⟩⟩
  | .fn g cs, _, .fn h, v => by
    simp only [rel]
    exact ⟨fun ⟨l, h1, h2⟩ => ⟨l, h1, (rens_iff hA h l).1 h2⟩, fun ⟨l, h1, h2⟩ => ⟨l, h1, (rens_iff hA h l).2 h2⟩⟩
  | .ifc t c, _, .ifc h, v => by
    simp only [rel]
    exact ⟨fun ⟨u, h1, h2⟩ => ⟨u, h1, (ren_iff hA h u).1 h2⟩, fun ⟨u, h1, h2⟩ => ⟨u, h1, (ren_iff hA h u).2 h2⟩⟩
theorem renAt_iff {f : Nat → Nat × Nat} {wh : Nat → Bool} (hA : Along f wh ρ0 ρ) : ∀ {cs cs' : List AV}, Rens f wh cs cs' → ∀ (b o : Nat), relAt K ρ0 cs b o ↔ relAt K ρ cs' b o
  | _, _, .nil, b, o => by simp [relAt]
  | _, _, .same h, b, o => relAt_any0 K ρ0 ρ h
  | _, _, .cons h1 h2, b, o => by
    simp only [relAt]
    constructor
    · rintro ⟨⟨row, v, k1, k2, k3, k4⟩, k5⟩
      exact ⟨⟨row, v, k1, k2, k3, (ren_iff hA h1 v).1 k4⟩, (renAt_iff hA h2 b (o + 1)).1 k5⟩
    · rintro ⟨⟨row, v, k1, k2, k3, k4⟩, k5⟩
      exact ⟨⟨row, v, k1, k2, k3, (ren_iff hA h1 v).2 k4⟩, (renAt_iff hA h2 b (o + 1)).2 k5⟩
theorem rens_iff {f : Nat → Nat × Nat} {wh : Nat → Bool} (hA : Along f wh ρ0 ρ) : ∀ {cs cs' : List AV}, Rens f wh cs cs' → ∀ (l : List Value), rels K ρ0 cs l ↔ rels K ρ cs' l
  | _, _, .nil, l => by simp [rels]
  | _, _, .same h, l => rels_any0 K ρ0 ρ h
  | _, _, .cons h1 h2, l => by
    simp only [rels]
    constructor
    · rintro ⟨v, l', e, k1, k2⟩
      exact ⟨v, l', e, (ren_iff hA h1 v).1 k1, (rens_iff hA h2 l').1 k2⟩
    · rintro ⟨v, l', e, k1, k2⟩
      exact ⟨v, l', e, (ren_iff hA h1 v).2 k1, (rens_iff hA h2 l').2 k2⟩
end

theorem Rens.length {f : Nat → Nat × Nat} {wh : Nat → Bool} : ∀ {cs cs' : List AV}, Rens f wh cs cs' → cs.length = cs'.length
  | _, _, .nil => rfl
  | _, _, .same _ => rfl
  | _, _, .cons _ h => by simp [Rens.length h]
theorem Rens.get {f : Nat → Nat × Nat} {wh : Nat → Bool} : ∀ {cs cs' : List AV} {i : Nat} {c : AV}, Rens f wh cs cs' → cs[i]? = some c → ∃ c', cs'[i]? = some c' ∧ Ren f wh c c'
  | _, _, i, c, .nil, h => by simp at h
  | _, _, i, c, .same hl, h => ⟨c, h, .same (lims_get hl h)⟩
  | _, _, 0, c, .cons h1 _, h => by simp at h; subst h; exact ⟨_, rfl, h1⟩
  | _, _, i + 1, c, .cons _ h2, h => by
    obtain ⟨c', k1, k2⟩ := Rens.get h2 (by simpa using h)
    exact ⟨c', by simpa using k1, k2⟩
theorem Rens.get' {f : Nat → Nat × Nat} {wh : Nat → Bool} : ∀ {cs cs' : List AV} {i : Nat} {c' : AV}, Rens f wh cs cs' → cs'[i]? = some c' → ∃ c, cs[i]? = some c ∧ Ren f wh c c'
  | _, _, i, c, .nil, h => by simp at h
  | _, _, i, c, .same hl, h => ⟨c, h, .same (lims_get hl h)⟩
  | _, _, 0, c, .cons h1 _, h => by simp at h; subst h; exact ⟨_, rfl, h1⟩
  | _, _, i + 1, c, .cons _ h2, h => by
    obtain ⟨c', k1, k2⟩ := Rens.get' h2 (by simpa using h)
    exact ⟨c', by simpa using k1, k2⟩

mutual
/-- Where names go below m' the renamed speaks only of objects below m'. -/
theorem ren_lim {f : Nat → Nat × Nat} {wh : Nat → Bool} {m m' : Nat} (hf : ∀ l, l < m → (f l).1 < m') : ∀ {c c' : AV}, Ren f wh c c' → c.lim m = true → c'.lim m' = true
  | _, _, .same h, _ => AV.lim_mono (Nat.zero_le _) _ h
  | .ptr l k, _, .ptr h1 _, hl => by
    have : l < m := by simpa [AV.lim] using hl
    have := hf l this
    rw [h1] at this
    simpa [AV.lim] using this
  | .slc l k n z, _, .slc h1 _, hl => by
    have : l < m := by simpa [AV.lim] using hl
    have := hf l this
    rw [h1] at this
    simpa [AV.lim] using this
  | .lst n cs, _, .lst h, hl => by simp only [AV.lim] at hl ⊢; exact rens_lim hf h hl
  | .fptr cs, _, .fptr h, hl => by simp only [AV.lim] at hl ⊢; exact rens_lim hf h hl
  | .agg cs, _, .agg h, hl => by simp only [AV.lim] at hl ⊢; exact rens_lim hf h hl
  | .tup cs, _, .tup h, hl => by simp only [AV.lim] at hl ⊢; exact rens_lim hf h hl
  | .fn g cs, _, .fn h, hl => by simp only [AV.lim] at hl ⊢; exact rens_lim hf h hl
  | .ifc t c, _, .ifc h, hl => by simp only [AV.lim] at hl ⊢; exact ren_lim hf h hl
theorem rens_lim {f : Nat → Nat × Nat} {wh : Nat → Bool} {m m' : Nat} (hf : ∀ l, l < m → (f l).1 < m') : ∀ {cs cs' : List AV}, Rens f wh cs cs' → AV.lims m cs = true → AV.lims m' cs' = true
  | _, _, .nil, _ => rfl
  | _, _, .same h, _ => AV.lims_mono (Nat.zero_le _) _ h
  | _, _, .cons h1 h2, hl => by
    simp only [AV.lims, Bool.and_eq_true] at hl ⊢
    exact ⟨ren_lim hf h1 hl.1, rens_lim hf h2 hl.2⟩
end

/-! ## freezing -/
theorem freeze_ok (g : Good G K ρ H w) {l : Nat} {cells : List AV} (ho : H.get l = some ⟨cells, true⟩) :
    ∃ K', Good G K' ρ (H.set l none) w ∧ Ext K ρ H w K' ρ (H.set l none) w ∧ K.le K' ∧ AV.lims H.length cells = true ∧
      (∀ l' x, Heap.get (H.set l none) l' = some x → Lies K ρ H.length w x (ρ l') → K' (ρ l').b = none) ∧
      ∀ m z v, (m = 0 → cells = []) → rel K ρ (.slc l 0 m z) v → rel K' ρ (.lst m cells) v := by
  have gk := g.kill l
  have hlims : AV.lims H.length cells = true := (lies_vals g (l := l) (k := 0) (m := cells.length) (cs := cells) ho (by simp)).1
  rcases Nat.eq_zero_or_pos (ρ l).e with he | he
  · have hc : cells = [] := by
      rcases g.obj l _ ho with ⟨row, t, fr, a1, a2, a3, a4, _⟩ | ⟨h, _, _⟩
      · simp only [] at a4; exact List.length_eq_zero_iff.1 (by omega)
      · exact h
    subst hc
    refine ⟨K, gk, Ext.kill l, fun _ _ h => h, rfl, fun l' x _ ⟨_, _, _, _, _, h3, _⟩ => h3, fun m z v _ hr => ?_⟩
    simp only [rel] at hr ⊢
    rcases hr with ⟨cap, h1, h2, _⟩ | ⟨rfl, b, h1⟩
    · exact ⟨_, cap, h1, h2, .inl trivial⟩
    · exact ⟨b, 0, h1, Nat.le_refl _, .inl trivial⟩
  · obtain ⟨row, t, fr, a1, a2, a3, a4, a5, a6, a7, a8⟩ := g.lies ho he
    obtain ⟨a6o, a6e⟩ := a6 rfl
    have hle : K.le (K.upd (ρ l).b row) := fun b r hb => by
      simp only [Mem.upd]; rw [if_neg (fun e => by rw [e, a3] at hb; cases hb)]; exact hb
    have hget : ∀ l' x, Heap.get (H.set l none) l' = some x → l' ≠ l ∧ H.get l' = some x := fun l' x hx => by
      by_cases h : l = l'
      · subst h
        rw [Heap.get_set_same (Heap.get_lt ho)] at hx; cases hx
      · rw [Heap.get_set_ne h] at hx; exact ⟨Ne.symm h, hx⟩
    have hbne' : ∀ l' x, Heap.get (H.set l none) l' = some x → Lies K ρ H.length w x (ρ l') → (ρ l').b ≠ (ρ l).b := fun l' x hx hL => by
      obtain ⟨hne, hx⟩ := hget l' x hx
      obtain ⟨row', t', fr', b1, b2, b3, b4, b5, b6, b7, b8⟩ := hL
      intro hb
      rcases g.apart l l' _ x ho hx (Ne.symm hne) with ⟨_, h⟩ | ⟨h1, h2⟩ | h | ⟨h, _⟩
      · omega
      · obtain ⟨_, h3⟩ := b6 h1
        rw [hb, a1] at b1
        simp only [Option.some.injEq, Obj.cells.injEq] at b1
        rw [← b1.1] at h3
        omega
      · exact h hb.symm
      · cases h
    refine ⟨K.upd (ρ l).b row, ⟨fun b r hb => hle b r (g.glob b r hb), fun b r hb => ?_, fun l' x hx => ?_, gk.apart⟩, ?_, hle, hlims, fun l' x hx hL => by simp only [Mem.upd]; rw [if_neg (hbne' l' x hx hL)]; obtain ⟨_, _, _, _, _, h3, _⟩ := hL; exact h3, fun m z v hm hr => ?_⟩
    · simp only [Mem.upd] at hb
      split at hb
      · rename_i h; subst h; cases hb; exact ⟨t, fr, a1⟩
      · exact g.froz b r hb
    · have hx0 := hx
      obtain ⟨hne, hx⟩ := hget l' x hx
      refine (g.obj l' x hx).imp (fun hL => ?_) id
      have hbne := hbne' l' x hx0 hL
      obtain ⟨row', t', fr', b1, b2, b3, b4, b5, b6, b7, b8⟩ := hL
      refine ⟨row', t', fr', b1, b2, by simp only [Mem.upd]; rw [if_neg hbne]; exact b3, b4, b5, b6, b7, fun i c hc => ?_⟩
      obtain ⟨k1, v, k2, k3, k4⟩ := b8 i c hc
      exact ⟨by rw [List.length_set]; exact k1, v, k2, k3, rel_mono hle (fun _ _ => rfl) c v k1 k4⟩
    · have x0 := Ext.kill (K := K) (ρ := ρ) (H := H) (w := w) l
      refine { x0 with old := fun b hb => ?_ }
      by_cases h : b = (ρ l).b
      · subst h
        exact .inr ⟨a3, l, _, ho, rfl, rfl, he, Heap.get_set_same (Heap.get_lt ho)⟩
      · simp only [Mem.upd]; rw [if_neg h]; exact .inl rfl
    · simp only [rel] at hr ⊢
      rcases hr with ⟨cap, h1, h2, _⟩ | ⟨rfl, b, h1⟩
      · refine ⟨_, cap, h1, h2, .inr ⟨_, _, rfl, ?_⟩⟩
        have : ∀ (cs : List AV) (off : Nat), (∀ (i : Nat) c, cs[i]? = some c → c.lim H.length = true ∧ ∃ v, row[off + i]? = some v ∧ v.one = true ∧ rel K ρ c v) → relAt (K.upd (ρ l).b row) ρ cs (ρ l).b off := by
          intro cs
          induction cs with
          | nil => intro off _; simp [relAt]
          | cons c cs ih =>
            intro off h
            simp only [relAt]
            obtain ⟨k0, v, k1, k2, k3⟩ := h 0 c rfl
            exact ⟨⟨row, v, by simp [Mem.upd], by simpa using k1, k2, rel_mono hle (fun _ _ => rfl) c v k0 k3⟩, ih (off + 1) (fun i c hc => by have := h (i + 1) c (by simpa using hc); rwa [show off + 1 + i = off + (i + 1) by omega])⟩
        exact this cells ((ρ l).o + 0) fun i c hc => a8 i c hc
      · exact ⟨b, 0, h1, Nat.le_refl _, .inl (hm rfl)⟩

mutual
/-- The same with a slice that has been frozen. -/
inductive Frz (l : Nat) (cells : List AV) : AV → AV → Prop
  | same {c : AV} : Frz l cells c c
  | slc {m z : Nat} : (m = 0 → cells = []) → Frz l cells (.slc l 0 m z) (.lst m cells)
  | agg {cs cs' : List AV} : Frzs l cells cs cs' → Frz l cells (.agg cs) (.agg cs')
  | tup {cs cs' : List AV} : Frzs l cells cs cs' → Frz l cells (.tup cs) (.tup cs')
inductive Frzs (l : Nat) (cells : List AV) : List AV → List AV → Prop
  | same {cs : List AV} : Frzs l cells cs cs
  | cons {c c' : AV} {cs cs' : List AV} : Frz l cells c c' → Frzs l cells cs cs' → Frzs l cells (c :: cs) (c' :: cs')
end
mutual
theorem frz_ok {K' : Mem} {l M : Nat} {cells : List AV} (hK : K.le K') (hcl : AV.lims M cells = true) (h : ∀ m z v, (m = 0 → cells = []) → rel K ρ (.slc l 0 m z) v → rel K' ρ (.lst m cells) v) :
    ∀ {c c' : AV}, Frz l cells c c' → c.lim M = true → c'.lim M = true ∧ ∀ v, rel K ρ c v → rel K' ρ c' v
  | c, _, .same, hl => ⟨hl, fun v hr => rel_mono hK (fun _ _ => rfl) c v hl hr⟩
  | .slc _ _ m z, _, .slc hm, _ => ⟨by simpa [AV.lim] using hcl, fun v hr => h m z v hm hr⟩
  | .agg cs, _, .agg hs, hl => by
    simp only [AV.lim] at hl ⊢
    obtain ⟨h1, h2⟩ := frzs_ok hK hcl h hs hl
    refine ⟨h1, fun v hr => ?_⟩
    simp only [rel] at hr ⊢
    obtain ⟨vs, k1, k2, k3⟩ := hr
    exact ⟨vs, k1, h2 vs k2, k3⟩
  | .tup cs, _, .tup hs, hl => by
    simp only [AV.lim] at hl ⊢
    obtain ⟨h1, h2⟩ := frzs_ok hK hcl h hs hl
    refine ⟨h1, fun v hr => ?_⟩
    simp only [rel] at hr ⊢
    obtain ⟨vs, k1, k2⟩ := hr
    exact ⟨vs, k1, h2 vs k2⟩
theorem frzs_ok {K' : Mem} {l M : Nat} {cells : List AV} (hK : K.le K') (hcl : AV.lims M cells = true) (h : ∀ m z v, (m = 0 → cells = []) → rel K ρ (.slc l 0 m z) v → rel K' ρ (.lst m cells) v) :
    ∀ {cs cs' : List AV}, Frzs l cells cs cs' → AV.lims M cs = true → AV.lims M cs' = true ∧ ∀ vs, rels K ρ cs vs → rels K' ρ cs' vs
  | cs, _, .same, hl => ⟨hl, fun vs hr => rels_mono hK (fun _ _ => rfl) cs vs hl hr⟩
  | _, _, .cons h1 h2, hl => by
    simp only [AV.lims, Bool.and_eq_true] at hl ⊢
    obtain ⟨k1, k2⟩ := frz_ok hK hcl h h1 hl.1
    obtain ⟨k3, k4⟩ := frzs_ok hK hcl h h2 hl.2
    refine ⟨⟨k1, k3⟩, fun vs hr => ?_⟩
    simp only [rels] at hr ⊢
    obtain ⟨v, l', e, r1, r2⟩ := hr
    exact ⟨v, l', e, k2 v r1, k4 l' r2⟩
end
theorem Frzs.get {l : Nat} {cells : List AV} : ∀ {cs cs' : List AV} {i : Nat} {c' : AV}, Frzs l cells cs cs' → cs'[i]? = some c' → ∃ c, cs[i]? = some c ∧ Frz l cells c c'
  | _, _, i, c, .same, h => ⟨c, h, .same⟩
  | _, _, 0, c, .cons h1 _, h => by simp at h; subst h; exact ⟨_, rfl, h1⟩
  | _, _, i + 1, c, .cons _ h2, h => by
    obtain ⟨c', k1, k2⟩ := Frzs.get h2 (by simpa using h)
    exact ⟨c', by simpa using k1, k2⟩
theorem Frzs.length {l : Nat} {cells : List AV} : ∀ {cs cs' : List AV}, Frzs l cells cs cs' → cs.length = cs'.length
  | _, _, .same => rfl
  | _, _, .cons _ h => by simp [Frzs.length h]

/-- The heap with the slice frozen. -/
inductive HFrz (l : Nat) (cells : List AV) : Heap → Heap → Prop
  | nil : HFrz l cells [] []
  | none {H H' : Heap} : HFrz l cells H H' → HFrz l cells (none :: H) (none :: H')
  | some {cs cs' : List AV} {b : Bool} {H H' : Heap} : Frzs l cells cs cs' → HFrz l cells H H' → HFrz l cells (some ⟨cs, b⟩ :: H) (some ⟨cs', b⟩ :: H')
  | same {H : Heap} : HFrz l cells H H
theorem HFrz.get {l : Nat} {cells : List AV} : ∀ {H H' : Heap} {i : Nat} {o' : AObj}, HFrz l cells H H' → H'.get i = Option.some o' → ∃ o, H.get i = Option.some o ∧ o.arr = o'.arr ∧ Frzs l cells o.cells o'.cells
  | _, _, _, _, .nil, h => by simp [Heap.get] at h
  | _, _, 0, _, .none _, h => by simp [Heap.get] at h
  | _, _, i + 1, _, .none hh, h => by simp only [Heap.get] at h ⊢; exact HFrz.get hh h
  | _, _, 0, _, .some hs _, h => by simp only [Heap.get, Option.some.injEq] at h; subst h; exact ⟨_, rfl, rfl, hs⟩
  | _, _, i + 1, _, .some _ hh, h => by simp only [Heap.get] at h ⊢; exact HFrz.get hh h
  | _, _, _, o, .same, h => ⟨o, h, rfl, .same⟩
theorem HFrz.length {l : Nat} {cells : List AV} : ∀ {H H' : Heap}, HFrz l cells H H' → H'.length = H.length
  | _, _, .nil => rfl
  | _, _, .none h => by simp [HFrz.length h]
  | _, _, .some _ h => by simp [HFrz.length h]
  | _, _, .same => rfl

theorem freeze_heap (g : Good G K ρ H w) {l : Nat} {cells : List AV} (ho : H.get l = some ⟨cells, true⟩) (hh : HFrz l cells (H.set l none) H') :
    ∃ K', Good G K' ρ H' w ∧ Ext K ρ H w K' ρ H' w ∧ K.le K' ∧ AV.lims H.length cells = true ∧
      ∀ m z v, (m = 0 → cells = []) → rel K ρ (.slc l 0 m z) v → rel K' ρ (.lst m cells) v := by
  obtain ⟨K', g1, e1, hle, hcl, hno, hr⟩ := freeze_ok g ho
  have gk := g.kill l
  have hlen : H'.length = H.length := by rw [hh.length, List.length_set]
  refine ⟨K', ⟨g1.glob, g1.froz, fun l' o' h => ?_, fun l1 l2 o1 o2 h1 h2 hne => ?_⟩, ⟨e1.fr, fun b hb => ?_, e1.plc, by omega, fun l' o' hl h => ?_, fun l' o' hl h => ?_⟩, hle, hcl, hr⟩
  · obtain ⟨o, k1, k2, k3⟩ := hh.get h
    rcases gk.obj l' o k1 with hL | ⟨q1, q2, q3⟩
    · refine .inl ?_
      obtain ⟨row', t', fr', b1, b2, b3, b4, b5, b6, b7, b8⟩ := hL
      have c3 := hno l' o k1 (by rw [List.length_set] at b8; exact ⟨row', t', fr', b1, b2, b3, b4, b5, b6, b7, b8⟩)
      refine ⟨row', t', fr', b1, b2, c3, by rw [← k3.length]; exact b4, b5, by rw [← k2]; exact b6, by rw [← k2, ← k3.length]; exact b7, fun i c hc => ?_⟩
      obtain ⟨c0, j1, j2⟩ := k3.get hc
      obtain ⟨d1, v, d2, d3, d4⟩ := b8 i c0 j1
      rw [List.length_set] at d1
      obtain ⟨r1, r2⟩ := frz_ok hle hcl hr j2 d1
      exact ⟨by rw [hlen]; exact r1, v, d2, d3, r2 v d4⟩
    · refine .inr ⟨?_, by rw [← k2]; exact q2, q3⟩
      have := k3.length
      rw [q1] at this
      exact List.length_eq_zero_iff.1 this.symm
  · obtain ⟨q1, k1, k2, _⟩ := hh.get h1
    obtain ⟨q2, j1, j2, _⟩ := hh.get h2
    have := g1.apart l1 l2 q1 q2 k1 j1 hne
    unfold Apart at this ⊢
    rw [← k2, ← j2]; exact this
  · rcases e1.old b hb with h | ⟨h0, l0, o0, h1, h2, h3, h4, h5⟩
    · exact .inl h
    · refine .inr ⟨h0, l0, o0, h1, h2, h3, h4, ?_⟩
      cases hx : H'.get l0 with
      | none => rfl
      | some o' => obtain ⟨o, k1, _⟩ := hh.get hx; rw [h5] at k1; cases k1
  · obtain ⟨o, k1, k2, _⟩ := hh.get h
    obtain ⟨o0, j1, j2⟩ := e1.live l' o hl k1
    exact ⟨o0, j1, j2.trans k2⟩
  · have := Heap.get_lt h; omega

theorem EnvOk.add {m t : Nat} {av : AV} (h : EnvOk K ρ m env a) (hl : av.lim m = true) (hr : rel K ρ av (a.tmps.getD t undef)) : EnvOk K ρ m ((t, av) :: env) a := fun s => by
  simp only [look]
  cases hb : Nat.beq t s with
  | true =>
    have : t = s := by simpa using hb
    subst this
    exact ⟨hl, hr⟩
  | false => exact h s

/-- From here on a slice stays as it is. -/
theorem W.freeze {c : Code} {Q : Post} {l t m z : Nat} {cells : List AV} (ht : lookO env t = some (.slc l 0 m z)) (ho : H.get l = some ⟨cells, true⟩) (hm : m = 0 → cells = []) {H1 H2 : Heap} (h1 : setO H l none = some H1) (hh : HFrz l cells H1 H2)
    (h : W P G n c ((t, .lst m cells) :: env) H2 Q) : W P G n c env H Q := by
  have := setO_eq h1
  subst this
  refine ⟨fun K ρ w a g he hs hd => ?_⟩
  obtain ⟨K', g1, e1, hle, hcl, hr⟩ := freeze_heap g ho hh
  have hlen : H2.length = H.length := by rw [hh.length, List.length_set]
  have he1 : EnvOk K' ρ H2.length env a := by rw [hlen]; exact he.mono hle (fun _ _ => rfl) (Nat.le_refl _)
  have ht1 := (he t).2
  rw [lookO_eq ht] at ht1
  exact wp_mono (h.run K' ρ w a g1 (he1.add (by rw [hlen]; simpa [AV.lim] using hcl) (hr m z _ hm ht1)) hs hd) fun _ _ _ hq => hq.trans g g1 e1

/-- A slice without elements as one of its own. -/
theorem W.nilObj {c : Code} {Q : Post} {t l z : Nat} {p : AV} (ht : lookO env t = some p) (hp : isEmp p = true) (hl : H.length = l) {H1 : Heap} (h1 : snocO H (some ⟨[], true⟩) = some H1)
    (h : W P G n c ((t, .slc l 0 0 z) :: env) H1 Q) : W P G n c env H Q := by
  have := snocO_eq h1
  subst this
  subst hl
  refine ⟨fun K ρ w a g he hs hd => ?_⟩
  obtain ⟨g1, e1⟩ := alloc_none g
  have ht1 := (he t).2
  rw [lookO_eq ht] at ht1
  obtain ⟨b, hb⟩ := isEmp_rel hp ht1
  have he1 : EnvOk K (ρ.upd H.length ⟨0, 0, 0⟩) (H ++ [some (⟨[], true⟩ : AObj)]).length env a := he.mono (fun _ _ h => h) e1.plc e1.len
  exact wp_mono (h.run K _ w a g1 (he1.add (by simp [AV.lim]) (by simp only [rel]; exact .inr ⟨trivial, b, hb⟩)) hs hd) fun _ _ _ hq => hq.trans g g1 e1

/-- A result that is handed over for good. -/
theorem ACall.freeze {f : FuncId} {args : List AV} {res res' : AV} {l : Nat} {cells : List AV} {H1 H2 : Heap} (h : ACall P G f args H res H') (ho : H'.get l = some ⟨cells, true⟩) (h1 : setO H' l none = some H1) (hh : HFrz l cells H1 H2) (hr : Frz l cells res res') :
    ACall P G f args H res' H2 := by
  have := setO_eq h1
  subst this
  refine ⟨h.fn, fun K ρ w vs g hl hrel => (h.run K ρ w vs g hl hrel).mono ?_⟩
  rintro e w' ⟨v, rfl, K', ρ', g', x', hr', hl'⟩
  obtain ⟨K2, g2, e2, hle, hcl, hf⟩ := freeze_heap g' ho hh
  obtain ⟨q1, q2⟩ := frz_ok hle hcl hf hr hl'
  exact ⟨v, rfl, K2, ρ', g2, x'.trans g g' e2, q2 v hr', by rw [hh.length, List.length_set]; exact q1⟩

/-- What is not spoken of any more. -/
theorem ACall.take {f : FuncId} {args : List AV} {res : AV} (m : Nat) (h : ACall P G f args H res H') (hm : Nat.ble H.length m = true) (hm1 : Nat.ble m H'.length = true) {H2 : Heap} (h2 : H'.take m = H2) (hl : res.lim m = true) (hc : ∀ l o, Heap.get H2 l = some o → AV.lims m o.cells = true) :
    ACall P G f args H res H2 := by
  subst h2
  have hm1 : m ≤ H'.length := by simpa using hm1
  refine ⟨h.fn, fun K ρ w vs g hl0 hrel => (h.run K ρ w vs g hl0 hrel).mono ?_⟩
  rintro e w' ⟨v, rfl, K', ρ', g', x', hr', hl'⟩
  have : (H'.take m).length = m := by simp; omega
  exact ⟨v, rfl, K', ρ', g'.take hm1 hc, x'.take (by simpa using hm) hm1, hr', by rw [this]; exact hl⟩

/-! ## loops that renumber -/
/-- The state is, under other numbers, at least what E and H0 say; below base the numbers are the same. -/
structure FitsR (base : Nat) (E : Env) (H0 : Heap) (env : Env) (H : Heap) : Prop where
  ex : ∃ f : Nat → Nat, (∀ l, l < base → f l = l) ∧ (∀ l l', l < H0.length → l' < H0.length → f l = f l' → l = l') ∧ base ≤ H0.length ∧ (∀ l, l < H0.length → f l < H.length) ∧
    (∀ t, look E t = .any ∨ ((look E t).lim H0.length = true ∧ Ren (fun l => (f l, 0)) (fun _ => true) (look E t) (look env t))) ∧
    (∀ l o, H0.get l = some o → ∃ o', H.get (f l) = some o' ∧ o'.arr = o.arr ∧ AV.lims H0.length o.cells = true ∧ Rens (fun l => (f l, 0)) (fun _ => true) o.cells o'.cells)

theorem FitsR.use {base : Nat} {E : Env} {H0 : Heap} (h : FitsR base E H0 env H) (g : Good G K ρ H w) (he : EnvOk K ρ H.length env a) {K1 : Mem} {ρ1 : Place} {w1 : World} (hb : H1.length = base) (e : Ext K1 ρ1 H1 w1 K ρ H w) :
    ∃ ρ', Good G K ρ' H0 w ∧ EnvOk K ρ' H0.length E a ∧ Ext K1 ρ1 H1 w1 K ρ' H0 w := by
  obtain ⟨f, f1, f2, f3, f4, f5, f6⟩ := h.ex
  have hA : Along (fun l => (f l, 0)) (fun _ => true) (fun l => ρ (f l)) ρ := fun l => ⟨rfl, rfl, fun _ => rfl⟩
  refine ⟨fun l => ρ (f l), ⟨g.glob, g.froz, fun l o ho => ?_, fun l l' o o' ho ho' hne => ?_⟩, fun t => ?_, ⟨e.fr, fun b hb' => ?_, fun l hl => ?_, by omega, fun l o hl ho => ?_, fun l o hl ho => ?_⟩⟩
  · obtain ⟨o', k1, k2, k3, k4⟩ := f6 l o ho
    rcases g.obj (f l) o' k1 with hL | ⟨q1, q2, q3⟩
    · refine .inl ?_
      obtain ⟨row, t, fr, b1, b2, b3, b4, b5, b6, b7, b8⟩ := hL
      refine ⟨row, t, fr, b1, b2, b3, by rw [k4.length]; exact b4, b5, by rw [← k2]; exact b6, by rw [← k2, k4.length]; exact b7, fun i c hc => ?_⟩
      obtain ⟨c', j1, j2⟩ := k4.get hc
      obtain ⟨_, v, d2, d3, d4⟩ := b8 i c' j1
      exact ⟨lims_get k3 hc, v, d2, d3, (ren_iff hA j2 v).2 d4⟩
    · exact .inr ⟨by have := k4.length; rw [q1] at this; exact List.length_eq_zero_iff.1 this, by rw [← k2]; exact q2, q3⟩
  · obtain ⟨o1, k1, k2, _⟩ := f6 l o ho
    obtain ⟨o2, j1, j2, _⟩ := f6 l' o' ho'
    have := g.apart (f l) (f l') o1 o2 k1 j1 (fun h => hne (f2 l l' (Heap.get_lt ho) (Heap.get_lt ho') h))
    unfold Apart at this ⊢
    rw [← k2, ← j2]; exact this
  · rcases f5 t with h | ⟨h1, h2⟩
    · rw [h]; exact ⟨rfl, by simp [rel]⟩
    · exact ⟨h1, (ren_iff hA h2 _).2 (he t).2⟩
  · rcases e.old b hb' with h | ⟨h0, l0, o0, h1, h2, h3, h4, h5⟩
    · exact .inl h
    · refine .inr ⟨h0, l0, o0, h1, h2, h3, h4, ?_⟩
      have hl0 := Heap.get_lt h1
      cases hx : H0.get l0 with
      | none => rfl
      | some o' =>
        obtain ⟨o, k1, _⟩ := f6 l0 o' hx
        rw [f1 l0 (by omega), h5] at k1; cases k1
  · show ρ (f l) = ρ1 l
    rw [f1 l (by omega)]; exact e.plc l hl
  · obtain ⟨o', k1, k2, _⟩ := f6 l o ho
    rw [f1 l (by omega)] at k1
    obtain ⟨o0, j1, j2⟩ := e.live l o' hl k1
    exact ⟨o0, j1, j2.trans k2⟩
  · obtain ⟨o', k1, k2, _⟩ := f6 l o ho
    by_cases hfl : f l < H1.length
    ·
      have h3 : f (f l) = f l := f1 (f l) (by omega)
      have := f2 (f l) l (by omega) (Heap.get_lt ho) h3
      omega
    · rcases e.fresh (f l) o' (by omega) k1 with h | ⟨h1, h2⟩ | ⟨h1, l0, o0, h3, h4, h5, h6, h7⟩
      · exact .inl h
      · exact .inr (.inl ⟨by rw [← k2]; exact h1, h2⟩)
      · refine .inr (.inr ⟨by rw [← k2]; exact h1, l0, o0, h3, h4, ?_, h6, h7⟩)
        have hl0 := Heap.get_lt h3
        cases hx : H0.get l0 with
        | none => rfl
        | some o'' =>
          obtain ⟨o3, k1, _⟩ := f6 l0 o'' hx
          rw [f1 l0 (by omega), h5] at k1; cases k1

theorem W.loopR {ι : Type} {c : Code} {Q : Post} {b : Nat} (hb : H.length = b) (E : ι → Env) (Hf : ι → Heap) (μ : ι → Nat) (i0 : ι) (h0 : FitsR b (E i0) (Hf i0) env H)
    (round : ∀ i, W P G n c (E i) (Hf i) (thenP (fun env' H' => ∃ j, μ j < μ i ∧ FitsR b (E j) (Hf j) env' H') Q)) : W P G n (.loop c) env H Q := by
  refine ⟨fun K ρ w a g he hs hd => ?_⟩
  refine wp_loop_ghost (ι := ι) (fun i a1 w1 => ∃ K1 ρ1, Good G K1 ρ1 (Hf i) w1 ∧ EnvOk K1 ρ1 (Hf i).length (E i) a1 ∧ a1.tmps.size = n ∧ a1.defers = [] ∧ Ext K ρ H w K1 ρ1 (Hf i) w1) μ i0 ?_ ?_
  · obtain ⟨ρ', g1, e1, x1⟩ := h0.use g he hb (Ext.refl K ρ H w)
    exact ⟨K, ρ', g1, e1, hs, hd, x1⟩
  · rintro i a1 w1 ⟨K1, ρ1, g1, e1, hs1, hd1, x1⟩
    refine wp_mono ((round i).run K1 ρ1 w1 a1 g1 e1 hs1 hd1) ?_
    rintro e a2 w2 ⟨env2, H2, K2, ρ2, hq, g2, e2, hs2, hd2, x2⟩
    have x12 := x1.trans g g1 x2
    cases e with
    | normal =>
      obtain ⟨j, hlt, hf⟩ := hq
      obtain ⟨ρ', g3, e3, x3⟩ := hf.use g2 e2 hb x12
      exact ⟨j, hlt, K2, ρ', g3, e3, hs2, hd2, x3⟩
    | _ => exact ⟨env2, H2, K2, ρ2, hq, g2, e2, hs2, hd2, x12⟩

theorem W.cutR {ι : Type} {x y : Code} {Q : Post} {b : Nat} (hb : H.length = b) (E : ι → Env) (Hf : ι → Heap)
    (h1 : W P G n x env H (thenP (fun env' H' => ∃ j, FitsR b (E j) (Hf j) env' H') Q)) (h2 : ∀ j, W P G n y (E j) (Hf j) Q) : W P G n (.seq x y) env H Q := by
  refine ⟨fun K ρ w a g he hs hd => ?_⟩
  refine wp_seq (wp_mono (h1.run K ρ w a g he hs hd) ?_)
  rintro e a1 w1 ⟨env1, H1, K1, ρ1, hq, g1, e1, hs1, hd1, x1⟩
  cases e with
  | normal =>
    obtain ⟨j, hf⟩ := hq
    obtain ⟨ρ', g3, e3, x3⟩ := hf.use g1 e1 hb x1
    exact wp_mono ((h2 j).run K1 ρ' w1 a1 g3 e3 hs1 hd1) fun _ _ _ h => h.trans g g3 x3
  | _ => exact ⟨env1, H1, K1, ρ1, hq, g1, e1, hs1, hd1, x1⟩
end Go.Ax
namespace Go.Ax
variable {P : Program} {G K K' : Mem} {ρ ρ0 ρ' : Place} {H H' H1 L : Heap} {w w' : World} {env : Env} {a : Act} {n : Nat}

open Classical in
/-- The lent rows stay as they are, for a while. -/
noncomputable def lendL (K : Mem) (ρ : Place) (L : Heap) (w : World) : Mem := fun b =>
  if ∃ l o, L.get l = some o ∧ Lies K ρ L.length w o (ρ l) ∧ 0 < (ρ l).e ∧ (ρ l).b = b then (match w.heap[b]? with | some (.cells row _ _) => some row | _ => none) else K b

theorem lendL_le : K.le (lendL K ρ L w) := fun b row h => by
  unfold lendL
  rw [if_neg]
  · exact h
  · rintro ⟨l, o, h1, hL, _, h2⟩
    obtain ⟨_, _, _, _, _, h3, _⟩ := hL
    rw [h2, h] at h3; cases h3
theorem lendL_obj {l : Nat} {o : AObj} {row : Array Value} {t : TypeId} {fr : Nat × Nat} (h : L.get l = some o) (hL : Lies K ρ L.length w o (ρ l)) (he : 0 < (ρ l).e) (hb : w.heap[(ρ l).b]? = some (.cells row t fr)) : lendL K ρ L w (ρ l).b = some row := by
  unfold lendL
  rw [if_pos ⟨l, o, h, hL, he, rfl⟩, hb]
theorem lendL_nil (h : ∀ l, L.get l = none) : lendL K ρ L w = K := by
  funext b
  unfold lendL
  rw [if_neg]
  rintro ⟨l, o, h1, _⟩
  rw [h] at h1; cases h1
theorem lendL_other {b : Nat} (h : ∀ l o, L.get l = some o → Lies K ρ L.length w o (ρ l) → 0 < (ρ l).e → (ρ l).b ≠ b) : lendL K ρ L w b = K b := by
  unfold lendL
  rw [if_neg]
  rintro ⟨l, o, h1, h2, h3, h4⟩
  exact h l o h1 h2 h3 h4

mutual
theorem lim_ex : ∀ (c : AV), ∃ m, c.lim m = true
  | .val _ => ⟨0, rfl⟩
  | .flt _ _ => ⟨0, rfl⟩
  | .emp => ⟨0, rfl⟩
  | .any => ⟨0, rfl⟩
  | .ptr l k => ⟨l + 1, by simp [AV.lim]⟩
  | .slc l k n z => ⟨l + 1, by simp [AV.lim]⟩
  | .lst n cs => by obtain ⟨m, h⟩ := lims_ex cs; exact ⟨m, by simpa [AV.lim] using h⟩
  | .fptr cs => by obtain ⟨m, h⟩ := lims_ex cs; exact ⟨m, by simpa [AV.lim] using h⟩
  | .agg cs => by obtain ⟨m, h⟩ := lims_ex cs; exact ⟨m, by simpa [AV.lim] using h⟩
  | .tup cs => by obtain ⟨m, h⟩ := lims_ex cs; exact ⟨m, by simpa [AV.lim] using h⟩
  | .fn f cs => by obtain ⟨m, h⟩ := lims_ex cs; exact ⟨m, by simpa [AV.lim] using h⟩
  | .ifc t x => by obtain ⟨m, h⟩ := lim_ex x; exact ⟨m, by simpa [AV.lim] using h⟩
theorem lims_ex : ∀ (cs : List AV), ∃ m, AV.lims m cs = true
  | [] => ⟨0, rfl⟩
  | c :: cs => by
    obtain ⟨m1, h1⟩ := lim_ex c
    obtain ⟨m2, h2⟩ := lims_ex cs
    refine ⟨m1 + m2, ?_⟩
    simp only [AV.lims, Bool.and_eq_true]
    exact ⟨AV.lim_mono (by omega) c h1, AV.lims_mono (by omega) cs h2⟩
end
theorem rel_memLe {K K' : Mem} (hK : K.le K') (c : AV) (v : Value) (h : rel K ρ c v) : rel K' ρ c v := by
  obtain ⟨m, hm⟩ := lim_ex c
  exact rel_mono hK (fun _ _ => rfl) c v hm h

mutual
/-- What is handed over: under other numbers, or lent. -/
inductive WView (L : Heap) (f : Nat → Nat) : AV → AV → Prop
  | ren {c c' : AV} : Ren (fun l => (f l, 0)) (fun _ => true) c' c → WView L f c c'
  | slc {l k n z : Nat} {o : AObj} {cs cs' : List AV} : L.get l = some o → (o.cells.drop k).take cs.length = cs → WViews L f cs cs' → (n = 0 → cs' = []) → WView L f (.slc l k n z) (.lst n cs')
  | agg {cs cs' : List AV} : WViews L f cs cs' → WView L f (.agg cs) (.agg cs')
inductive WViews (L : Heap) (f : Nat → Nat) : List AV → List AV → Prop
  | nil : WViews L f [] []
  | same {cs : List AV} : AV.lims 0 cs = true → WViews L f cs cs
  | cons {c c' : AV} {cs cs' : List AV} : WView L f c c' → WViews L f cs cs' → WViews L f (c :: cs) (c' :: cs')
end

theorem WViews.len0 {L : Heap} {f : Nat → Nat} {cs' : List AV} (h : WViews L f [] cs') : cs' = [] := by cases h <;> rfl

mutual
theorem wview_ok {f : Nat → Nat} (hLd : ∀ l o, L.get l = some o → Holds K ρ L.length w o (ρ l)) (hfz : ∀ b row, K b = some row → ∃ t fr, w.heap[b]? = some (.cells row t fr)) : ∀ {c c' : AV}, WView L f c c' → ∀ v, rel K ρ c v → rel (lendL K ρ L w) (fun l => ρ (f l)) c' v
  | c, c', .ren h, v, hr => by
    have hA : Along (fun l => (f l, 0)) (fun _ => true) (fun l => ρ (f l)) ρ := fun l => ⟨rfl, rfl, fun _ => rfl⟩
    have h1 : rel (lendL K ρ L w) ρ c v := rel_memLe lendL_le c v hr
    exact (ren_iff hA h v).2 h1
  | .slc l k n z, _, .slc (o := o) (cs := cs) (cs' := cs') ho hcs hv hn, v, h => by
    simp only [rel] at h ⊢
    rcases h with ⟨cap, h1, h2, h3⟩ | ⟨rfl, b, h⟩
    · rcases Nat.eq_zero_or_pos (ρ l).e with he | he
      · have hz : o.cells = [] := by
          rcases hLd l o ho with ⟨row, t, fr, a1, a2, a3, a4, _⟩ | ⟨h, _, _⟩
          · exact List.length_eq_zero_iff.1 (by omega)
          · exact h
        rw [hz] at hcs
        simp only [List.drop_nil, List.take_nil] at hcs
        subst hcs
        exact ⟨_, cap, h1, h2, .inl hv.len0⟩
      · rcases hLd l o ho with hL | ⟨_, _, h0⟩
        · obtain ⟨row, t, fr, a1, a2, a3, a4, a5, a6, a7, a8⟩ := hL
          have hat := wviewAt_ok hLd hfz hv (b := (ρ l).b) (o := (ρ l).o + k) (row := row) (lendL_obj ho ⟨row, t, fr, a1, a2, a3, a4, a5, a6, a7, a8⟩ he a1) (fun i c hc => by
            have hi : i < cs.length := (List.getElem?_eq_some_iff.1 hc).1
            rw [← hcs, List.getElem?_take, if_pos hi, List.getElem?_drop] at hc
            obtain ⟨_, u, k2, k3, k4⟩ := a8 (k + i) c hc
            exact ⟨u, by rwa [show (ρ l).o + k + i = (ρ l).o + (k + i) by omega], k3, k4⟩)
          exact ⟨some ⟨(ρ l).b, (ρ l).o + k, none⟩, cap, h1, h2, .inr ⟨_, _, rfl, hat⟩⟩
        · omega
    · exact ⟨b, 0, h, Nat.le_refl _, .inl (hn rfl)⟩
  | .agg cs, _, .agg (cs' := cs') hv, v, h => by
    simp only [rel] at h ⊢
    obtain ⟨l, h1, h2, h3⟩ := h
    exact ⟨l, h1, wviews_ok hLd hfz hv l h2, h3⟩
theorem wviewAt_ok {f : Nat → Nat} (hLd : ∀ l o, L.get l = some o → Holds K ρ L.length w o (ρ l)) (hfz : ∀ b row, K b = some row → ∃ t fr, w.heap[b]? = some (.cells row t fr)) : ∀ {cs cs' : List AV}, WViews L f cs cs' → ∀ {b o : Nat} {row : Array Value}, lendL K ρ L w b = some row → (∀ (i : Nat) c, cs[i]? = some c → ∃ v, row[o + i]? = some v ∧ v.one = true ∧ rel K ρ c v) →
    relAt (lendL K ρ L w) (fun l => ρ (f l)) cs' b o
  | _, _, .nil, b, o, row, _, _ => by simp [relAt]
  | cs, _, .same hs, b, o, row, hK, hc => by
    have : ∀ (cs : List AV) (off : Nat), AV.lims 0 cs = true → (∀ (i : Nat) c, cs[i]? = some c → ∃ v, row[off + i]? = some v ∧ v.one = true ∧ rel K ρ c v) → relAt (lendL K ρ L w) (fun l => ρ (f l)) cs b off := by
      intro cs
      induction cs with
      | nil => intro off _ _; simp [relAt]
      | cons c cs ih =>
        intro off hl h
        simp only [AV.lims, Bool.and_eq_true] at hl
        simp only [relAt]
        obtain ⟨v, k1, k2, k3⟩ := h 0 c rfl
        exact ⟨⟨row, v, hK, by simpa using k1, k2, rel_mono lendL_le (m := 0) (fun l hl => by omega) c v hl.1 k3⟩, ih (off + 1) hl.2 (fun i c hc => by have := h (i + 1) c (by simpa using hc); rwa [show off + 1 + i = off + (i + 1) by omega])⟩
    exact this cs o hs hc
  | _, _, .cons (c := c) (c' := c') (cs := cs) (cs' := cs') h1 h2, b, o, row, hK, hc => by
    obtain ⟨v, k1, k2, k3⟩ := hc 0 c rfl
    simp only [relAt]
    exact ⟨⟨row, v, hK, by simpa using k1, k2, wview_ok hLd hfz h1 v k3⟩, wviewAt_ok hLd hfz h2 (b := b) (o := o + 1) hK (fun i c hi => by
      have := hc (i + 1) c (by simpa using hi)
      rwa [show o + (i + 1) = o + 1 + i by omega] at this)⟩
theorem wviews_ok {f : Nat → Nat} (hLd : ∀ l o, L.get l = some o → Holds K ρ L.length w o (ρ l)) (hfz : ∀ b row, K b = some row → ∃ t fr, w.heap[b]? = some (.cells row t fr)) : ∀ {cs cs' : List AV}, WViews L f cs cs' → ∀ l, rels K ρ cs l → rels (lendL K ρ L w) (fun l => ρ (f l)) cs' l
  | _, _, .nil, l, h => by simpa [rels] using h
  | cs, _, .same hs, l, h => rels_mono lendL_le (m := 0) (fun l hl => by omega) cs l hs h
  | _, _, .cons (c := c) (c' := c') (cs := cs) (cs' := cs') h1 h2, l, h => by
    simp only [rels] at h ⊢
    obtain ⟨v, l', e, k1, k2⟩ := h
    exact ⟨v, l', e, wview_ok hLd hfz h1 v k1, wviews_ok hLd hfz h2 l' k2⟩
end
end Go.Ax
namespace Go.Ax
variable {P : Program} {G K K' : Mem} {ρ ρ0 ρ' : Place} {H H0 H0' H' H1 L : Heap} {w w' : World} {env : Env} {a : Act} {n : Nat}

/-- Where the callee's objects are among the caller's: below k by f, then behind all. -/
def numF (f : Nat → Nat) (k h : Nat) (l : Nat) : Nat := if l < k then f l else h + (l - k)

structure Frame (f : Nat → Nat) (L H H0 H0' H' : Heap) : Prop where
  inj : ∀ l l', l < H0.length → l' < H0.length → f l = f l' → l = l'
  lt : ∀ l, l < H0.length → f l < H.length
  pre : ∀ l o, H0.get l = some o → ∃ o', H.get (f l) = some o' ∧ o'.arr = o.arr ∧ AV.lims H0.length o.cells = true ∧ Rens (fun l => (f l, 0)) (fun _ => true) o.cells o'.cells
  lent : ∀ l o, L.get l = some o → H.get l = some o ∧ o.arr = true ∧ ∀ l0 o0, H0.get l0 = some o0 → f l0 ≠ l
  llen : L.length = H.length
  post : ∀ l o', H'.get l = some o' → (l < H.length ∧ H.get l = some o' ∧ ∀ l0 o0, H0.get l0 = some o0 → f l0 ≠ l) ∨
    ∃ l0 o0', l0 < H0'.length ∧ numF f H0.length H.length l0 = l ∧ H0'.get l0 = some o0' ∧ o0'.arr = o'.arr ∧ Rens (fun l => (numF f H0.length H.length l, 0)) (fun _ => true) o0'.cells o'.cells
  len : H'.length = H.length + (H0'.length - H0.length)
  len0 : H0.length ≤ H0'.length

theorem kfree_get : ∀ {cs : List AV} {i : Nat} {c : AV}, AV.kfrees cs = true → cs[i]? = some c → c.kfree = true
  | [], i, c, _, h => by simp at h
  | c0 :: cs, 0, c, h, hc => by simp only [AV.kfrees, Bool.and_eq_true] at h; simp at hc; subst hc; exact h.1
  | c0 :: cs, i + 1, c, h, hc => by simp only [AV.kfrees, Bool.and_eq_true] at h; exact kfree_get h.2 (by simpa using hc)

theorem ACall.frame {f : FuncId} {args args0 : List AV} {res res0 : AV} (h : ACall P G f args0 H0 res0 H0') (F : Nat → Nat) (L : Heap) (hF : Frame F L H H0 H0' H') (hv : WViews L F args args0) (hargs : AV.lims H0.length args0 = true)
    (hres : Ren (fun l => (numF F H0.length H.length l, 0)) (fun _ => true) res0 res)
    (hk : (∀ l, L.get l = none) ∨ (res0.kfree = true ∧ ∀ l o, H0'.get l = some o → AV.kfrees o.cells = true)) : ACall P G f args H res H' := by
  refine ⟨h.fn, fun K ρ w vs g hl hr => ?_⟩
  have hLd : ∀ l o, L.get l = some o → Holds K ρ L.length w o (ρ l) := fun l o ho => by
    rw [hF.llen]; exact g.obj l o (hF.lent l o ho).1
  have hr0 := wviews_ok hLd g.froz hv vs hr

  have hA0 : Along (fun l => (F l, 0)) (fun _ => true) (fun l => ρ (F l)) ρ := fun l => ⟨rfl, rfl, fun _ => rfl⟩
  have hother : ∀ l0 o0, H0.get l0 = some o0 → Lies K ρ H.length w o0 (ρ (F l0)) ∨ True → ∀ p, p = ρ (F l0) → (∀ o', H.get (F l0) = some o' → Lies K ρ H.length w o' p → lendL K ρ L w p.b = none) := by
    intro l0 o0 ho0 _ p hp o' ho' hL
    subst hp
    rw [lendL_other]
    · obtain ⟨_, _, _, _, _, h3, _⟩ := hL; exact h3
    · intro l o hlo hLo heo hb
      obtain ⟨k1, k2, k3⟩ := hF.lent l o hlo
      rw [hF.llen] at hLo
      rcases g.apart l (F l0) o o' k1 ho' (Ne.symm (k3 l0 o0 ho0)) with ⟨_, q⟩ | ⟨q1, q2⟩ | q | ⟨q, _⟩
      · omega
      · obtain ⟨r1, _, _, b1, _, _, _, _, b6, _⟩ := hLo
        obtain ⟨r2, _, _, c1, _, _, _, _, c6, _⟩ := hL
        rw [hb, c1] at b1
        simp only [Option.some.injEq, Obj.cells.injEq] at b1
        obtain ⟨_, e1⟩ := b6 k2
        obtain ⟨_, e2⟩ := c6 q1
        rw [← b1.1] at e1
        omega
      · exact q hb
      · rw [k2] at q; cases q
  have g0 : Good G (lendL K ρ L w) (fun l => ρ (F l)) H0 w := by
    refine ⟨fun b row hb => lendL_le b row (g.glob b row hb), fun b row hb => ?_, fun l o ho => ?_, fun l l' o o' ho ho' hne => ?_⟩
    · unfold lendL at hb
      split at hb
      · rename_i hx
        obtain ⟨l, o, k1, kL, _, k2⟩ := hx
        obtain ⟨row', t, fr, a1, _⟩ := kL
        rw [← k2, a1] at hb
        cases hb
        exact ⟨t, fr, by rw [← k2]; exact a1⟩
      · exact g.froz b row hb
    · obtain ⟨o', k1, k2, k3, k4⟩ := hF.pre l o ho
      rcases g.obj (F l) o' k1 with hL | ⟨q1, q2, q3⟩
      · refine .inl ?_
        have hno := hother l o ho (.inr trivial) _ rfl o' k1 hL
        obtain ⟨row, t, fr, b1, b2, b3, b4, b5, b6, b7, b8⟩ := hL
        refine ⟨row, t, fr, b1, b2, hno, by rw [k4.length]; exact b4, b5, by rw [← k2]; exact b6, by rw [← k2, k4.length]; exact b7, fun i c hc => ?_⟩
        obtain ⟨c', j1, j2⟩ := k4.get hc
        obtain ⟨_, v, d2, d3, d4⟩ := b8 i c' j1
        exact ⟨lims_get k3 hc, v, d2, d3, (ren_iff hA0 j2 v).2 (rel_memLe lendL_le c' v d4)⟩
      · exact .inr ⟨by have := k4.length; rw [q1] at this; exact List.length_eq_zero_iff.1 this, by rw [← k2]; exact q2, q3⟩
    · obtain ⟨o1, k1, k2, _⟩ := hF.pre l o ho
      obtain ⟨o2, j1, j2, _⟩ := hF.pre l' o' ho'
      have := g.apart (F l) (F l') o1 o2 k1 j1 (fun h => hne (hF.inj l l' (Heap.get_lt ho) (Heap.get_lt ho') h))
      unfold Apart at this ⊢
      rw [← k2, ← j2]; exact this
  refine (h.run _ _ w vs g0 hargs hr0).mono ?_
  rintro e w' ⟨v, rfl, K', ρ0', g', x', hr', hl'⟩

  let lb : Nat → Prop := fun b => ∃ l o, L.get l = some o ∧ Lies K ρ L.length w o (ρ l) ∧ 0 < (ρ l).e ∧ (ρ l).b = b
  classical
  let K2 : Mem := fun b => if lb b then K b else K' b
  have hlbK : ∀ b, ¬ lb b → lendL K ρ L w b = K b := fun b hb => by unfold lendL; rw [if_neg hb]
  have hlb0 : ∀ b, lb b → K b = none := fun b ⟨l, o, _, hL, _, hb⟩ => by obtain ⟨_, _, _, _, _, h3, _⟩ := hL; rw [← hb]; exact h3
  have hlbs : ∀ b, lb b → b < w.heap.size := fun b ⟨l, o, _, hL, _, hb⟩ => by rw [← hb]; exact hL.lt
  have hle : K.le K2 := fun b row hb => by
    by_cases hx : lb b
    · rw [hlb0 b hx] at hb; cases hb
    · simp only [K2, if_neg hx]
      exact x'.le g0 b row (by rw [hlbK b hx]; exact hb)
  let ρ2 : Place := fun l => if l < H.length then ρ l else ρ0' (H0.length + (l - H.length))
  have hρ2 : ∀ l, l < H.length → ρ2 l = ρ l := fun l hl => by simp [ρ2, hl]
  have hnum : ∀ l0, ρ0' l0 = ρ2 (numF F H0.length H.length l0) := fun l0 => by
    unfold numF
    by_cases h : l0 < H0.length
    · rw [if_pos h, hρ2 _ (hF.lt l0 h), x'.plc l0 h]
    · rw [if_neg h]
      simp only [ρ2]
      rw [if_neg (by omega)]
      congr 1; omega
  have hA : Along (fun l => (numF F H0.length H.length l, 0)) (fun _ => true) ρ0' ρ2 := fun l => by
    exact ⟨by rw [hnum l], by rw [hnum l]; rfl, fun _ => by rw [hnum l]⟩
  have hnlt : ∀ l0, l0 < H0'.length → numF F H0.length H.length l0 < H'.length := fun l0 h0 => by
    unfold numF
    have := hF.len
    have := hF.len0
    split
    · have := hF.lt l0 (by assumption); omega
    · omega
  have hninj : ∀ l0 l1, numF F H0.length H.length l0 = numF F H0.length H.length l1 → l0 = l1 := fun l0 l1 he => by
    unfold numF at he
    by_cases h0 : l0 < H0.length <;> by_cases h1 : l1 < H0.length
    · rw [if_pos h0, if_pos h1] at he; exact hF.inj l0 l1 h0 h1 he
    · rw [if_pos h0, if_neg h1] at he; have := hF.lt l0 h0; omega
    · rw [if_neg h0, if_pos h1] at he; have := hF.lt l1 h1; omega
    · rw [if_neg h0, if_neg h1] at he; omega
  have hnlow : ∀ l0, numF F H0.length H.length l0 < H.length → l0 < H0.length ∧ numF F H0.length H.length l0 = F l0 := fun l0 h => by
    unfold numF at h ⊢
    by_cases h0 : l0 < H0.length
    · rw [if_pos h0]; exact ⟨h0, rfl⟩
    · rw [if_neg h0] at h; omega
  have hnhigh : ∀ l0, H.length ≤ numF F H0.length H.length l0 → H0.length ≤ l0 := fun l0 h => by
    unfold numF at h
    by_cases h0 : l0 < H0.length
    · rw [if_pos h0] at h; have := hF.lt l0 h0; omega
    · omega
  have hdead : ∀ l0 o0, H0.get l0 = some o0 → H0'.get l0 = none → H'.get (F l0) = none := fun l0 o0 h0 hd => by
    cases hx : H'.get (F l0) with
    | none => rfl
    | some o' =>
      rcases hF.post _ o' hx with ⟨_, _, q⟩ | ⟨l1, o1, _, q2, q3, _⟩
      · exact absurd rfl (q l0 o0 h0)
      · have : numF F H0.length H.length l0 = F l0 := by unfold numF; rw [if_pos (Heap.get_lt h0)]
        have := hninj l1 l0 (by rw [q2, this])
        subst this
        rw [hd] at q3; cases q3

  have hval : ∀ {c c' : AV} {v : Value}, Ren (fun l => (numF F H0.length H.length l, 0)) (fun _ => true) c c' → ((∀ l, L.get l = none) ∨ c.kfree = true) → c.lim H0'.length = true → rel K' ρ0' c v → rel K2 ρ2 c' v ∧ c'.lim H'.length = true := by
    intro c c' v hren hkk hlim hrel
    refine ⟨?_, ren_lim (fun l hl => hnlt l hl) hren hlim⟩
    refine (ren_iff hA hren v).1 ?_
    rcases hkk with hno | hkf
    · have : K2 = K' := by
        funext b
        simp only [K2]
        rw [if_neg]
        rintro ⟨l, o, h1, _⟩
        rw [hno] at h1; cases h1
      rw [this]; exact hrel
    · exact rel_kfree (m := H0'.length) (fun _ _ => rfl) c v hkf hlim hrel
  have hkc : ∀ (l : Nat) (o : AObj) (i : Nat) (c : AV), H0'.get l = some o → o.cells[i]? = some c → ((∀ l, L.get l = none) ∨ c.kfree = true) := fun l o i c h1 h2 => by
    rcases hk with hk | ⟨_, hk⟩
    · exact .inl hk
    · exact .inr (kfree_get (hk l o h1) h2)

  have hframed : ∀ l o, l < H.length → H.get l = some o → (∀ l0 o0, H0.get l0 = some o0 → F l0 ≠ l) → Holds K2 ρ2 H'.length w' o (ρ l) := by
    intro l o hl ho hne
    refine (g.obj l o ho).imp (fun hL => ?_) id
    have hbs := hL.lt
    obtain ⟨row, t, fr, b1, b2, b3, b4, b5, b6, b7, b8⟩ := hL
    obtain ⟨row', p1, p2, p3⟩ := x'.fr.part _ _ _ _ b1
    refine ⟨row', t, fr, p1, by intro i hi; rw [p2] at hi; exact b2 i hi, ?_, b4, by rw [p2]; exact b5, by rw [p2]; exact b6, b7, fun i c hc => ?_⟩
    · simp only [K2]
      by_cases hx : lb (ρ l).b
      · rw [if_pos hx]; exact b3
      · rw [if_neg hx]
        rcases x'.old _ hbs with q | ⟨_, l0, o0, q1, q2, q3, q4, q5⟩
        · rw [q, hlbK _ hx]; exact b3
        · exfalso
          obtain ⟨o1, k1, k2, _⟩ := hF.pre l0 o0 q1
          rcases g.apart l (F l0) o o1 ho k1 (Ne.symm (hne l0 o0 q1)) with ⟨z1, z2⟩ | ⟨z1, z2⟩ | z | ⟨_, z, _⟩
          · obtain ⟨rw1, _, _, c1, _, _, _, _, c6, _⟩ := g.lies k1 (by simpa using q4)
            rw [q3, b1] at c1
            simp only [Option.some.injEq, Obj.cells.injEq] at c1
            obtain ⟨_, e1⟩ := b6 z1
            obtain ⟨_, e2⟩ := c6 (by rw [k2]; exact q2)
            rw [← c1.1] at e2
            omega
          · omega
          · exact z q3.symm
          · rw [k2, q2] at z; cases z
    · obtain ⟨d1, v, d2, d3, d4⟩ := b8 i c hc
      have hi : i < o.cells.length := (List.getElem?_eq_some_iff.1 hc).1
      refine ⟨AV.lim_mono (by have := hF.len; omega) c d1, v, ?_, d3, rel_mono hle hρ2 c v d1 d4⟩
      rw [p3 _ ?_]; exact d2
      rintro ⟨l0, o0, q1, q2, q3, q4⟩
      replace q2 : (ρ (F l0)).b = (ρ l).b := q2
      replace q3 : (ρ (F l0)).o ≤ (ρ l).o + i := q3
      replace q4 : (ρ l).o + i < (ρ (F l0)).o + (ρ (F l0)).e := q4
      obtain ⟨o1, k1, k2, _⟩ := hF.pre l0 o0 q1
      rcases g.apart l (F l0) o o1 ho k1 (Ne.symm (hne l0 o0 q1)) with ⟨z1, z2⟩ | ⟨z1, z2⟩ | z | ⟨z1, _, z⟩
      · omega
      · omega
      · exact z q2.symm
      · have := b7 z1
        omega
  have hplace : ∀ l l0, numF F H0.length H.length l0 = l → ρ2 l = ρ0' l0 := fun l l0 h => by rw [← h]; exact (hnum l0).symm
  have hgood : Good G K2 ρ2 H' w' := by
    refine ⟨fun b row hb => hle b row (g.glob b row hb), fun b row hb => ?_, fun l o' ho' => ?_, fun l l' o o' ho ho' hne => ?_⟩
    · simp only [K2] at hb
      split at hb
      · rename_i hx; rw [hlb0 b hx] at hb; cases hb
      · exact g'.froz b row hb
    · rcases hF.post l o' ho' with ⟨q1, q2, q3⟩ | ⟨l0, o0', q1, q2, q3, q4, q5⟩
      · rw [hρ2 l q1]; exact hframed l o' q1 q2 q3
      · rw [hplace l l0 q2]
        rcases g'.obj l0 o0' q3 with hL | ⟨z1, z2, z3⟩
        · refine .inl ?_
          obtain ⟨row, t, fr, b1, b2, b3, b4, b5, b6, b7, b8⟩ := hL
          refine ⟨row, t, fr, b1, b2, ?_, by rw [← q5.length]; exact b4, b5, by rw [← q4]; exact b6, by rw [← q4, ← q5.length]; exact b7, fun i c' hc => ?_⟩
          · simp only [K2]
            split
            · rename_i hx; exact hlb0 _ hx
            · exact b3
          · obtain ⟨c, j1, j2⟩ := q5.get' hc
            obtain ⟨d1, v, d2, d3, d4⟩ := b8 i c j1
            obtain ⟨e1, e2⟩ := hval j2 (hkc l0 o0' i c q3 j1) d1 d4
            exact ⟨e2, v, d2, d3, e1⟩
        · exact .inr ⟨by have := q5.length; rw [z1] at this; exact List.length_eq_zero_iff.1 this.symm, by rw [← q4]; exact z2, z3⟩
    · have mixed : ∀ l l' o o', (l < H.length ∧ H.get l = some o ∧ ∀ l0 o0, H0.get l0 = some o0 → F l0 ≠ l) → (∃ l0 o0', l0 < H0'.length ∧ numF F H0.length H.length l0 = l' ∧ H0'.get l0 = some o0' ∧ o0'.arr = o'.arr ∧ Rens (fun l => (numF F H0.length H.length l, 0)) (fun _ => true) o0'.cells o'.cells) → Apart o (ρ2 l) o' (ρ2 l') := by
        rintro l l' o o' ⟨q1, q2, q3⟩ ⟨l0, o0', r1, r2, r3, r4, _⟩
        rw [hρ2 l q1, hplace l' l0 r2]
        by_cases h0 : l0 < H0.length
        · obtain ⟨o0, s1, s2⟩ := x'.live l0 o0' h0 r3
          obtain ⟨o1, k1, k2, _⟩ := hF.pre l0 o0 s1
          have := g.apart l (F l0) o o1 q2 k1 (Ne.symm (q3 l0 o0 s1))
          have e : ρ0' l0 = ρ (F l0) := x'.plc l0 h0
          rw [e]
          unfold Apart at this ⊢
          rw [k2, s2, r4] at this
          exact this
        · rcases x'.fresh l0 o0' (by omega) r3 with z | ⟨z1, z2⟩ | ⟨z1, l1, o1, z2, z3, z4, z5, z6⟩
          · rcases g.obj l o q2 with hL | ⟨_, y1, y2⟩
            · have := hL.lt
              exact .inr (.inr (.inl (by omega)))
            · exact .inl ⟨y1, y2⟩
          · exact .inr (.inl ⟨by rw [← r4]; exact z1, z2⟩)
          · obtain ⟨o2, k1, k2, _⟩ := hF.pre l1 o1 z2
            rcases g.apart l (F l1) o o2 q2 k1 (Ne.symm (q3 l1 o1 z2)) with y | ⟨_, y⟩ | y | ⟨_, y, _⟩
            · exact .inl y
            · omega
            · exact .inr (.inr (.inl (by rw [← z5]; exact y)))
            · rw [k2, z3] at y; cases y
      rcases hF.post l o ho with q | q <;> rcases hF.post l' o' ho' with r | r
      · rw [hρ2 l q.1, hρ2 l' r.1]; exact g.apart l l' o o' q.2.1 r.2.1 hne
      · exact mixed l l' o o' q r
      · exact (mixed l' l o' o r q).symm
      · obtain ⟨l0, o0', q1, q2, q3, q4, _⟩ := q
        obtain ⟨l1, o1', r1, r2, r3, r4, _⟩ := r
        rw [hplace l l0 q2, hplace l' l1 r2]
        have := g'.apart l0 l1 o0' o1' q3 r3 (fun h => hne (by rw [← q2, ← r2, h]))
        unfold Apart at this ⊢
        rw [← q4, ← r4]; exact this
  have hown : ∀ b i, own (fun l => ρ (F l)) H0 b i → own ρ H b i := fun b i ⟨l0, o0, q1, q2, q3, q4⟩ => by
    obtain ⟨o1, k1, _⟩ := hF.pre l0 o0 q1
    exact ⟨F l0, o1, k1, q2, q3, q4⟩
  have hext : Ext K ρ H w K2 ρ2 H' w' := by
    refine ⟨x'.fr.weaken (fun b i _ hh => hown b i hh), fun b hb => ?_, hρ2, by have := hF.len; omega, fun l o' hl ho' => ?_, fun l o' hl ho' => ?_⟩
    · simp only [K2]
      by_cases hx : lb b
      · rw [if_pos hx]; exact .inl rfl
      · rw [if_neg hx]
        rcases x'.old b hb with q | ⟨q0, l0, o0, q1, q2, q3, q4, q5⟩
        · rw [q, hlbK b hx]; exact .inl rfl
        · obtain ⟨o1, k1, k2, _⟩ := hF.pre l0 o0 q1
          rw [hlbK b hx] at q0
          exact .inr ⟨q0, F l0, o1, k1, by rw [k2]; exact q2, q3, q4, hdead l0 o0 q1 q5⟩
    · rcases hF.post l o' ho' with ⟨_, q2, _⟩ | ⟨l0, o0', q1, q2, q3, q4, _⟩
      · exact ⟨o', q2, rfl⟩
      · obtain ⟨s1, s2⟩ := hnlow l0 (by omega)
        obtain ⟨o0, t1, t2⟩ := x'.live l0 o0' s1 q3
        obtain ⟨o1, k1, k2, _⟩ := hF.pre l0 o0 t1
        rw [← q2, s2]
        exact ⟨o1, k1, by rw [k2, t2, q4]⟩
    · rcases hF.post l o' ho' with ⟨q1, _, _⟩ | ⟨l0, o0', q1, q2, q3, q4, _⟩
      · omega
      · have h0 := hnhigh l0 (by omega)
        rw [hplace l l0 q2]
        rcases x'.fresh l0 o0' h0 q3 with z | ⟨z1, z2⟩ | ⟨z1, l1, o1, z2, z3, z4, z5, z6⟩
        · exact .inl z
        · exact .inr (.inl ⟨by rw [← q4]; exact z1, z2⟩)
        · obtain ⟨o2, k1, k2, _⟩ := hF.pre l1 o1 z2
          exact .inr (.inr ⟨by rw [← q4]; exact z1, F l1, o2, k1, by rw [k2]; exact z3, hdead l1 o1 z2 z4, z5, z6⟩)
  obtain ⟨v1, v2⟩ := hval hres (hk.imp id And.left) hl' hr'
  exact ⟨v, rfl, K2, ρ2, hgood, hext, v1, v2⟩
end Go.Ax
namespace Go.Ax
variable {P : Program} {G : Mem} {H H0 H0' H' H1 L : Heap} {env : Env} {a : Act} {n : Nat}

def natAt : List Nat → Nat → Nat
  | [], _ => 0
  | x :: _, 0 => x
  | _ :: xs, l + 1 => natAt xs l
def memN (x : Nat) : List Nat → Bool
  | [] => false
  | y :: ys => Nat.beq x y || memN x ys
def nodupN : List Nat → Bool
  | [] => true
  | x :: xs => !(memN x xs) && nodupN xs
def allLt (h : Nat) : List Nat → Bool
  | [] => true
  | x :: xs => Nat.blt x h && allLt h xs
theorem memN_at {fs : List Nat} : ∀ {l : Nat}, l < fs.length → memN (natAt fs l) fs = true := by
  induction fs with
  | nil => intro l h; simp at h
  | cons x xs ih =>
    intro l h
    cases l with
    | zero => simp [natAt, memN]
    | succ l => simp only [natAt, memN, Bool.or_eq_true]; exact .inr (ih (by simpa using h))
theorem nodupN_inj {fs : List Nat} (hn : nodupN fs = true) : ∀ l l', l < fs.length → l' < fs.length → natAt fs l = natAt fs l' → l = l' := by
  induction fs with
  | nil => intro l l' h; simp at h
  | cons x xs ih =>
    intro l l' h h' he
    simp only [nodupN, Bool.and_eq_true, Bool.not_eq_true'] at hn
    cases l with
    | zero =>
      cases l' with
      | zero => rfl
      | succ l' =>
        simp only [natAt] at he
        have := memN_at (fs := xs) (l := l') (by simpa using h')
        rw [← he, hn.1] at this; cases this
    | succ l =>
      cases l' with
      | zero =>
        simp only [natAt] at he
        have := memN_at (fs := xs) (l := l) (by simpa using h)
        rw [he, hn.1] at this; cases this
      | succ l' => rw [ih hn.2 l l' (by simpa using h) (by simpa using h') (by simpa [natAt] using he)]
theorem allLt_at {h : Nat} {fs : List Nat} (ha : allLt h fs = true) : ∀ l, l < fs.length → natAt fs l < h := by
  induction fs with
  | nil => intro l h; simp at h
  | cons x xs ih =>
    intro l hl
    simp only [allLt, Bool.and_eq_true] at ha
    cases l with
    | zero => simpa [natAt] using ha.1
    | succ l => exact ih ha.2 l (by simpa using hl)

/-- The callee's objects are found. -/
inductive FPre (f : Nat → Nat) (k : Nat) (H : Heap) : Nat → Heap → Prop
  | nil {l : Nat} : FPre f k H l []
  | gone {l : Nat} {H0 : Heap} : FPre f k H (l + 1) H0 → FPre f k H l (none :: H0)
  | here {l : Nat} {cs cells : List AV} {b : Bool} {H0 : Heap} : H.get (f l) = Option.some ⟨cells, b⟩ → Rens (fun l => (f l, 0)) (fun _ => true) cs cells → AV.lims k cs = true → FPre f k H (l + 1) H0 → FPre f k H l (some ⟨cs, b⟩ :: H0)
theorem FPre.get {f : Nat → Nat} {k : Nat} {H : Heap} : ∀ {l i : Nat} {H0 : Heap} {o : AObj}, FPre f k H l H0 → H0.get i = some o → ∃ o', H.get (f (l + i)) = some o' ∧ o'.arr = o.arr ∧ AV.lims k o.cells = true ∧ Rens (fun l => (f l, 0)) (fun _ => true) o.cells o'.cells
  | _, _, _, _, .nil, h => by simp [Heap.get] at h
  | _, 0, _, _, .gone _, h => by simp [Heap.get] at h
  | l, i + 1, _, _, .gone hh, h => by
    have := FPre.get hh (i := i) (by simpa [Heap.get] using h)
    rwa [show l + 1 + i = l + (i + 1) by omega] at this
  | _, 0, _, _, .here h1 h2 h3 _, h => by
    simp only [Heap.get, Option.some.injEq] at h
    subst h
    exact ⟨_, h1, rfl, h3, h2⟩
  | l, i + 1, _, _, .here _ _ _ hh, h => by
    have := FPre.get hh (i := i) (by simpa [Heap.get] using h)
    rwa [show l + 1 + i = l + (i + 1) by omega] at this

/-- The caller's heap behind. -/
inductive FUp (f : Nat → Nat) (k h : Nat) : Nat → Heap → Heap → Heap → Heap → Prop
  | nil {l : Nat} {H : Heap} : FUp f k h l [] [] H H
  | newNone {l : Nat} {H0' H H1 H' : Heap} : snocO H none = some H1 → FUp f k h (l + 1) [] H0' H1 H' → FUp f k h l [] (none :: H0') H H'
  | newSome {l : Nat} {cs cs' : List AV} {b : Bool} {H0' H H1 H' : Heap} : Rens (fun l => (numF f k h l, 0)) (fun _ => true) cs cs' → snocO H (some ⟨cs', b⟩) = some H1 → FUp f k h (l + 1) [] H0' H1 H' → FUp f k h l [] (some ⟨cs, b⟩ :: H0') H H'
  | skip {l : Nat} {H0 H0' H H' : Heap} : FUp f k h (l + 1) H0 H0' H H' → FUp f k h l (none :: H0) (none :: H0') H H'
  | dead {l : Nat} {o : AObj} {H0 H0' H H1 H' : Heap} : setO H (f l) none = some H1 → FUp f k h (l + 1) H0 H0' H1 H' → FUp f k h l (some o :: H0) (none :: H0') H H'
  | upd {l : Nat} {o : AObj} {cs cs' : List AV} {b : Bool} {H0 H0' H H1 H' : Heap} : Rens (fun l => (numF f k h l, 0)) (fun _ => true) cs cs' → setO H (f l) (some ⟨cs', b⟩) = some H1 → FUp f k h (l + 1) H0 H0' H1 H' → FUp f k h l (some o :: H0) (some ⟨cs, b⟩ :: H0') H H'

theorem get_set_cases {H : Heap} {l k : Nat} {x : Option AObj} {o : AObj} (h : Heap.get (H.set l x) k = some o) : (k = l ∧ x = some o) ∨ (k ≠ l ∧ H.get k = some o) := by
  by_cases hk : l = k
  · subst hk
    have hlt : l < H.length := by have := Heap.get_lt h; simpa using this
    rw [Heap.get_set_same hlt] at h
    exact .inl ⟨rfl, h⟩
  · rw [Heap.get_set_ne hk] at h; exact .inr ⟨Ne.symm hk, h⟩
theorem get_snoc_cases {H : Heap} {k : Nat} {x : Option AObj} {o : AObj} (h : Heap.get (H ++ [x]) k = some o) : (k = H.length ∧ x = some o) ∨ (k < H.length ∧ H.get k = some o) := by
  by_cases hk : k < H.length
  · rw [Heap.get_append_left hk] at h; exact .inr ⟨hk, h⟩
  · have hlt := Heap.get_lt h
    simp at hlt
    have : k = H.length := by omega
    subst this
    rw [Heap.get_append_right (Nat.le_refl _), Nat.sub_self] at h
    exact .inl ⟨rfl, by simpa [Heap.get] using h⟩

theorem FUp.spec {f : Nat → Nat} {k h : Nat} : ∀ {l : Nat} {H0 H0' H H' : Heap}, FUp f k h l H0 H0' H H' → (H0 ≠ [] → l + H0.length = k) → (H0 = [] → k ≤ l ∧ H.length = h + (l - k)) → (H0 ≠ [] → H.length = h) →
    H0.length ≤ H0'.length ∧ H'.length = H.length + (H0'.length - H0.length) ∧
    ∀ p o', H'.get p = some o' → (H.get p = some o' ∧ ∀ i o0, H0.get i = some o0 → f (l + i) ≠ p) ∨ ∃ i o0', H0'.get i = some o0' ∧ numF f k h (l + i) = p ∧ o0'.arr = o'.arr ∧ Rens (fun l => (numF f k h l, 0)) (fun _ => true) o0'.cells o'.cells
  | l, _, _, H, _, .nil, _, _, _ => ⟨Nat.le_refl _, by simp, fun p o' hp => .inl ⟨hp, fun i o0 hi => by simp [Heap.get] at hi⟩⟩
  | l, _, _, H, H', .newNone (H0' := H0') (H1 := H1) hs hh, h1, h2, h3 => by
    have := snocO_eq hs
    subst this
    obtain ⟨q1, q2⟩ := h2 rfl
    obtain ⟨r1, r2, r3⟩ := FUp.spec hh (by simp) (fun _ => ⟨by omega, by simp; omega⟩) (by simp)
    refine ⟨by simp, by simp at r2 ⊢; omega, fun p o' hp => ?_⟩
    rcases r3 p o' hp with ⟨z1, z2⟩ | ⟨i, o0', z1, z2, z3, z4⟩
    · rcases get_snoc_cases z1 with ⟨_, y⟩ | ⟨_, y⟩
      · cases y
      · exact .inl ⟨y, fun i o0 hi => by simp [Heap.get] at hi⟩
    · exact .inr ⟨i + 1, o0', by simpa [Heap.get] using z1, by rw [← z2]; congr 1; omega, z3, z4⟩
  | l, _, _, H, H', .newSome (cs := cs) (cs' := cs') (b := b) (H0' := H0') (H1 := H1) hr hs hh, h1, h2, h3 => by
    have := snocO_eq hs
    subst this
    obtain ⟨q1, q2⟩ := h2 rfl
    obtain ⟨r1, r2, r3⟩ := FUp.spec hh (by simp) (fun _ => ⟨by omega, by simp; omega⟩) (by simp)
    refine ⟨by simp, by simp at r2 ⊢; omega, fun p o' hp => ?_⟩
    rcases r3 p o' hp with ⟨z1, z2⟩ | ⟨i, o0', z1, z2, z3, z4⟩
    · rcases get_snoc_cases z1 with ⟨y1, y2⟩ | ⟨_, y⟩
      · cases y2
        refine .inr ⟨0, ⟨cs, b⟩, rfl, ?_, rfl, hr⟩
        unfold numF
        rw [if_neg (by omega)]
        omega
      · exact .inl ⟨y, fun i o0 hi => by simp [Heap.get] at hi⟩
    · exact .inr ⟨i + 1, o0', by simpa [Heap.get] using z1, by rw [← z2]; congr 1; omega, z3, z4⟩
  | l, _, _, H, H', .skip (H0 := H0) (H0' := H0') hh, h1, h2, h3 => by
    have e1 := h1 (by simp)
    have e3 := h3 (by simp)
    simp only [List.length_cons] at e1
    obtain ⟨r1, r2, r3⟩ := FUp.spec hh (fun _ => by omega) (fun he => by subst he; simp at e1; exact ⟨by omega, by omega⟩) (fun _ => e3)
    refine ⟨by simp; omega, by simp at r2 ⊢; omega, fun p o' hp => ?_⟩
    rcases r3 p o' hp with ⟨z1, z2⟩ | ⟨i, o0', z1, z2, z3, z4⟩
    · refine .inl ⟨z1, fun i o0 hi => ?_⟩
      cases i with
      | zero => simp [Heap.get] at hi
      | succ i => have := z2 i o0 (by simpa [Heap.get] using hi); rwa [show l + 1 + i = l + (i + 1) by omega] at this
    · exact .inr ⟨i + 1, o0', by simpa [Heap.get] using z1, by rw [← z2]; congr 1; omega, z3, z4⟩
  | l, _, _, H, H', .dead (o := o) (H0 := H0) (H0' := H0') (H1 := H1) hs hh, h1, h2, h3 => by
    have := setO_eq hs
    subst this
    have e1 := h1 (by simp)
    have e3 := h3 (by simp)
    simp only [List.length_cons] at e1
    obtain ⟨r1, r2, r3⟩ := FUp.spec hh (fun _ => by omega) (fun he => by subst he; simp at e1; exact ⟨by omega, by simp; omega⟩) (fun _ => by simpa using e3)
    refine ⟨by simp; omega, by simp at r2 ⊢; omega, fun p o' hp => ?_⟩
    rcases r3 p o' hp with ⟨z1, z2⟩ | ⟨i, o0', z1, z2, z3, z4⟩
    · rcases get_set_cases z1 with ⟨_, y⟩ | ⟨y1, y2⟩
      · cases y
      · refine .inl ⟨y2, fun i o0 hi => ?_⟩
        cases i with
        | zero => exact Ne.symm y1
        | succ i => have := z2 i o0 (by simpa [Heap.get] using hi); rwa [show l + 1 + i = l + (i + 1) by omega] at this
    · exact .inr ⟨i + 1, o0', by simpa [Heap.get] using z1, by rw [← z2]; congr 1; omega, z3, z4⟩
  | l, _, _, H, H', .upd (o := o) (cs := cs) (cs' := cs') (b := b) (H0 := H0) (H0' := H0') (H1 := H1) hr hs hh, h1, h2, h3 => by
    have := setO_eq hs
    subst this
    have e1 := h1 (by simp)
    have e3 := h3 (by simp)
    simp only [List.length_cons] at e1
    obtain ⟨r1, r2, r3⟩ := FUp.spec hh (fun _ => by omega) (fun he => by subst he; simp at e1; exact ⟨by omega, by simp; omega⟩) (fun _ => by simpa using e3)
    refine ⟨by simp; omega, by simp at r2 ⊢; omega, fun p o' hp => ?_⟩
    rcases r3 p o' hp with ⟨z1, z2⟩ | ⟨i, o0', z1, z2, z3, z4⟩
    · rcases get_set_cases z1 with ⟨y1, y2⟩ | ⟨y1, y2⟩
      · cases y2
        refine .inr ⟨0, ⟨cs, b⟩, rfl, ?_, rfl, hr⟩
        unfold numF
        rw [if_pos (by omega), y1]; rfl
      · refine .inl ⟨y2, fun i o0 hi => ?_⟩
        cases i with
        | zero => exact Ne.symm y1
        | succ i => have := z2 i o0 (by simpa [Heap.get] using hi); rwa [show l + 1 + i = l + (i + 1) by omega] at this
    · exact .inr ⟨i + 1, o0', by simpa [Heap.get] using z1, by rw [← z2]; congr 1; omega, z3, z4⟩

/-- Whole slices that may be lent. -/
def lentO (fs : List Nat) : Nat → Heap → Heap
  | _, [] => []
  | l, some ⟨cs, true⟩ :: H => (bif memN l fs then none else some ⟨cs, true⟩) :: lentO fs (l + 1) H
  | l, _ :: H => none :: lentO fs (l + 1) H
theorem lentO_length {fs : List Nat} : ∀ {H : Heap} {l : Nat}, (lentO fs l H).length = H.length
  | [], _ => rfl
  | some ⟨cs, true⟩ :: H, l => by simp [lentO, lentO_length]
  | some ⟨cs, false⟩ :: H, l => by simp [lentO, lentO_length]
  | none :: H, l => by simp [lentO, lentO_length]
theorem lentO_get {fs : List Nat} : ∀ {H : Heap} {l i : Nat} {o : AObj}, Heap.get (lentO fs l H) i = some o → H.get i = some o ∧ o.arr = true ∧ memN (l + i) fs = false
  | [], _, _, _, h => by simp [lentO, Heap.get] at h
  | some ⟨cs, true⟩ :: H, l, 0, o, h => by
    simp only [lentO, Heap.get] at h
    cases hb : memN l fs with
    | true => rw [hb] at h; simp at h
    | false =>
      rw [hb] at h
      simp only [cond_false, Option.some.injEq] at h
      subst h
      exact ⟨rfl, rfl, by simp⟩
  | some ⟨cs, false⟩ :: H, l, 0, o, h => by simp [lentO, Heap.get] at h
  | none :: H, l, 0, o, h => by simp [lentO, Heap.get] at h
  | some ⟨cs, true⟩ :: H, l, i + 1, o, h => by
    have := lentO_get (H := H) (l := l + 1) (i := i) (by simpa [lentO, Heap.get] using h)
    rwa [show l + 1 + i = l + (i + 1) by omega] at this
  | some ⟨cs, false⟩ :: H, l, i + 1, o, h => by
    have := lentO_get (H := H) (l := l + 1) (i := i) (by simpa [lentO, Heap.get] using h)
    rwa [show l + 1 + i = l + (i + 1) by omega] at this
  | none :: H, l, i + 1, o, h => by
    have := lentO_get (H := H) (l := l + 1) (i := i) (by simpa [lentO, Heap.get] using h)
    rwa [show l + 1 + i = l + (i + 1) by omega] at this

def hkfree : Heap → Bool
  | [] => true
  | none :: H => hkfree H
  | some o :: H => AV.kfrees o.cells && hkfree H
theorem hkfree_get : ∀ {H : Heap} {l : Nat} {o : AObj}, hkfree H = true → H.get l = some o → AV.kfrees o.cells = true
  | [], _, _, _, h => by simp [Heap.get] at h
  | none :: H, 0, _, _, h => by simp [Heap.get] at h
  | none :: H, l + 1, _, hk, h => hkfree_get (H := H) hk (by simpa [Heap.get] using h)
  | some o :: H, 0, _, hk, h => by simp only [hkfree, Bool.and_eq_true] at hk; simp only [Heap.get, Option.some.injEq] at h; subst h; exact hk.1
  | some o :: H, l + 1, _, hk, h => by simp only [hkfree, Bool.and_eq_true] at hk; exact hkfree_get (H := H) hk.2 (by simpa [Heap.get] using h)

theorem frame_of {fs : List Nat} {L : Heap} (hk : fs.length = H0.length) (hn : nodupN fs = true) (ha : allLt H.length fs = true) (hp : FPre (natAt fs) H0.length H 0 H0) (hu : FUp (natAt fs) H0.length H.length 0 H0 H0' H H')
    (hL : L.length = H.length) (hL1 : ∀ l o, L.get l = some o → H.get l = some o ∧ o.arr = true ∧ memN l fs = false) : Frame (natAt fs) L H H0 H0' H' := by
  have hs := FUp.spec hu (fun _ => by omega) (fun h => by subst h; simp) (fun _ => rfl)
  obtain ⟨s1, s2, s3⟩ := hs
  refine ⟨fun l l' h h' => nodupN_inj hn l l' (by omega) (by omega), fun l h => allLt_at ha l (by omega), fun l o ho => ?_, fun l o ho => ?_, hL, fun l o' ho => ?_, s2, s1⟩
  · have := hp.get ho
    rwa [Nat.zero_add] at this
  · obtain ⟨q1, q2, q3⟩ := hL1 l o ho
    refine ⟨q1, q2, fun l0 o0 h0 he => ?_⟩
    have := memN_at (fs := fs) (l := l0) (by have := Heap.get_lt h0; omega)
    rw [he, q3] at this; cases this
  · rcases s3 l o' ho with ⟨q1, q2⟩ | ⟨i, o0', q1, q2, q3, q4⟩
    · exact .inl ⟨Heap.get_lt q1, q1, fun l0 o0 h0 => by have := q2 l0 o0 h0; rwa [Nat.zero_add] at this⟩
    · rw [Nat.zero_add] at q2
      exact .inr ⟨i, o0', Heap.get_lt q1, q2, q1, q3, q4⟩

/-- Nothing lent. -/
theorem ACall.frameN {f : FuncId} {args args0 : List AV} {res res0 : AV} (fs : List Nat) (h : ACall P G f args0 H0 res0 H0') (hk : fs.length = H0.length) (hn : nodupN fs = true) (ha : allLt H.length fs = true)
    (hv : Rens (fun l => (natAt fs l, 0)) (fun _ => true) args0 args) (hargs : AV.lims H0.length args0 = true)
    (hp : FPre (natAt fs) H0.length H 0 H0) (hu : FUp (natAt fs) H0.length H.length 0 H0 H0' H H') (hres : Ren (fun l => (numF (natAt fs) H0.length H.length l, 0)) (fun _ => true) res0 res) : ACall P G f args H res H' := by
  have hnone : ∀ l, Heap.get (List.replicate H.length (none : Option AObj)) l = none := fun l => by
    rw [Heap.get_eq]
    cases hx : (List.replicate H.length (none : Option AObj))[l]? with
    | none => rfl
    | some y => rw [List.getElem?_replicate] at hx; split at hx <;> simp at hx; subst hx; rfl
  have hF : Frame (natAt fs) (List.replicate H.length none) H H0 H0' H' := frame_of hk hn ha hp hu (by simp) (fun l o h => by rw [hnone] at h; cases h)
  have hw : ∀ {cs cs' : List AV}, Rens (fun l => (natAt fs l, 0)) (fun _ => true) cs' cs → WViews (List.replicate H.length none) (natAt fs) cs cs' := by
    intro cs
    induction cs with
    | nil => intro cs' h; cases h <;> exact .nil
    | cons c cs ih => intro cs' h; cases h with
      | same hs => exact .same hs
      | cons h1 h2 => exact .cons (.ren h1) (ih h2)
  exact h.frame (natAt fs) _ hF (hw hv) hargs hres (.inl hnone)
/-- Whole slices lent. -/
theorem ACall.frameL {f : FuncId} {args args0 : List AV} {res res0 : AV} (fs : List Nat) (h : ACall P G f args0 H0 res0 H0') (hk : fs.length = H0.length) (hn : nodupN fs = true) (ha : allLt H.length fs = true) {L : Heap} (hL : lentO fs 0 H = L)
    (hv : WViews L (natAt fs) args args0) (hargs : AV.lims H0.length args0 = true)
    (hp : FPre (natAt fs) H0.length H 0 H0) (hu : FUp (natAt fs) H0.length H.length 0 H0 H0' H H') (hres : Ren (fun l => (numF (natAt fs) H0.length H.length l, 0)) (fun _ => true) res0 res)
    (hkf : res0.kfree = true) (hkh : hkfree H0' = true) : ACall P G f args H res H' := by
  subst hL
  have hF : Frame (natAt fs) (lentO fs 0 H) H H0 H0' H' := frame_of hk hn ha hp hu lentO_length (fun l o h => by have := lentO_get h; rwa [Nat.zero_add] at this)
  exact h.frame (natAt fs) _ hF hv hargs hres (.inr ⟨hkf, fun l o ho => hkfree_get hkh ho⟩)
end Go.Ax
