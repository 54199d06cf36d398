/-
  Slices and appends in the book.
-/
import Derived.Test.YtomidnkcohkhfaaGreatDoorK6
import Derived.Laws.AppendOwn
namespace Go.Ax
variable {P : Program} {G K : Mem} {ρ : Place} {H H' : Heap} {w w' : World} {env : Env} {a : Act} {n : Nat}

/-! ## objects that change their number, that grow -/
theorem Good.kill (g : Good G K ρ H w) (l : Nat) : Good G K ρ (H.set l none) w := by
  have hget : ∀ l' x, Heap.get (H.set l none) l' = some x → l' ≠ l ∧ H.get l' = some x := fun l' x hx => by
    by_cases h : l = l'
    · subst h
      by_cases hlt : l < H.length
      · rw [Heap.get_set_same hlt] at hx; cases hx
      · have := Heap.get_lt hx; simp at this; omega
    · rw [Heap.get_set_ne h] at hx; exact ⟨Ne.symm h, hx⟩
  exact ⟨g.glob, g.froz, fun l' x hx => by rw [List.length_set]; exact g.obj l' x (hget l' x hx).2, fun l1 l2 x1 x2 h1 h2 hne => g.apart l1 l2 x1 x2 (hget _ _ h1).2 (hget _ _ h2).2 hne⟩
theorem Ext.kill (l : Nat) : Ext K ρ H w K ρ (H.set l none) w := by
  have hget : ∀ l' x, Heap.get (H.set l none) l' = some x → l' ≠ l ∧ H.get l' = some x := fun l' x hx => by
    by_cases h : l = l'
    · subst h
      by_cases hlt : l < H.length
      · rw [Heap.get_set_same hlt] at hx; cases hx
      · have := Heap.get_lt hx; simp at this; omega
    · rw [Heap.get_set_ne h] at hx; exact ⟨Ne.symm h, hx⟩
  exact { Ext.refl K ρ H w with old := fun _ _ => .inl rfl, len := by simp, live := fun l' x _ hx => ⟨x, (hget l' x hx).2, rfl⟩, fresh := fun l' x hl hx => by have := Heap.get_lt hx; simp at this; omega }

/-- The same row under a new number. -/
theorem reborn (g : Good G K ρ H w) {l : Nat} {o : AObj} (ho : H.get l = some o) (ha : o.arr = true) :
    Good G K (ρ.upd H.length (ρ l)) (H.set l none ++ [some o]) w ∧ Ext K ρ H w K (ρ.upd H.length (ρ l)) (H.set l none ++ [some o]) w := by
  have hlt := Heap.get_lt ho
  have hρ : ∀ k, k < H.length → ρ.upd H.length (ρ l) k = ρ k := fun k hk => Place.upd_ne _ _ (by omega)
  have hget : ∀ k x, Heap.get (H.set l none ++ [some o]) k = some x → (k < H.length ∧ k ≠ l ∧ H.get k = some x) ∨ (k = H.length ∧ x = o) := fun k x hx => by
    by_cases h : k < H.length
    · rw [Heap.get_append_left (by simpa using h)] at hx
      by_cases hk : l = k
      · subst hk; rw [Heap.get_set_same h] at hx; cases hx
      · rw [Heap.get_set_ne hk] at hx; exact .inl ⟨h, Ne.symm hk, hx⟩
    · rw [Heap.get_append_right (by simp; omega)] at hx
      have h2 := Heap.get_lt (H := [some o]) hx
      simp at h2
      have h3 : k = H.length := by omega
      subst h3
      simp [Heap.get] at hx
      exact .inr ⟨rfl, hx.symm⟩
  refine ⟨⟨g.glob, g.froz, fun k x hx => ?_, fun k k' x x' hx hx' hne => ?_⟩, ?_⟩
  · have hm : ∀ {x p}, Holds K ρ H.length w x p → Holds K (ρ.upd H.length (ρ l)) (H.set l none ++ [some o]).length w x p := fun {x p} h => by
      refine h.imp (fun hL => ?_) id
      obtain ⟨row, t, fr, h1, h2, h3, h4, h5, h6, h7, h8⟩ := hL
      refine ⟨row, t, fr, h1, h2, h3, h4, h5, h6, h7, fun i c hc => ?_⟩
      obtain ⟨k1, v, k2, k3, k4⟩ := h8 i c hc
      exact ⟨AV.lim_mono (by simp) c k1, v, k2, k3, rel_mono (fun _ _ h => h) hρ c v k1 k4⟩
    rcases hget k x hx with ⟨h1, _, h2⟩ | ⟨rfl, rfl⟩
    · rw [hρ k h1]; exact hm (g.obj k x h2)
    · rw [Place.upd_same]; exact hm (g.obj l x ho)
  · rcases hget k x hx with ⟨h1, h2, h3⟩ | ⟨rfl, rfl⟩ <;> rcases hget k' x' hx' with ⟨h1', h2', h3'⟩ | ⟨rfl, rfl⟩
    · rw [hρ k h1, hρ k' h1']; exact g.apart k k' x x' h3 h3' hne
    · rw [hρ k h1, Place.upd_same]; exact g.apart k l x _ h3 ho h2
    · rw [hρ k' h1', Place.upd_same]; exact g.apart l k' _ x' ho h3' (Ne.symm h2')
    · exact absurd rfl hne
  · refine { Ext.refl K ρ H w with old := fun _ _ => .inl rfl, plc := hρ, len := by simp, live := fun k x hk hx => ?_, fresh := fun k x hk hx => ?_ }
    · rcases hget k x hx with ⟨_, _, h3⟩ | ⟨h1, _⟩
      · exact ⟨x, h3, rfl⟩
      · omega
    · rcases hget k x hx with ⟨h1, _⟩ | ⟨rfl, rfl⟩
      · omega
      · rw [Place.upd_same]
        rcases Nat.eq_zero_or_pos (ρ l).e with h | h
        · exact .inr (.inl ⟨ha, h⟩)
        · refine .inr (.inr ⟨ha, l, _, ho, ha, ?_, rfl, h⟩)
          rw [Heap.get_append_left (by simpa using hlt), Heap.get_set_same hlt]

/-- More cells, from the spare ones. -/
theorem grow_obj (g : Good G K ρ H w) {l : Nat} {o : AObj} (ho : H.get l = some o) (ha : o.arr = true) {cs : List AV} {vs : List Value} (hr : rels K ρ cs vs) (hl : AV.lims H.length cs = true)
    (h1 : ∀ v ∈ vs, v.one = true) (hk : o.cells.length + cs.length ≤ (ρ l).e) :
    Good G K ρ (H.set l (some { o with cells := o.cells ++ cs })) (puts w (ρ l).b ((ρ l).o + o.cells.length) vs) ∧
    Ext K ρ H w K ρ (H.set l (some { o with cells := o.cells ++ cs })) (puts w (ρ l).b ((ρ l).o + o.cells.length) vs) := by
  have hlt := Heap.get_lt ho
  have hvs := rels_length hr
  have hget : ∀ l' x, Heap.get (H.set l (some { o with cells := o.cells ++ cs })) l' = some x → (l' ≠ l ∧ H.get l' = some x) ∨ (l' = l ∧ x = { o with cells := o.cells ++ cs }) := fun l' x hx => by
    by_cases h : l = l'
    · subst h; rw [Heap.get_set_same hlt] at hx; cases hx; exact .inr ⟨rfl, rfl⟩
    · rw [Heap.get_set_ne h] at hx; exact .inl ⟨Ne.symm h, hx⟩
  have hapart : ∀ l1 l2 x1 x2, Heap.get (H.set l (some { o with cells := o.cells ++ cs })) l1 = some x1 → Heap.get (H.set l (some { o with cells := o.cells ++ cs })) l2 = some x2 → l1 ≠ l2 → Apart x1 (ρ l1) x2 (ρ l2) := fun l1 l2 x1 x2 hx1 hx2 hne => by
    rcases hget l1 x1 hx1 with ⟨hn1, hy1⟩ | ⟨rfl, rfl⟩ <;> rcases hget l2 x2 hx2 with ⟨hn2, hy2⟩ | ⟨rfl, rfl⟩
    · exact g.apart l1 l2 x1 x2 hy1 hy2 hne
    · exact g.apart l1 l2 x1 o hy1 ho hne
    · exact g.apart l1 l2 o x2 ho hy2 hne
    · exact absurd rfl hne
  have hlive : ∀ l' x, l' < H.length → Heap.get (H.set l (some { o with cells := o.cells ++ cs })) l' = some x → ∃ o0, H.get l' = some o0 ∧ o0.arr = x.arr := fun l' x _ hx => by
    rcases hget l' x hx with ⟨_, hx1⟩ | ⟨rfl, rfl⟩
    · exact ⟨x, hx1, rfl⟩
    · exact ⟨o, ho, rfl⟩
  have hfresh : ∀ l' x, H.length ≤ l' → Heap.get (H.set l (some { o with cells := o.cells ++ cs })) l' = some x → False := fun l' x hl' hx => by
    have := Heap.get_lt hx
    simp at this; omega
  by_cases hz : cs = []
  · subst hz
    have hv0 : vs = [] := List.length_eq_zero_iff.1 hvs
    subst hv0
    have hset : H.set l (some { o with cells := o.cells ++ [] }) = H := by
      rw [List.append_nil]
      refine List.ext_getElem? fun i => ?_
      by_cases hi : l = i
      · subst hi
        rw [List.getElem?_set_self hlt]
        rw [Heap.get_eq] at ho
        cases hx : H[l]? with
        | none => rw [hx] at ho; simp at ho
        | some y => rw [hx] at ho; simp at ho; rw [ho]
      · rw [List.getElem?_set_ne hi]
    rw [hset]
    exact ⟨g, Ext.refl _ _ _ _⟩
  have hpos : 0 < cs.length := List.length_pos_iff.2 hz
  obtain ⟨row, t, fr, a1, a2, a3, a4, a5, a6, a7, a8⟩ := g.lies ho (by omega)
  have hunown : ∀ b i, ¬ own ρ H b i → b = (ρ l).b → i < (ρ l).o + o.cells.length ∨ (ρ l).o + o.cells.length + vs.length ≤ i := fun b i hn hb => by
    rcases Nat.lt_or_ge i ((ρ l).o + o.cells.length) with h | h
    · exact .inl h
    · rcases Nat.lt_or_ge i ((ρ l).o + o.cells.length + vs.length) with h' | h'
      · exact absurd ⟨l, o, ho, hb.symm, by omega, by omega⟩ hn
      · exact .inr h'
  obtain ⟨r1, r2, r3, r4⟩ := puts_rest vs (b := (ρ l).b) (w := w) (o := (ρ l).o + o.cells.length)
  refine ⟨⟨g.glob, fun b r hb => ?_, fun l' x hx => ?_, hapart⟩, ?_⟩
  · have : b ≠ (ρ l).b := fun e => by rw [e, a3] at hb; cases hb
    rw [puts_ne vs this]; exact g.froz b r hb
  · rw [List.length_set]
    rcases hget l' x hx with ⟨hne, hx1⟩ | ⟨rfl, rfl⟩
    · rcases g.obj l' x hx1 with hl' | hl'
      · refine .inl ?_
        obtain ⟨row', t', fr', b1, b2, b3, b4, b5, b6, b7, b8⟩ := hl'
        by_cases hb : (ρ l').b = (ρ l).b
        · rw [hb, a1] at b1
          simp only [Option.some.injEq, Obj.cells.injEq] at b1
          obtain ⟨e1, e2, e3⟩ := b1
          subst e1 e2 e3
          refine ⟨rowPut row ((ρ l).o + o.cells.length) vs, t, fr, by rw [hb]; exact puts_same vs a1, ?_, b3, b4, by rw [rowPut_size]; exact b5, by rw [rowPut_size]; exact b6, b7, fun i c hc => ?_⟩
          · intro i hi; rw [rowPut_size] at hi; exact b2 i hi
          · obtain ⟨d1, v, d2, d3⟩ := b8 i c hc
            refine ⟨d1, v, ?_, d3⟩
            have hi : i < x.cells.length := (List.getElem?_eq_some_iff.1 hc).1
            rcases g.apart l l' o x ho hx1 (Ne.symm hne) with ⟨_, hap⟩ | ⟨_, hap⟩ | hap | ⟨c1, c2, c3⟩
            · omega
            · omega
            · exact absurd hb.symm hap
            · rw [ha] at c1; cases c1
        · exact ⟨row', t', fr', by rw [puts_ne vs hb]; exact b1, b2, b3, b4, b5, b6, b7, b8⟩
      · exact .inr hl'
    · refine .inl ⟨rowPut row ((ρ l').o + o.cells.length) vs, t, fr, puts_same vs a1, ?_, a3, ?_, by rw [rowPut_size]; exact a5, by rw [rowPut_size]; exact a6, ?_, fun i c hc => ?_⟩
      · intro i hi; rw [rowPut_size] at hi; exact a2 i hi
      · simp only [List.length_append]; omega
      · intro h; simp only [] at h; rw [ha] at h; cases h
      · simp only [] at hc
        rcases Nat.lt_or_ge i o.cells.length with hi | hi
        · rw [List.getElem?_append_left hi] at hc
          obtain ⟨d1, v, d2, d3⟩ := a8 i c hc
          refine ⟨d1, v, ?_, d3⟩
          rw [rowPut_out _ _ _ _ (by omega)]; exact d2
        · rw [List.getElem?_append_right hi] at hc
          obtain ⟨v, j1, j2⟩ := rels_get hr hc
          have hi2 : i - o.cells.length < cs.length := (List.getElem?_eq_some_iff.1 hc).1
          refine ⟨lims_get hl hc, v, ?_, h1 v (List.mem_of_getElem? j1), j2⟩
          rw [show (ρ l').o + i = (ρ l').o + o.cells.length + (i - o.cells.length) by omega, rowPut_in _ _ _ _ (by omega) (by omega)]
          exact j1
  · refine { Ext.refl K ρ H w with old := fun _ _ => .inl rfl, fr := ⟨r1, r2, r3, by rw [r4]; exact Nat.le_refl _, fun b hb hn => ?_, fun b row' t' fr' hb => ?_⟩, len := by simp, live := hlive, fresh := fun l' x hl' hx => (hfresh l' x hl' hx).elim }
    · have e : b ≠ (ρ l).b := fun e => hn ((ρ l).o + o.cells.length) ⟨l, o, ho, e.symm, by omega, by omega⟩
      exact puts_ne vs e
    · by_cases e : b = (ρ l).b
      · subst e
        refine ⟨rowPut row' ((ρ l).o + o.cells.length) vs, puts_same vs hb, rowPut_size _ _ _, fun i hi => rowPut_out _ _ _ _ (hunown _ i hi rfl)⟩
      · exact ⟨row', by rw [puts_ne vs e]; exact hb, rfl, fun _ _ => rfl⟩

/-! ## zeros, parts -/
def zrep : Nat → List AV → List AV
  | 0, _ => []
  | n + 1, zs => zs ++ zrep n zs
theorem zrep_length (zs : List AV) : ∀ n, (zrep n zs).length = n * zs.length
  | 0 => by simp [zrep]
  | n + 1 => by simp [zrep, zrep_length zs n, Nat.add_mul, Nat.add_comm]
theorem zrep_get {zs : List AV} : ∀ {n i : Nat} {c : AV}, (zrep n zs)[i]? = some c → zs[i % zs.length]? = some c
  | 0, i, c, h => by simp [zrep] at h
  | n + 1, i, c, h => by
    simp only [zrep] at h
    by_cases hi : i < zs.length
    · rw [List.getElem?_append_left hi] at h
      rwa [Nat.mod_eq_of_lt hi]
    · rw [List.getElem?_append_right (by omega)] at h
      have := zrep_get h
      rwa [Nat.mod_eq_sub_mod (by omega)]
theorem zrep_flt (k : FloatKind) (n : Nat) : zrep n [.flt k 0] = (List.replicate n 0).map (fun b => AV.flt k b) := by
  induction n with
  | zero => rfl
  | succ n ih => simp [zrep, ih, List.replicate_succ]

/-- A row of zeros, as the values say. -/
theorem zrow_ok {i : TI} (hz : i.zero.all zok = true) (_hl : i.zero.length = i.size) (n : Nat) {z : Array Value} (e : z = ⟨i.zero.map zval⟩) (j : Nat) {c : AV} (hc : (zrep n i.zero)[j]? = some c) :
    ∃ v, z[j % z.size]! = v ∧ v.one = true ∧ rel K ρ c v ∧ ∀ m, c.lim m = true := by
  have h1 := zrep_get hc
  obtain ⟨h2, h3, h4⟩ := zeros_ok (K := K) (ρ := ρ) hz
  obtain ⟨v, k1, k2⟩ := rels_get h2 h1
  have hs : z.size = i.zero.length := by rw [e]; simp
  refine ⟨v, ?_, h4 v (List.mem_of_getElem? k1), k2, fun m => lims_get (h3 m) h1⟩
  rw [hs]
  have : z[j % i.zero.length]? = some v := by rw [e]; simpa using k1
  rw [getElem!_def, this]
end Go.Ax
namespace Go.Ax
variable {P : Program} {G K : Mem} {ρ : Place} {H H' H1 : Heap} {w w' : World} {env : Env} {a : Act} {n : Nat}

/-- What is put behind a slice: so many elements, their cells. -/
inductive ASrc (H : Heap) (z : Nat) : AV → Nat → List AV → Prop
  | lst {n : Nat} {cs : List AV} : cs.length = n * z → ASrc H z (.lst n cs) n cs
  | emp : ASrc H z .emp 0 []
  | nil : ASrc H z (.val (.slice none 0 0)) 0 []
  | slc {l k n : Nat} {o : AObj} {cs : List AV} : H.get l = some o → (o.cells.drop k).take (n * z) = cs → cs.length = n * z → ASrc H z (.slc l k n z) n cs
  | str {s : ByteArray} {cs : List AV} : z = 1 → s.data.toList.map (fun b => AV.val (.int .u8 b.toNat)) = cs → ASrc H z (.val (.string s)) s.size cs

theorem relAt_vals (g : Good G K ρ H w) : ∀ {cs : List AV} {b o : Nat}, relAt K ρ cs b o → ∃ vs, (∀ (j : Nat) v, vs[j]? = some v → w.cell? ⟨b, o + j, none⟩ = some v) ∧ rels K ρ cs vs ∧ ∀ v ∈ vs, v.one = true
  | [], _, _, _ => ⟨[], fun j v h => by simp at h, by simp [rels], fun v h => by simp at h⟩
  | c :: cs, b, o, h => by
    simp only [relAt] at h
    obtain ⟨⟨row, v, h1, h2, h3, h4⟩, h5⟩ := h
    obtain ⟨vs, k1, k2, k3⟩ := relAt_vals g h5
    refine ⟨v :: vs, fun j u hu => ?_, by simp only [rels]; exact ⟨v, vs, rfl, h4, k2⟩, fun u hu => ?_⟩
    · cases j with
      | zero => simp at hu; subst hu; exact g.fcell h1 h2
      | succ j => have := k1 j u (by simpa using hu); rwa [show o + 1 + j = o + (j + 1) by omega] at this
    · simp only [List.mem_cons] at hu
      rcases hu with rfl | hu
      · exact h3
      · exact k3 u hu

theorem lies_vals (g : Good G K ρ H w) {l k m : Nat} {o : AObj} {cs : List AV} (ho : H.get l = some o) (hcs : (o.cells.drop k).take m = cs) :
    AV.lims H.length cs = true ∧ (Lies K ρ H.length w o (ρ l) → ∃ vs, (∀ (j : Nat) v, vs[j]? = some v → w.cell? ⟨(ρ l).b, (ρ l).o + k + j, none⟩ = some v) ∧ rels K ρ cs vs ∧ ∀ v ∈ vs, v.one = true) := by
  have hi : ∀ (i : Nat) c, cs[i]? = some c → o.cells[k + i]? = some c := fun i c hc => by
    rw [← hcs, List.getElem?_take] at hc
    split at hc
    · rwa [List.getElem?_drop] at hc
    · cases hc
  refine ⟨?_, fun hL => ?_⟩
  · rcases g.obj l o ho with hL | ⟨h, _, _⟩
    · obtain ⟨row, t, fr, a1, a2, a3, a4, a5, a6, a7, a8⟩ := hL
      exact lims_of_forall fun i c hc => (a8 _ c (hi i c hc)).1
    · rw [h] at hcs; simp at hcs; subst hcs; rfl
  · obtain ⟨row, t, fr, a1, a2, a3, a4, a5, a6, a7, a8⟩ := hL
    have : ∀ (cs : List AV) (off : Nat), (∀ (i : Nat) c, cs[i]? = some c → o.cells[off + i]? = some c) → ∃ vs, (∀ (j : Nat) v, vs[j]? = some v → w.cell? ⟨(ρ l).b, (ρ l).o + off + j, none⟩ = some v) ∧ rels K ρ cs vs ∧ ∀ v ∈ vs, v.one = true := by
      intro cs
      induction cs with
      | nil => intro off _; exact ⟨[], fun j v h => by simp at h, by simp [rels], fun v h => by simp at h⟩
      | cons c cs ih =>
        intro off h
        obtain ⟨vs, k1, k2, k3⟩ := ih (off + 1) (fun i c hc => by have := h (i + 1) c (by simpa using hc); rwa [show off + (i + 1) = off + 1 + i by omega] at this)
        obtain ⟨_, v, e1, e2, e3⟩ := a8 off c (by simpa using h 0 c rfl)
        refine ⟨v :: vs, fun j u hu => ?_, by simp only [rels]; exact ⟨v, vs, rfl, e3, k2⟩, fun u hu => ?_⟩
        · cases j with
          | zero => simp at hu; subst hu; exact cell_at a1 e1
          | succ j => have := k1 j u (by simpa using hu); rwa [show (ρ l).o + (off + 1) + j = (ρ l).o + off + (j + 1) by omega] at this
        · simp only [List.mem_cons] at hu
          rcases hu with rfl | hu
          · exact e2
          · exact k3 u hu
    exact this cs k hi

theorem src_ok (g : Good G K ρ H w) {z m : Nat} {c : AV} {cs : List AV} {v : Value} (hs : ASrc H z c m cs) (hr : rel K ρ c v) (hl : c.lim H.length = true) :
    cs.length = m * z ∧ AV.lims H.length cs = true ∧ ∃ vs, Builtin.lenOf v = Sem.pure m ∧ (∀ w', Alike w w' → (Builtin.firstCells z m v).run P w' = .ok ⟨vs⟩ w') ∧ rels K ρ cs vs ∧ ∀ u ∈ vs, u.one = true := by
  have cellw : ∀ {w'}, Alike w w' → ∀ ad, w'.cell? ad = w.cell? ad := fun {w'} hw ad => by unfold World.cell?; rw [hw.heap]
  have frun : ∀ (b o cap : Nat) (vs : List Value), vs.length = m * z → (∀ (j : Nat) v, vs[j]? = some v → w.cell? ⟨b, o + j, none⟩ = some v) → ∀ w', Alike w w' → (Builtin.firstCells z m (.slice (some ⟨b, o, none⟩) m cap)).run P w' = .ok ⟨vs⟩ w' := by
    intro b o cap vs h1 h2 w' hw
    have := run_firstCells_some (P := P) w' z m ⟨b, o, none⟩ m cap vs h1 (fun j v hv => by rw [add_at, cellw hw]; exact h2 j v hv)
    simpa using this
  have fnil : ∀ (b : Option Addr), m = 0 → ∀ w', Alike w w' → (Builtin.firstCells z m (.slice b 0 0)).run P w' = .ok ⟨[]⟩ w' := by
    intro b hm w' _
    subst hm
    cases b with
    | none => exact run_firstCells_none (P := P) w' z 0 0 0
    | some ad =>
      have := run_firstCells_some (P := P) w' z 0 ad 0 0 [] (by simp) (fun j v hv => by simp at hv)
      simpa using this
  cases hs with
  | lst h =>
    simp only [rel] at hr
    obtain ⟨a, cap, rfl, h1, h2⟩ := hr
    refine ⟨h, by simpa [AV.lim] using hl, ?_⟩
    rcases h2 with rfl | ⟨b, o, rfl, hat⟩
    · have h0 : m * z = 0 := by simpa using h.symm
      refine ⟨[], rfl, fun w' hw => ?_, by simp [rels], fun u hu => by simp at hu⟩
      cases a with
      | none => exact run_firstCells_none (P := P) w' z m m cap
      | some ad =>
        have := run_firstCells_some (P := P) w' z m ad m cap [] (by simp [h0]) (fun j v hv => by simp at hv)
        simpa using this
    · obtain ⟨vs, k1, k2, k3⟩ := relAt_vals g hat
      exact ⟨vs, rfl, frun b o cap vs ((rels_length k2).trans h) k1, k2, k3⟩
  | emp =>
    simp only [rel] at hr
    obtain ⟨a, rfl⟩ := hr
    exact ⟨by simp, rfl, [], rfl, fnil a rfl, by simp [rels], fun u hu => by simp at hu⟩
  | nil =>
    simp only [rel] at hr
    subst hr
    exact ⟨by simp, rfl, [], rfl, fnil none rfl, by simp [rels], fun u hu => by simp at hu⟩
  | slc ho hcs hlen =>
    rename_i l k o
    simp only [rel] at hr
    obtain ⟨h1, h2⟩ := lies_vals g ho hcs
    refine ⟨hlen, h1, ?_⟩
    rcases hr with ⟨cap, rfl, e1, e2⟩ | ⟨rfl, b, rfl⟩
    · rcases g.obj l o ho with hL | ⟨hz, _, _⟩
      · obtain ⟨vs, k1, k2, k3⟩ := h2 hL
        exact ⟨vs, rfl, frun _ _ cap vs ((rels_length k2).trans hlen) k1, k2, k3⟩
      · have : cs = [] := by rw [← hcs, hz]; simp
        subst this
        have h0 : m * z = 0 := by simpa using hlen.symm
        exact ⟨[], rfl, frun _ _ cap [] (by simp [h0]) (fun j v hv => by simp at hv), by simp [rels], fun u hu => by simp at hu⟩
    · have : cs = [] := List.length_eq_zero_iff.1 (by rw [hlen]; simp)
      subst this
      exact ⟨[], rfl, fnil b rfl, by simp [rels], fun u hu => by simp at hu⟩
  | str hz hcs =>
    rename_i s
    simp only [rel] at hr
    subst hr hz hcs
    refine ⟨by rw [List.length_map, Array.length_toList, Nat.mul_one]; rfl, lims_of_forall fun i c hc => ?_, s.data.toList.map (fun b => .int .u8 b.toNat), rfl, fun w' _ => ?_, ?_, fun u hu => ?_⟩
    · simp only [List.getElem?_map, Option.map_eq_some_iff] at hc
      obtain ⟨b, _, rfl⟩ := hc
      rfl
    · have hx : (s.extract 0 s.size).data = s.data := by
        have h1 : (s.extract 0 s.size).data = s.data.extract 0 s.data.size := ByteArray.data_extract
        exact h1.trans Array.extract_size
      simp only [Builtin.firstCells, hx, Sem.run_pure]
      congr 1
      apply Array.ext'
      simp
    · generalize s.data.toList = bs
      induction bs with
      | nil => simp [rels]
      | cons b bs ih => simp only [List.map_cons, rels]; exact ⟨_, _, rfl, rfl, ih⟩
    · simp only [List.mem_map] at hu
      obtain ⟨b, _, rfl⟩ := hu
      rfl

/-! ## the runs -/
theorem run_underlying' {t : TypeId} {d : TypeDesc} (h : P.underlying t = some d) : (underlying t).run P w = .ok d w := by simp [underlying, h]

def isCat (d : TD) : Bool := match d with | .slice _ | .str => true | _ => false

theorem TyIs.run_cat {t : Nat} {i : TI} (h : TyIs P t i) (hc : isCat i.d = true) : ∃ d, P.underlying t = Option.some d ∧ ∀ k, d ≠ TypeDesc.int k := by
  have hd := h.desc
  unfold TDIs at hd
  cases hk : i.d <;> rw [hk] at hd hc <;> simp [isCat] at hc <;> simp only [] at hd
  · exact ⟨_, hd, fun k h => by cases h⟩
  · exact ⟨_, hd, fun k h => by cases h⟩

theorem run_append_in {t e tx ty : TypeId} {j : TI} {d : TypeDesc} (hu : P.underlying t = some (.slice e)) (he : TyIs P e j) (hx : P.underlying tx = some d) (hd : ∀ k, d ≠ .int k)
    {base : Option Addr} {n m cap : Nat} {v : Value} {vs : List Value} (hlen : Builtin.lenOf v = Sem.pure m) (hf : (Builtin.firstCells j.size m v).run P w = .ok ⟨vs⟩ w) (hroom : n + m ≤ cap) (h0 : base = none → vs = [])
    (hst : ∀ ad, base = some ad → (storeCells (ad.add (n * j.size)) vs).run P w = .ok () w') (hw : base = none → w' = w) :
    (Builtin.append_ #[t, tx] ty #[.slice base n cap, v]).run P w = .ok (.slice base (n + m) cap) w' := by
  have hsz := he.run_sizeOf (w := w)
  have hl : (Sem.pure m : Sem Nat).run P w = .ok m w := rfl
  simp only [Builtin.append_, Sem.run_bind, run_underlying' hu, Result.andThen_ok, hsz, List.getElem?_toArray, List.getElem?_cons_zero, List.getElem?_cons_succ]
  simp only [run_underlying' hx, Result.andThen_ok, Sem.run_pure]
  cases d <;> first | (exact absurd rfl (hd _)) | skip
  all_goals
    simp only [Bool.false_eq_true, if_false, hlen, hl, Result.andThen_ok, Sem.run_bind, hroom, if_true, Bool.not_false, hf]
    cases base with
    | none => simp only [Sem.run_pure, hw rfl]
    | some ad => simp only [Sem.run_bind]; rw [hst ad rfl]; rfl

theorem run_append_out {t e tx ty : TypeId} {j : TI} {d : TypeDesc} (hu : P.underlying t = some (.slice e)) (he : TyIs P e j) (hx : P.underlying tx = some d) (hd : ∀ k, d ≠ .int k)
    {base : Option Addr} {n m cap : Nat} {v : Value} {olds vs : List Value} (hlen : Builtin.lenOf v = Sem.pure m) (hout : cap < n + m) (hpos : 0 < j.bytes) (hfit : (n + m) * j.bytes ≤ 140737488355328)
    (hf : ∀ w', Alike w w' → (Builtin.firstCells j.size m v).run P w' = .ok ⟨vs⟩ w') (hfo : ∀ w', Alike w w' → (Builtin.firstCells j.size n (.slice base n cap)).run P w' = .ok ⟨olds⟩ w') :
    ∃ (z : Array Value) (c : Nat), z = ⟨j.zero.map zval⟩ ∧ n + m ≤ c ∧ (Builtin.append_ #[t, tx] ty #[.slice base n cap, v]).run P w =
      .ok (.slice (some ⟨w.heap.size, 0, none⟩) (n + m) c) (World.more w.drew (.cells (⟨olds⟩ ++ (⟨vs⟩ ++ Builtin.zeroCells z (c - (n + m)))) e)) := by
  obtain ⟨zv, hz1, hz2⟩ := he.run_zero (w := w.drew)
  refine ⟨zv.cells, grownCap w (n + m) cap e, hz2, grownCap_ge w _ _ _, ?_⟩
  have hl : (Sem.pure m : Sem Nat).run P w = .ok m w := rfl
  have hnot : ¬ (n + m ≤ cap) := by omega
  have hneed : ¬ (9223372036854775807 < ((n : Int) + (m : Int))) := by
    have : n + m ≤ (n + m) * j.bytes := Nat.le_mul_of_pos_right _ hpos
    omega
  have hcap : ¬ (281474976710656 < Builtin.nextslicecap (n + m) cap * j.bytes) := by
    have := growslice_fits hout hfit
    omega
  obtain ⟨info, hi1, hi2⟩ := he.run_typeInfo (w := w)
  obtain ⟨info', hi1', hi2'⟩ := he.run_typeInfo (w := w.drew)
  have hq : (Question.appendCap (n + m) cap e).forced = false := rfl
  have f1 := hf w.drew (Alike.drew w)
  have f2 := hfo w.drew (Alike.drew w)
  simp only [Builtin.append_, Sem.run_bind, run_underlying' hu, Result.andThen_ok, he.run_sizeOf, List.getElem?_toArray, List.getElem?_cons_zero, List.getElem?_cons_succ]
  simp only [run_underlying' hx, Result.andThen_ok, Sem.run_pure]
  cases d <;> first | (exact absurd rfl (hd _)) | skip
  all_goals
    simp [hlen, hl, hnot, hi1, hi2, hi1', hneed, hcap, hq, hz1, newRow, f1, f2, grownCap]
    try rfl
end Go.Ax
namespace Go.Ax
variable {P : Program} {G K : Mem} {ρ : Place} {H H' H1 : Heap} {w w' : World} {env : Env} {a : Act} {n : Nat}

/-- An empty row that lies nowhere. -/
theorem alloc_none (g : Good G K ρ H w) :
    Good G K (ρ.upd H.length ⟨0, 0, 0⟩) (H ++ [some ⟨[], true⟩]) w ∧ Ext K ρ H w K (ρ.upd H.length ⟨0, 0, 0⟩) (H ++ [some ⟨[], true⟩]) w := by
  have hρ : ∀ l, l < H.length → ρ.upd H.length ⟨0, 0, 0⟩ l = ρ l := fun l hl => Place.upd_ne _ _ (by omega)
  have hget : ∀ l x, Heap.get (H ++ [some ⟨[], true⟩]) l = some x → (l < H.length ∧ H.get l = some x) ∨ (l = H.length ∧ x = ⟨[], true⟩) := fun l x hx => by
    by_cases h : l < H.length
    · rw [Heap.get_append_left h] at hx; exact .inl ⟨h, hx⟩
    · rw [Heap.get_append_right (by omega)] at hx
      have h2 := Heap.get_lt (H := [some ⟨[], true⟩]) hx
      simp at h2
      have hl : l = H.length := by omega
      subst hl
      simp [Heap.get] at hx
      exact .inr ⟨rfl, hx.symm⟩
  refine ⟨⟨g.glob, g.froz, fun l x hx => ?_, fun l l' x x' hx hx' hne => ?_⟩, ?_⟩
  · rcases hget l x hx with ⟨hl, hx1⟩ | ⟨rfl, rfl⟩
    · rw [hρ l hl]
      refine (g.obj l x hx1).imp (fun hL => ?_) id
      obtain ⟨row, t, fr, h1, h2, h3, h4, h5, h6, h7, h8⟩ := hL
      refine ⟨row, t, fr, h1, h2, h3, h4, h5, h6, h7, fun i c hc => ?_⟩
      obtain ⟨k1, v, k2, k3, k4⟩ := h8 i c hc
      exact ⟨AV.lim_mono (by simp) c k1, v, k2, k3, rel_mono (fun _ _ h => h) hρ c v k1 k4⟩
    · rw [Place.upd_same]; exact .inr ⟨rfl, rfl, rfl⟩
  · rcases hget l x hx with ⟨hl, hx1⟩ | ⟨rfl, rfl⟩ <;> rcases hget l' x' hx' with ⟨hl', hx1'⟩ | ⟨rfl, rfl⟩
    · rw [hρ l hl, hρ l' hl']; exact g.apart l l' x x' hx1 hx1' hne
    · rw [Place.upd_same]; exact .inr (.inl ⟨rfl, rfl⟩)
    · rw [Place.upd_same]; exact .inl ⟨rfl, rfl⟩
    · exact absurd rfl hne
  · refine { Ext.refl K ρ H w with old := fun _ _ => .inl rfl, plc := hρ, len := by simp, live := fun l x hl hx => ?_, fresh := fun l x hl hx => ?_ }
    · rw [Heap.get_append_left hl] at hx; exact ⟨x, hx, rfl⟩
    · rcases hget l x hx with ⟨hl', _⟩ | ⟨rfl, rfl⟩
      · omega
      · rw [Place.upd_same]; exact .inr (.inl ⟨rfl, rfl⟩)

theorem unmarked00 (row : Array Value) : Unmarked row (0, 0) := fun i _ h => by omega

/-- The row that an append makes. -/
theorem grown_row (g : Good G K ρ H w) {cs cs2 : List AV} {vs vs2 : List Value} {z : Array Value} {e : TypeId} {m : Nat}
    (r1 : rels K ρ cs vs) (o1 : ∀ v ∈ vs, v.one = true) (l1 : AV.lims H.length cs = true) (r2 : rels K ρ cs2 vs2) (o2 : ∀ v ∈ vs2, v.one = true) (l2 : AV.lims H.length cs2 = true) :
    let row : Array Value := ⟨vs⟩ ++ (⟨vs2⟩ ++ Builtin.zeroCells z m)
    Good G K (ρ.upd H.length ⟨w.heap.size, 0, row.size⟩) (H ++ [some ⟨cs ++ cs2, true⟩]) (World.more w (.cells row e)) ∧
    Ext K ρ H w K (ρ.upd H.length ⟨w.heap.size, 0, row.size⟩) (H ++ [some ⟨cs ++ cs2, true⟩]) (World.more w (.cells row e)) := by
  intro row
  have e1 := rels_length r1
  have e2 := rels_length r2
  refine alloc_obj g row e (0, 0) (unmarked00 row) ⟨cs ++ cs2, true⟩ (by simp [row]; omega) (fun h => by cases h) fun i c hc => ?_
  simp only [] at hc
  refine ⟨lims_get (lims_append l1 l2) hc, ?_⟩
  obtain ⟨v, k1, k2⟩ := rels_get (rels_append r1 r2) hc
  have hm : v ∈ vs ++ vs2 := List.mem_of_getElem? k1
  refine ⟨v, ?_, ?_, k2⟩
  · have hlt : i < (vs ++ vs2).length := (List.getElem?_eq_some_iff.1 k1).1
    have : row = ⟨vs ++ vs2⟩ ++ Builtin.zeroCells z m := by apply Array.ext'; simp [row, List.append_assoc]
    rw [this, Array.getElem?_append_left (by simpa using hlt)]
    simpa using k1
  · rcases List.mem_append.1 hm with h | h
    · exact o1 v h
    · exact o2 v h

theorem row_size (vs vs2 : List Value) (z : Array Value) (k : Nat) : ((⟨vs⟩ : Array Value) ++ (⟨vs2⟩ ++ Builtin.zeroCells z k)).size = vs.length + vs2.length + k * z.size := by
  simp [size_zeroCells]; omega
theorem cap_fits {n m c z : Nat} (h : n + m ≤ c) : 0 + c * z ≤ n * z + m * z + (c - (n + m)) * z := by
  rw [← Nat.add_mul, ← Nat.add_mul, Nat.zero_add]
  exact Nat.mul_le_mul_right _ (by omega)

section ops
variable {d : Option Tmp} {ty : TypeId} {pos : String} {after : Array Edge} {gu : Option (Nat × Bool)} {av : AV}

theorem run_append_op {x y : Operand} {t tx : TypeId} : (execOp a.eval ⟨d, .call ⟨.builtin .append, ⟨[x, y]⟩, ⟨[t, tx]⟩⟩, ty, pos, after, gu⟩).run P w =
    ((Builtin.append_ #[t, tx] ty #[a.eval x, a.eval y]).run P w).andThen (fun v w => .ok (.value v) w) := by
  simp [execOp, resolve, invoke, builtin]

def isEmp : AV → Bool
  | .emp => true
  | .val (.slice none 0 0) => true
  | _ => false
theorem isEmp_rel {p : AV} {v : Value} (h : isEmp p = true) (hr : rel K ρ p v) : ∃ b, v = .slice b 0 0 := by
  unfold isEmp at h
  split at h
  · simpa only [rel] using hr
  · simp only [rel] at hr; exact ⟨none, hr⟩
  · cases h

/-- Behind nothing. -/
theorem append_new (T : Tab P) (g : Good G K ρ H w) {t e tx ty : TypeId} {i j ix : TI} {m z : Nat} {c : AV} {cs : List AV} {v : Value} {b : Option Addr}
    (hT : tyAt T.l t = some i) (hd : i.d = .slice e) (hE : tyAt T.l e = some j) (hz : j.size = z) (hX : tyAt T.l tx = some ix) (hcx : isCat ix.d = true) (hb : Nat.blt 0 j.bytes = true) (hfit : m * j.bytes ≤ 140737488355328)
    (hs : ASrc H z c m cs) (hr : rel K ρ c v) (hl : c.lim H.length = true) :
    ∃ u w' ρ', (Builtin.append_ #[t, tx] ty #[.slice b 0 0, v]).run P w = .ok u w' ∧ Good G K ρ' (H ++ [some ⟨cs, true⟩]) w' ∧ Ext K ρ H w K ρ' (H ++ [some ⟨cs, true⟩]) w' ∧ rel K ρ' (.slc H.length 0 m z) u := by
  have hu : P.underlying t = some (.slice e) := T.desc hT hd
  obtain ⟨dx, hx, hdx⟩ := (T.is hX).run_cat hcx
  have hj := T.is hE
  obtain ⟨hlen, hlim, vs, h1, h2, h3, h4⟩ := src_ok g hs hr hl
  rcases Nat.eq_zero_or_pos m with rfl | hm
  · have hcs : cs = [] := List.length_eq_zero_iff.1 (by rw [hlen]; simp)
    subst hcs
    have hvs : vs = [] := List.length_eq_zero_iff.1 (rels_length h3)
    subst hvs
    obtain ⟨g1, x1⟩ := alloc_none g
    refine ⟨_, w, _, run_append_in hu hj hx hdx (w' := w) h1 (by rw [hz]; exact h2 w (Alike.refl w)) (Nat.le_refl _) (fun _ => rfl) (fun ad _ => rfl) (fun _ => rfl), g1, x1, ?_⟩
    simp only [rel]
    exact .inr ⟨trivial, b, rfl⟩
  · have hfo : ∀ w', Alike w w' → (Builtin.firstCells j.size 0 (.slice b 0 0)).run P w' = .ok ⟨[]⟩ w' := fun w' _ => by
      cases b with
      | none => exact run_firstCells_none (P := P) w' _ 0 0 0
      | some ad =>
        have := run_firstCells_some (P := P) w' j.size 0 ad 0 0 [] (by simp) (fun j v hv => by simp at hv)
        simpa using this
    obtain ⟨zr, cap, e1, e2, e3⟩ := run_append_out (w := w) (ty := ty) hu hj hx hdx (base := b) (n := 0) (cap := 0) h1 (by omega) (by simpa using hb) (by simpa using hfit) (by rw [hz]; exact h2) hfo
    obtain ⟨g1, x1⟩ := grown_row (w := w.drew) (g.alike (Alike.drew w)) (z := zr) (e := e) (m := cap - (0 + m)) (cs := []) (vs := []) (by simp [rels]) (fun v h => by simp at h) rfl h3 h4 hlim
    refine ⟨_, _, _, e3, g1, (Ext.alike (Alike.drew w)).trans g (g.alike (Alike.drew w)) x1, ?_⟩
    simp only [rel, Place.upd_same]
    refine .inl ⟨cap, by simp, by omega, ?_⟩
    have hvl := rels_length h3
    have hzl : zr.size = z := by rw [e1]; simp [hj.len, hz]
    rw [row_size, hzl, hvl, hlen]
    simpa using cap_fits (n := 0) (z := z) e2

theorem XOp.appendN (T : Tab P) {x y : Operand} {t e tx : TypeId} {i j ix : TI} {m z l : Nat} {p c : AV} {cs : List AV} (hx : opndO env x = some p) (hp : isEmp p = true) (hy : opndO env y = some c)
    (hT : tyAt T.l t = some i) (hd : i.d = .slice e) (hE : tyAt T.l e = some j) (hz : j.size = z) (hX : tyAt T.l tx = some ix) (hcx : isCat ix.d = true) (hb : Nat.blt 0 j.bytes = true)
    (hs : ASrc H z c m cs) (hfit : m * j.bytes ≤ 140737488355328) (hl : H.length = l) (h : snocO H (some ⟨cs, true⟩) = some H') :
    XOp P G env H ⟨d, .call ⟨.builtin .append, ⟨[x, y]⟩, ⟨[t, tx]⟩⟩, ty, pos, after, gu⟩ (.slc l 0 m z) H' := by
  refine ⟨fun K ρ w a g he => ?_⟩
  obtain ⟨h1, h2⟩ := rel_opnd he x
  obtain ⟨h3, h4⟩ := rel_opnd he y
  rw [opndO_eq hx] at h1 h2
  rw [opndO_eq hy] at h3 h4
  obtain ⟨b, hv⟩ := isEmp_rel hp h2
  obtain ⟨u, w', ρ', e1, e2, e3, e4⟩ := append_new T g (b := b) (ty := ty) hT hd hE hz hX hcx hb hfit hs h4 h3
  have := snocO_eq h
  subst this
  subst hl
  rw [run_append_op, hv, e1]
  exact ⟨K, ρ', e2, e3, e4, by simp [AV.lim]⟩

/-- Behind what is there. -/
theorem XOp.appendO (T : Tab P) {x y : Operand} {t e tx : TypeId} {i j ix : TI} {n m z l l' : Nat} {c : AV} {cells cs cells' : List AV} (hx : opndO env x = some (.slc l 0 n z)) (hy : opndO env y = some c)
    (hT : tyAt T.l t = some i) (hd : i.d = .slice e) (hE : tyAt T.l e = some j) (hz : j.size = z) (hX : tyAt T.l tx = some ix) (hcx : isCat ix.d = true) (hb : Nat.blt 0 j.bytes = true)
    (ho : H.get l = some ⟨cells, true⟩) (hn : cells.length = n * z)
    (hs : ASrc H z c m cs) (hfit : (n + m) * j.bytes ≤ 140737488355328) (hcc : cells ++ cs = cells') (hl : H.length = l') (h1 : setO H l none = some H1) (h : snocO H1 (some ⟨cells', true⟩) = some H') :
    XOp P G env H ⟨d, .call ⟨.builtin .append, ⟨[x, y]⟩, ⟨[t, tx]⟩⟩, ty, pos, after, gu⟩ (.slc l' 0 (n + m) z) H' := by
  refine ⟨fun K ρ w a g he => ?_⟩
  obtain ⟨x1, x2⟩ := rel_opnd he x
  obtain ⟨x3, x4⟩ := rel_opnd he y
  rw [opndO_eq hx] at x1 x2
  rw [opndO_eq hy] at x3 x4
  have := snocO_eq h
  subst this
  have := setO_eq h1
  subst this
  subst hl
  subst hcc
  have hlt := Heap.get_lt ho
  have hu : P.underlying t = some (.slice e) := T.desc hT hd
  obtain ⟨dx, hxx, hdx⟩ := (T.is hX).run_cat hcx
  have hj := T.is hE
  obtain ⟨hlen, hlim, vs, y1, y2, y3, y4⟩ := src_ok g hs x4 x3
  have hk : (H.set l none ++ [some (⟨cells ++ cs, true⟩ : AObj)]).length = H.length + 1 := by simp
  have hk0 : (H.set l none).length = H.length := by simp
  rw [run_append_op]
  simp only [rel] at x2
  rcases x2 with ⟨cap, hv, hc1, hc2⟩ | ⟨rfl, b, hv⟩
  · rw [hv]
    rcases Nat.lt_or_ge cap (n + m) with hout | hroom
    ·
      obtain ⟨hcl, hcv⟩ := lies_vals g (l := l) (k := 0) (m := n * z) (cs := cells) ho (by simp [← hn])
      have hold : ∃ olds, rels K ρ cells olds ∧ (∀ v ∈ olds, v.one = true) ∧ ∀ w', Alike w w' → (Builtin.firstCells j.size n (.slice (some ⟨(ρ l).b, (ρ l).o + 0, none⟩) n cap)).run P w' = .ok ⟨olds⟩ w' := by
        have cellw : ∀ {w'}, Alike w w' → ∀ ad, w'.cell? ad = w.cell? ad := fun {w'} hw ad => by unfold World.cell?; rw [hw.heap]
        rcases g.obj l _ ho with hL | ⟨h0, _, _⟩
        · obtain ⟨olds, k1, k2, k3⟩ := hcv hL
          refine ⟨olds, k2, k3, fun w' hw => ?_⟩
          have := run_firstCells_some (P := P) w' j.size n ⟨(ρ l).b, (ρ l).o + 0, none⟩ n cap olds (by rw [rels_length k2, hn, hz]) (fun i v hv => by rw [add_at, cellw hw]; exact k1 i v hv)
          simpa using this
        · simp only [] at h0
          subst h0
          refine ⟨[], by simp [rels], fun v h => by simp at h, fun w' hw => ?_⟩
          have := run_firstCells_some (P := P) w' j.size n ⟨(ρ l).b, (ρ l).o + 0, none⟩ n cap [] (by rw [hz, ← hn]; rfl) (fun i v hv => by simp at hv)
          simpa using this
      obtain ⟨olds, q1, q2, q3⟩ := hold
      obtain ⟨zr, cap', e1, e2, e3⟩ := run_append_out (w := w) (ty := ty) hu hj hxx hdx y1 hout (by simpa using hb) hfit (by rw [hz]; exact y2) q3
      have gk := (g.alike (Alike.drew w)).kill l
      obtain ⟨g1, e4⟩ := grown_row (w := w.drew) gk (z := zr) (e := e) (m := cap' - (n + m)) q1 q2 (by rw [hk0]; exact hcl) y3 y4 (by rw [hk0]; exact hlim)
      rw [hk0] at g1 e4
      rw [e3]
      have ex1 : Ext K ρ H w K ρ (H.set l none) w.drew := (Ext.alike (Alike.drew w)).trans g (g.alike (Alike.drew w)) (Ext.kill l)
      refine ⟨K, _, g1, ex1.trans g gk e4, ?_, by simp [AV.lim]⟩
      simp only [rel, Place.upd_same]
      refine .inl ⟨cap', rfl, e2, ?_⟩
      have hvl := rels_length y3
      have hol := rels_length q1
      have hzl : zr.size = z := by rw [e1]; simp [hj.len, hz]
      rw [row_size, hzl, hvl, hlen, hol, hn]
      exact cap_fits e2
    ·
      obtain ⟨g1, e1⟩ := reborn g ho rfl
      have hget : Heap.get (H.set l none ++ [some (⟨cells, true⟩ : AObj)]) H.length = some ⟨cells, true⟩ := by
        rw [Heap.get_append_right (by simp)]; simp [Heap.get]
      have hl1 : (H.set l none ++ [some (⟨cells, true⟩ : AObj)]).length = H.length + 1 := by simp
      have hcz : n * z + m * z ≤ cap * z := by rw [← Nat.add_mul]; exact Nat.mul_le_mul_right _ hroom
      obtain ⟨g2, e2⟩ := grow_obj g1 hget rfl (cs := cs) (vs := vs) (rels_mono (fun _ _ h => h) e1.plc cs vs hlim y3) (AV.lims_mono (by simp) cs hlim) y4 (by
        rw [Place.upd_same]; simp only []; omega)
      have hset : (H.set l none ++ [some (⟨cells, true⟩ : AObj)]).set H.length (some ⟨cells ++ cs, true⟩) = H.set l none ++ [some ⟨cells ++ cs, true⟩] := by
        rw [List.set_append_right _ _ (by simp)]; simp
      rw [Place.upd_same] at g2 e2
      simp only [] at g2 e2
      rw [hset] at g2 e2
      have hvl := rels_length y3
      have hst : ∀ ad, some (⟨(ρ l).b, (ρ l).o + 0, none⟩ : Addr) = some ad → (storeCells (ad.add (n * j.size)) vs).run P w = .ok () (puts w (ρ l).b ((ρ l).o + cells.length) vs) := by
        intro ad hh
        cases hh
        rw [add_at, hz, ← hn, Nat.add_zero]
        rcases g.obj l _ ho with hL | ⟨h0, _, h3⟩
        · obtain ⟨row, t', fr, a1, a2, a3, a4, a5, a6, a7, a8⟩ := hL
          have := run_puts (P := P) (b := (ρ l).b) (t := t') (fr := fr) vs w ((ρ l).o + cells.length) 0 row a1 a2 (by omega) y4
          simpa using this
        · have : vs = [] := List.length_eq_zero_iff.1 (by rw [hvl, hlen]; omega)
          subst this
          rfl
      rw [run_append_in hu hj hxx hdx (w' := puts w (ρ l).b ((ρ l).o + cells.length) vs) y1 (by rw [hz]; exact y2 w (Alike.refl w)) hroom (fun h => by cases h) hst (fun h => by cases h)]
      refine ⟨K, _, g2, e1.trans g g1 e2, ?_, by simp [AV.lim]⟩
      simp only [rel, Place.upd_same]
      exact .inl ⟨cap, rfl, hroom, hc2⟩
  · have hc0 : cells = [] := List.length_eq_zero_iff.1 (by rw [hn]; simp)
    subst hc0
    rw [hv]
    have hs' : rel K ρ c (a.eval y) := x4
    have gk := g.kill l

    have : ∃ u w' ρ', (Builtin.append_ #[t, tx] ty #[.slice b 0 0, a.eval y]).run P w = .ok u w' ∧ Good G K ρ' (H.set l none ++ [some ⟨cs, true⟩]) w' ∧ Ext K ρ (H.set l none) w K ρ' (H.set l none ++ [some ⟨cs, true⟩]) w' ∧ rel K ρ' (.slc H.length 0 m z) u := by
      rcases Nat.eq_zero_or_pos m with rfl | hm
      · have hcs : cs = [] := List.length_eq_zero_iff.1 (by rw [hlen]; simp)
        subst hcs
        have hvs : vs = [] := List.length_eq_zero_iff.1 (rels_length y3)
        subst hvs
        obtain ⟨g1, x1⟩ := alloc_none gk
        rw [hk0] at g1 x1
        refine ⟨_, w, _, run_append_in hu hj hxx hdx (w' := w) y1 (by rw [hz]; exact y2 w (Alike.refl w)) (Nat.le_refl _) (fun _ => rfl) (fun ad _ => rfl) (fun _ => rfl), g1, x1, ?_⟩
        simp only [rel]
        exact .inr ⟨trivial, b, rfl⟩
      · have hfo : ∀ w', Alike w w' → (Builtin.firstCells j.size 0 (.slice b 0 0)).run P w' = .ok ⟨[]⟩ w' := fun w' _ => by
          cases b with
          | none => exact run_firstCells_none (P := P) w' _ 0 0 0
          | some ad =>
            have := run_firstCells_some (P := P) w' j.size 0 ad 0 0 [] (by simp) (fun j v hv => by simp at hv)
            simpa using this
        obtain ⟨zr, cap, e1, e2, e3⟩ := run_append_out (w := w) (ty := ty) hu hj hxx hdx (base := b) (n := 0) (cap := 0) y1 (by omega) (by simpa using hb) (by simpa using hfit) (by rw [hz]; exact y2) hfo
        obtain ⟨g1, x1⟩ := grown_row (w := w.drew) (gk.alike (Alike.drew w)) (z := zr) (e := e) (m := cap - (0 + m)) (cs := []) (vs := []) (by simp [rels]) (fun v h => by simp at h) rfl y3 y4 (by rw [hk0]; exact hlim)
        rw [hk0] at g1 x1
        refine ⟨_, _, _, e3, g1, (Ext.alike (Alike.drew w)).trans gk (gk.alike (Alike.drew w)) x1, ?_⟩
        simp only [rel, Place.upd_same]
        refine .inl ⟨cap, by simp, by omega, ?_⟩
        have hvl := rels_length y3
        have hzl : zr.size = z := by rw [e1]; simp [hj.len, hz]
        rw [row_size, hzl, hvl, hlen]
        simpa using cap_fits (n := 0) (z := z) e2
    obtain ⟨u, w', ρ', e1, e2, e3, e4⟩ := this
    rw [e1, Nat.zero_add]
    exact ⟨K, ρ', e2, (Ext.kill l).trans g gk e3, e4, by simp [AV.lim]⟩
end ops
end Go.Ax
namespace Go.Ax
variable {P : Program} {G K : Mem} {ρ : Place} {H H' H1 : Heap} {w w' : World} {env : Env} {a : Act} {n : Nat}

def partsO (env : Env) : List (Nat × Operand) → Option (List (Nat × AV))
  | [] => some []
  | (i, x) :: xs => match opndO env x with
    | some v => match partsO env xs with
      | some vs => some ((i, v) :: vs)
      | none => none
    | none => none

def fillO (pl : Nat → Option (Nat × TI)) : List AV → List (Nat × AV) → Option (List AV)
  | cells, [] => some cells
  | cells, (k, c) :: rest => match pl k with
    | some (off, i) => match cellsO i c with
      | some cs => match spliceO cells off cs with
        | some r => fillO pl r rest
        | none => none
      | none => none
    | none => none

theorem fold_put (vs : List Value) : ∀ (row : Array Value) (off j : Nat), (vs.zipIdx j).foldl (fun (cs : Array Value) (p : Value × Nat) => cs.setIfInBounds (off + p.2) p.1) row = rowPut row (off + j) vs := by
  induction vs with
  | nil => intro row off j; rfl
  | cons v vs ih => intro row off j; simp only [List.zipIdx_cons, List.foldl_cons, rowPut]; rw [ih]; rfl

theorem rels_row {cs : List AV} {vs : List Value} (hl : vs.length = cs.length) (h : ∀ (i : Nat) c, cs[i]? = some c → ∃ v, vs[i]? = some v ∧ rel K ρ c v) : rels K ρ cs vs := by
  induction cs generalizing vs with
  | nil => simp only [rels]; exact List.length_eq_zero_iff.1 hl
  | cons c cs ih =>
    cases vs with
    | nil => simp at hl
    | cons v vs =>
      simp only [rels]
      obtain ⟨u, h1, h2⟩ := h 0 c rfl
      simp at h1; subst h1
      exact ⟨v, vs, rfl, h2, ih (by simpa using hl) (fun i c hc => by have := h (i + 1) c (by simpa using hc); simpa using this)⟩

theorem rels_put {cells cs : List AV} {k : Nat} {row : Array Value} {vs : List Value} (hr : rels K ρ cells row.toList) (h1 : ∀ v ∈ row.toList, v.one = true) (hc : rels K ρ cs vs) (h2 : ∀ v ∈ vs, v.one = true) (hk : k + cs.length ≤ cells.length) :
    rels K ρ (splice cells k cs) (rowPut row k vs).toList ∧ ∀ v ∈ (rowPut row k vs).toList, v.one = true := by
  have hl := rels_length hr
  have hvl := rels_length hc
  simp only [Array.length_toList] at hl
  have hget : ∀ (i : Nat) v, (rowPut row k vs)[i]? = some v → (v ∈ vs) ∨ v ∈ row.toList := fun i v hv => by
    by_cases h : k ≤ i ∧ i < k + vs.length
    · have hlt : i < (rowPut row k vs).size := (Array.getElem?_eq_some_iff.1 hv).1
      rw [rowPut_size] at hlt
      have e : (rowPut row k vs)[i]? = vs[i - k]? := by
        have := rowPut_in vs row k (i - k) (by omega) (by omega)
        rwa [show k + (i - k) = i by omega] at this
      rw [e] at hv
      exact .inl (List.mem_of_getElem? hv)
    · rw [rowPut_out vs row k i (by omega)] at hv
      exact .inr (by rw [← Array.getElem?_toList] at hv; exact List.mem_of_getElem? hv)
  refine ⟨rels_row (by rw [Array.length_toList, rowPut_size, splice_length hk, hl]) fun i c hi => ?_, fun v hv => ?_⟩
  · rcases splice_get hk hi with ⟨i1, i2, i3⟩ | ⟨i1, i2⟩
    · obtain ⟨v, k1, k2⟩ := rels_get hc i3
      refine ⟨v, ?_, k2⟩
      rw [Array.getElem?_toList]
      have := rowPut_in vs row k (i - k) (by omega) (by omega)
      rw [show k + (i - k) = i by omega] at this
      rw [this]; exact k1
    · obtain ⟨v, k1, k2⟩ := rels_get hr i2
      refine ⟨v, ?_, k2⟩
      rw [Array.getElem?_toList, rowPut_out vs row k i (by omega)]
      rwa [Array.getElem?_toList] at k1
  · obtain ⟨i, hi⟩ := List.getElem?_of_mem hv
    rw [Array.getElem?_toList] at hi
    rcases hget i v hi with h | h
    · exact h2 v h
    · exact h1 v h

theorem fill_ok {m : Nat} {pl : Nat → Option (Nat × TI)} {place : Nat → Option (Nat × Nat)} (hp : ∀ k off i, pl k = some (off, i) → place k = some (off, i.size) ∧ (i.agg = false → i.size = 1)) (he : EnvOk K ρ m env a) :
    ∀ {parts : List (Nat × Operand)} {avs : List (Nat × AV)} {cells cells' : List AV} {row : Array Value}, partsO env parts = some avs → fillO pl cells avs = some cells' →
      rels K ρ cells row.toList → (∀ v ∈ row.toList, v.one = true) → AV.lims m cells = true →
      ∃ row', Instr.fill place row (parts.map fun p => (p.1, a.eval p.2)) = some row' ∧ rels K ρ cells' row'.toList ∧ (∀ v ∈ row'.toList, v.one = true) ∧ AV.lims m cells' = true ∧ cells'.length = cells.length
  | [], avs, cells, cells', row, h1, h2, h3, h4, h5 => by
    simp only [partsO, Option.some.injEq] at h1
    subst h1
    simp only [fillO, Option.some.injEq] at h2
    subst h2
    exact ⟨row, rfl, h3, h4, h5, rfl⟩
  | (k, x) :: ps, avs, cells, cells', row, h1, h2, h3, h4, h5 => by
    simp only [partsO] at h1
    split at h1 <;> try (simp at h1; done)
    rename_i c hx
    split at h1 <;> try (simp at h1; done)
    rename_i vs hvs
    simp only [Option.some.injEq] at h1
    subst h1
    simp only [fillO] at h2
    split at h2 <;> try (simp at h2; done)
    rename_i off i hpl
    split at h2 <;> try (simp at h2; done)
    rename_i cs hcs
    split at h2 <;> try (simp at h2; done)
    rename_i r hr
    obtain ⟨rfl, hk⟩ := spliceO_eq hr
    obtain ⟨q1, q2⟩ := hp k off i hpl
    obtain ⟨x1, x2⟩ := rel_opnd he x
    rw [opndO_eq hx] at x1 x2
    obtain ⟨l, e1, e2, e3, e4, e5⟩ := cells_of hcs q2 x2
    obtain ⟨p1, p2⟩ := rels_put (k := off) h3 h4 e2 e3 hk
    have hl5 : AV.lims m (splice cells off cs) = true := lims_of_forall fun j c hj => by
      rcases splice_get hk hj with ⟨_, _, i3⟩ | ⟨_, i2⟩
      · exact lims_get (e5 m x1) i3
      · exact lims_get h5 i2
    obtain ⟨row', f1, f2, f3, f4, f5⟩ := fill_ok hp he hvs h2 p1 p2 hl5
    refine ⟨row', ?_, f2, f3, f4, by rw [f5, splice_length hk]⟩
    have hsz : (a.eval x).cells.size = i.size := by rw [← Array.length_toList, e1, rels_length e2, e4]
    have hrow : row.size = cells.length := by rw [← Array.length_toList]; exact rels_length h3
    simp only [List.map_cons, Instr.fill, q1]
    have hb1 : ((a.eval x).cells.size != i.size || decide (off + (a.eval x).cells.size > row.size)) = false := by
      rw [hsz, hrow]
      simp; omega
    have hfold : Array.foldl (fun (cs : Array Value) (x : Value × Nat) => match x with | (c, j) => cs.setIfInBounds (off + j) c) row (a.eval x).cells.zipIdx = rowPut row off l := by
      rw [← Array.foldl_toList, Array.toList_zipIdx, e1]
      have := fold_put l row off 0
      simpa using this
    simp only [bne] at hb1
    rw [if_neg (by simpa [bne] using hb1)]
    rw [hfold]
    exact f1

def structPl (T : Tab P) (fs : List (Nat × Nat)) (k : Nat) : Option (Nat × TI) := match fs[k]? with
  | some (off, t) => match tyAt T.l t with
    | some j => some (off, j)
    | none => none
  | none => none
def allTys (T : Tab P) : List (Nat × Nat) → Bool
  | [] => true
  | (_, t) :: fs => (match tyAt T.l t with | some _ => true | none => false) && allTys T fs

theorem run_places (T : Tab P) : ∀ (fields : List Field), allTys T (fields.map fun f => (f.offset, f.type)) = true →
    ∃ ps : List (Nat × Nat), (fields.mapM (fun f => do Pure.pure (f.offset, ← sizeOf f.type)) : Sem (List (Nat × Nat))).run P w = .ok ps w ∧
      ∀ (k off : Nat) (i : TI), structPl T (fields.map fun f => (f.offset, f.type)) k = some (off, i) → ps[k]? = some (off, i.size)
  | [], _ => ⟨[], rfl, fun k off i h => by simp [structPl] at h⟩
  | f :: fields, h => by
    simp only [List.map_cons, allTys, Bool.and_eq_true] at h
    obtain ⟨ps, h1, h2⟩ := run_places T fields h.2
    have h3 := h.1
    split at h3
    · rename_i j hj
      refine ⟨(f.offset, j.size) :: ps, ?_, fun k off i hk => ?_⟩
      · rw [List.mapM_cons]
        simp only [Sem.run_bind, (T.is hj).run_sizeOf, Result.andThen_ok, Sem.run_pure]
        rw [h1]
        rfl
      · cases k with
        | zero =>
          simp only [List.map_cons, structPl, List.getElem?_cons_zero, hj, Option.some.injEq, Prod.mk.injEq] at hk
          obtain ⟨rfl, rfl⟩ := hk
          rfl
        | succ k =>
          simp only [List.getElem?_cons_succ]
          refine h2 k off i ?_
          simpa [structPl] using hk
    · cases h3

section ops
variable {d : Option Tmp} {ty : TypeId} {pos : String} {after : Array Edge} {gu : Option (Nat × Bool)} {av : AV}

theorem structPl_one (T : Tab P) {fs : List (Nat × Nat)} {k off : Nat} {i : TI} (h : structPl T fs k = some (off, i)) : i.agg = false → i.size = 1 := by
  unfold structPl at h
  split at h <;> try (simp at h; done)
  split at h <;> try (simp at h; done)
  rename_i j hj
  simp only [Option.some.injEq, Prod.mk.injEq] at h
  obtain ⟨_, rfl⟩ := h
  exact (T.is hj).one

theorem XOp.build (T : Tab P) {t : Nat} {i : TI} {fs : List (Nat × Nat)} {parts : List (Nat × Operand)} {avs : List (Nat × AV)} {cs : List AV} (hp : partsO env parts = some avs) (hT : tyAt T.l t = some i) (hd : i.d = .st fs) (ha : allTys T fs = true)
    (hf : fillO (structPl T fs) i.zero avs = some cs) : XOp P G env H ⟨d, .build t ⟨parts⟩, ty, pos, after, gu⟩ (.agg cs) H := by
  refine ⟨fun K ρ w a g he => ?_⟩
  have hi := T.is hT
  have hdd := hi.desc
  rw [hd] at hdd
  obtain ⟨fields, hu, hfs⟩ := hdd
  obtain ⟨z, k1, k2⟩ := hi.run_zero (w := w)
  obtain ⟨z1, z2, z3⟩ := zeros_ok (K := K) (ρ := ρ) hi.zok
  obtain ⟨ps, p1, p2⟩ := run_places (w := w) T fields.toList (by rw [hfs]; exact ha)
  rw [hfs] at p2
  obtain ⟨row', f1, f2, f3, f4, _⟩ := fill_ok (place := fun k => ps[k]?) (row := z.cells) (fun k off i h => ⟨p2 k off i h, structPl_one T h⟩) he hp hf (by rw [k2]; exact z1) (by rw [k2]; exact z3) (z2 _)
  have hrun : (execOp a.eval ⟨d, .build t ⟨parts⟩, ty, pos, after, gu⟩).run P w = .ok (.value (.agg row')) w := by
    simp only [execOp, Sem.run_bind, Instr.build, k1, Result.andThen_ok, run_underlying' hu]
    rw [Array.mapM_eq_mapM_toList]
    simp only [Sem.run_map]
    rw [p1]
    simp only [Result.andThen_ok]
    have : Instr.fill (fun x => (ps.toArray)[x]?) z.cells ((⟨parts⟩ : Array (Nat × Operand)).map fun x => match x with | (i, x) => (i, a.eval x)).toList = some row' := by
      simpa using f1
    simp only [this]
    rfl
  rw [hrun]
  refine XPost.pure g (Alike.refl w) ?_ (by simpa [AV.lim] using f4)
  simp only [rel]
  exact ⟨row'.toList, rfl, f2, f3⟩

/-- Elements in a row. -/
def rowPl (i : TI) (k : Nat) : Option (Nat × TI) := some (k * i.size, i)

theorem XOp.buildArr (T : Tab P) {t e m : Nat} {i j : TI} {parts : List (Nat × Operand)} {avs : List (Nat × AV)} {cs : List AV} (hp : partsO env parts = some avs) (hT : tyAt T.l t = some i) (hd : i.d = .arr m e) (hE : tyAt T.l e = some j)
    (hf : fillO (rowPl j) i.zero avs = some cs) : XOp P G env H ⟨d, .build t ⟨parts⟩, ty, pos, after, gu⟩ (.agg cs) H := by
  refine ⟨fun K ρ w a g he => ?_⟩
  have hi := T.is hT
  have hu : P.underlying t = some (.array m e) := T.desc hT hd
  obtain ⟨z, k1, k2⟩ := hi.run_zero (w := w)
  obtain ⟨z1, z2, z3⟩ := zeros_ok (K := K) (ρ := ρ) hi.zok
  obtain ⟨row', f1, f2, f3, f4, _⟩ := fill_ok (pl := rowPl j) (place := fun k => some (k * j.size, j.size)) (row := z.cells) (fun k off i h => by
    simp only [rowPl, Option.some.injEq, Prod.mk.injEq] at h; obtain ⟨rfl, rfl⟩ := h; exact ⟨rfl, (T.is hE).one⟩) he hp hf (by rw [k2]; exact z1) (by rw [k2]; exact z3) (z2 _)
  have hrun : (execOp a.eval ⟨d, .build t ⟨parts⟩, ty, pos, after, gu⟩).run P w = .ok (.value (.agg row')) w := by
    simp only [execOp, Sem.run_bind, Instr.build, k1, Result.andThen_ok, run_underlying' hu, (T.is hE).run_sizeOf]
    have : Instr.fill (fun i => some (i * j.size, j.size)) z.cells ((⟨parts⟩ : Array (Nat × Operand)).map fun x => match x with | (i, x) => (i, a.eval x)).toList = some row' := by
      simpa using f1
    simp only [this]
    rfl
  rw [hrun]
  refine XPost.pure g (Alike.refl w) ?_ (by simpa [AV.lim] using f4)
  simp only [rel]
  exact ⟨row'.toList, rfl, f2, f3⟩

theorem zrow_rels {j : TI} (hz : j.zero.all zok = true) (hl : j.zero.length = j.size) (m : Nat) {z : Array Value} (e : m * j.size ≠ 0 → z = ⟨j.zero.map zval⟩) :
    rels K ρ (zrep m j.zero) ((Array.range (m * j.size)).map (fun x => z[x % z.size]!)).toList ∧ (∀ v ∈ ((Array.range (m * j.size)).map (fun x => z[x % z.size]!)).toList, v.one = true) ∧ ∀ k, AV.lims k (zrep m j.zero) = true := by
  have hlen : (zrep m j.zero).length = m * j.size := by rw [zrep_length, hl]
  have hat : ∀ (i : Nat), i < m * j.size → ∃ c v, (zrep m j.zero)[i]? = some c ∧ z[i % z.size]! = v ∧ v.one = true ∧ rel K ρ c v ∧ ∀ k, c.lim k = true := fun i hi => by
    have hc : ∃ c, (zrep m j.zero)[i]? = some c := ⟨_, List.getElem?_eq_getElem (by omega)⟩
    obtain ⟨c, hc⟩ := hc
    obtain ⟨v, h1, h2, h3, h4⟩ := zrow_ok (K := K) (ρ := ρ) hz hl m (e (by omega)) i hc
    exact ⟨c, v, hc, h1, h2, h3, h4⟩
  refine ⟨rels_row (by simp [hlen]) fun i c hc => ?_, fun v hv => ?_, fun k => lims_of_forall fun i c hc => ?_⟩
  · have hi : i < m * j.size := by rw [← hlen]; exact (List.getElem?_eq_some_iff.1 hc).1
    obtain ⟨c', v, h1, h2, h3, h4, _⟩ := hat i hi
    rw [hc] at h1
    cases h1
    refine ⟨v, ?_, h4⟩
    simp [hi, h2]
  · simp only [Array.toList_map, List.mem_map, Array.mem_toList_iff, Array.mem_range] at hv
    obtain ⟨i, hi, rfl⟩ := hv
    obtain ⟨c', v, h1, h2, h3, h4, _⟩ := hat i hi
    rw [h2]; exact h3
  · have hi : i < m * j.size := by rw [← hlen]; exact (List.getElem?_eq_some_iff.1 hc).1
    obtain ⟨c', v, h1, h2, h3, h4, h5⟩ := hat i hi
    rw [hc] at h1
    cases h1
    exact h5 k

theorem run_buildSlice (T : Tab P) (he : EnvOk K ρ H.length env a) {t e m : Nat} {i j : TI} {parts : List (Nat × Operand)} {avs : List (Nat × AV)} {cs : List AV} (hp : partsO env parts = some avs) (hT : tyAt T.l t = some i) (hd : i.d = .slice e) (hE : tyAt T.l e = some j)
    (hm : Nat.ble (m * j.size) 16777216 = true) (hf : fillO (rowPl j) (zrep m j.zero) avs = some cs) :
    ∃ row : Array Value, (execOp a.eval ⟨d, .buildSlice t m ⟨parts⟩, ty, pos, after, gu⟩).run P w = .ok (.value (.slice (some ⟨w.heap.size, 0, none⟩) m m)) (World.more w (.cells row e)) ∧
      rels K ρ cs row.toList ∧ (∀ v ∈ row.toList, v.one = true) ∧ AV.lims H.length cs = true ∧ cs.length = m * j.size := by
  have hu : P.underlying t = some (.slice e) := T.desc hT hd
  have hj := T.is hE
  obtain ⟨z, k1, k2⟩ := hj.run_zero (w := w)
  have key : ∀ zr : Array Value, (m * j.size ≠ 0 → zr = ⟨j.zero.map zval⟩) → ∃ row', Instr.fill (fun i => some (i * j.size, j.size)) ((Array.range (m * j.size)).map (fun x => zr[x % zr.size]!)) ((⟨parts⟩ : Array (Nat × Operand)).map fun x => match x with | (i, x) => (i, a.eval x)).toList = some row' ∧
      rels K ρ cs row'.toList ∧ (∀ v ∈ row'.toList, v.one = true) ∧ AV.lims H.length cs = true ∧ cs.length = m * j.size := by
    intro zr hzr
    obtain ⟨z1, z2, z3⟩ := zrow_rels (K := K) (ρ := ρ) hj.zok hj.len m hzr
    obtain ⟨row', f1, f2, f3, f4, f5⟩ := fill_ok (pl := rowPl j) (place := fun k => some (k * j.size, j.size)) (fun k off i h => by
      simp only [rowPl, Option.some.injEq, Prod.mk.injEq] at h; obtain ⟨rfl, rfl⟩ := h; exact ⟨rfl, hj.one⟩) he hp hf z1 z2 (z3 _)
    exact ⟨row', by simpa using f1, f2, f3, f4, by rw [f5, zrep_length, hj.len]⟩
  have hm' : ¬ (m * j.size > 2 ^ 24) := by have : m * j.size ≤ 16777216 := by simpa using hm
                                           omega
  by_cases h0 : m * j.size = 0
  · obtain ⟨row', f1, f2⟩ := key #[] (fun h => absurd h0 h)
    refine ⟨row', ?_, f2⟩
    simp only [execOp, Sem.run_bind, Instr.buildSlice, Result.andThen_ok, run_underlying' hu, hj.run_sizeOf, h0, if_true, Sem.run_pure]
    rw [h0] at f1
    rw [if_neg (by omega)]
    simp only [Sem.run_bind, Sem.run_pure, Result.andThen_ok]
    simp only [f1]
    rfl
  · obtain ⟨row', f1, f2⟩ := key z.cells (fun _ => k2)
    refine ⟨row', ?_, f2⟩
    simp only [execOp, Sem.run_bind, Instr.buildSlice, Result.andThen_ok, run_underlying' hu, hj.run_sizeOf, hm', if_false, h0, k1, Sem.run_pure]
    simp only [f1]
    rfl

/-- A slice without elements. -/
theorem XOp.buildSlice0 (T : Tab P) {t e : Nat} {i j : TI} (hT : tyAt T.l t = some i) (hd : i.d = .slice e) (hE : tyAt T.l e = some j) :
    XOp P G env H ⟨d, .buildSlice t 0 ⟨[]⟩, ty, pos, after, gu⟩ .emp H := by
  refine ⟨fun K ρ w a g he => ?_⟩
  obtain ⟨row, h1, _⟩ := run_buildSlice (w := w) (d := d) (ty := ty) (pos := pos) (after := after) (gu := gu) (m := 0) T he (parts := []) (avs := []) rfl hT hd hE (by simp) (by simp [zrep, fillO]; rfl)
  rw [h1]
  obtain ⟨g1, x1⟩ := alloc_any g (.cells row e)
  exact ⟨K, ρ, g1, x1, by simp only [rel]; exact ⟨_, rfl⟩, rfl⟩

/-- A slice that stays as it is. -/
theorem XOp.buildSliceF (T : Tab P) {t e m : Nat} {i j : TI} {parts : List (Nat × Operand)} {avs : List (Nat × AV)} {cs : List AV} (hp : partsO env parts = some avs) (hT : tyAt T.l t = some i) (hd : i.d = .slice e) (hE : tyAt T.l e = some j)
    (hm : Nat.ble (m * j.size) 16777216 = true) (hf : fillO (rowPl j) (zrep m j.zero) avs = some cs) : XOp P G env H ⟨d, .buildSlice t m ⟨parts⟩, ty, pos, after, gu⟩ (.lst m cs) H := by
  refine ⟨fun K ρ w a g he => ?_⟩
  obtain ⟨row, h1, h2, h3, h4, _⟩ := run_buildSlice (w := w) (d := d) (ty := ty) (pos := pos) (after := after) (gu := gu) T he hp hT hd hE hm hf
  rw [h1]
  obtain ⟨g1, x1⟩ := alloc_frozen g row e (0, 0)
  refine ⟨_, ρ, g1, x1, ?_, by simpa [AV.lim] using h4⟩
  simp only [rel]
  refine ⟨_, m, rfl, Nat.le_refl _, .inr ⟨_, 0, rfl, ?_⟩⟩
  have hle := x1.le g
  have : ∀ (cs : List AV) (off : Nat), (∀ (i : Nat) c, cs[i]? = some c → ∃ v, row[off + i]? = some v ∧ v.one = true ∧ rel (K.upd w.heap.size row) ρ c v) → relAt (K.upd w.heap.size row) ρ cs w.heap.size off := by
    intro cs
    induction cs with
    | nil => intro off _; simp [relAt]
    | cons c cs ih =>
      intro off h
      simp only [relAt]
      obtain ⟨v, k1, k2, k3⟩ := h 0 c rfl
      exact ⟨⟨row, v, by simp [Mem.upd], by simpa using k1, k2, k3⟩, ih (off + 1) (fun i c hc => by have := h (i + 1) c (by simpa using hc); rwa [show off + 1 + i = off + (i + 1) by omega])⟩
  refine this cs 0 fun i c hc => ?_
  obtain ⟨v, k1, k2⟩ := rels_get h2 hc
  exact ⟨v, by rw [Nat.zero_add, ← Array.getElem?_toList]; exact k1, h3 v (List.mem_of_getElem? k1), rel_mono hle (fun _ _ => rfl) c v (lims_get h4 hc) k2⟩

/-- A slice of its own. -/
theorem XOp.buildSliceO (T : Tab P) {t e m l z : Nat} {i j : TI} {parts : List (Nat × Operand)} {avs : List (Nat × AV)} {cs : List AV} (hp : partsO env parts = some avs) (hT : tyAt T.l t = some i) (hd : i.d = .slice e) (hE : tyAt T.l e = some j) (hz : j.size = z)
    (hm : Nat.ble (m * j.size) 16777216 = true) (hf : fillO (rowPl j) (zrep m j.zero) avs = some cs) (hl : H.length = l) (h : snocO H (some ⟨cs, true⟩) = some H') : XOp P G env H ⟨d, .buildSlice t m ⟨parts⟩, ty, pos, after, gu⟩ (.slc l 0 m z) H' := by
  refine ⟨fun K ρ w a g he => ?_⟩
  obtain ⟨row, h1, h2, h3, h4, h5⟩ := run_buildSlice (w := w) (d := d) (ty := ty) (pos := pos) (after := after) (gu := gu) T he hp hT hd hE hm hf
  rw [h1]
  have := snocO_eq h
  subst this
  subst hl
  have hs : row.size = cs.length := by rw [← Array.length_toList]; exact rels_length h2
  obtain ⟨g1, x1⟩ := alloc_obj g row e (0, 0) (unmarked00 row) ⟨cs, true⟩ (by simp [hs]) (fun h => by cases h) (fun i c hc => by
    obtain ⟨v, k1, k2⟩ := rels_get h2 hc
    exact ⟨lims_get h4 hc, v, by rw [← Array.getElem?_toList]; exact k1, h3 v (List.mem_of_getElem? k1), k2⟩)
  refine ⟨K, _, g1, x1, ?_, by simp [AV.lim]⟩
  simp only [rel, Place.upd_same]
  exact .inl ⟨m, rfl, Nat.le_refl _, by rw [hs, h5, hz]; omega⟩

/-- make -/
theorem XOp.makeSlice (T : Tab P) {t e m l z : Nat} {i j : TI} {k1 k2 : IntKind} {x y : Operand} {n1 n2 : Int} {cs : List AV} (hx : opndO env x = some (.val (.int k1 n1))) (hy : opndO env y = some (.val (.int k2 n2))) (h1 : n1 = m) (h2 : n2 = m)
    (hT : tyAt T.l t = some i) (hd : i.d = .slice e) (hE : tyAt T.l e = some j) (hz : j.size = z) (hfit : j.bytes * m ≤ 281474976710656) (hb : m ≤ 9223372036854775807) (hc : zrep m j.zero = cs) (hl : H.length = l) (h : snocO H (some ⟨cs, true⟩) = some H') :
    XOp P G env H ⟨d, .makeSlice t x y, ty, pos, after, gu⟩ (.slc l 0 m z) H' := by
  refine ⟨fun K ρ w a g he => ?_⟩
  obtain ⟨_, x2⟩ := rel_opnd he x
  obtain ⟨_, y2⟩ := rel_opnd he y
  rw [opndO_eq hx] at x2
  rw [opndO_eq hy] at y2
  simp only [rel] at x2 y2
  subst h1 h2
  have := snocO_eq h
  subst this
  subst hl
  subst hc
  have hu : P.underlying t = some (.slice e) := T.desc hT hd
  have hj := T.is hE
  obtain ⟨zv, q1, q2⟩ := hj.run_zero (w := w)
  obtain ⟨info, i1, i2⟩ := hj.run_typeInfo (w := w)
  have hw : IntKind.i64.wrap (m : Int) = m := wrap_in (by simp only [IntKind.InR]; omega)
  have htl : ¬ ((281474976710656 : Int) < (j.bytes : Int) * (m : Int)) := by
    have h5 := Int.natCast_mul j.bytes m
    omega
  have hneg : ¬ ((m : Int) < 0) := by omega
  have key : ∀ zr : Array Value, (m * j.size ≠ 0 → zr = ⟨j.zero.map zval⟩) →
      (execOp a.eval ⟨d, .makeSlice t x y, ty, pos, after, gu⟩).run P w = .ok (.value (.slice (some ⟨w.heap.size, 0, none⟩) m m)) (World.more w (.cells ((Array.range (m * j.size)).map (fun x => zr[x % zr.size]!)) e)) →
      XUpon P (XPost G K ρ H w (.slc H.length 0 m z) (H ++ [some ⟨zrep m j.zero, true⟩])) ((execOp a.eval ⟨d, .makeSlice t x y, ty, pos, after, gu⟩).run P w) := by
    intro zr hzr hrun
    rw [hrun]
    obtain ⟨z1, z2, z3⟩ := zrow_rels (K := K) (ρ := ρ) hj.zok hj.len m hzr
    have hs : ((Array.range (m * j.size)).map (fun x => zr[x % zr.size]!)).size = m * j.size := by rw [Array.size_map, Array.size_range]
    obtain ⟨g1, e1⟩ := alloc_obj g ((Array.range (m * j.size)).map (fun x => zr[x % zr.size]!)) e (0, 0) (unmarked00 _) ⟨zrep m j.zero, true⟩ (by rw [hs]; simp [zrep_length, hj.len]) (fun h => by cases h) (fun i c hc => by
      obtain ⟨v, k1, k2⟩ := rels_get z1 hc
      exact ⟨lims_get (z3 _) hc, v, by rw [← Array.getElem?_toList]; exact k1, z2 v (List.mem_of_getElem? k1), k2⟩)
    refine ⟨K, _, g1, e1, ?_, by simp [AV.lim]⟩
    simp only [rel, Place.upd_same]
    exact .inl ⟨m, rfl, Nat.le_refl _, by rw [hs, hz]; omega⟩
  by_cases h0 : m * j.size = 0
  · refine key #[] (fun h => absurd h0 h) ?_
    simp [execOp, Instr.makeSlice, run_underlying' hu, x2, y2, asInt, asIntOf, i1, i2, hw, htl, hneg, hj.run_sizeOf, h0, newRow, World.more]
  · refine key zv.cells (fun _ => q2) ?_
    simp [execOp, Instr.makeSlice, run_underlying' hu, x2, y2, asInt, asIntOf, i1, i2, hw, htl, hneg, hj.run_sizeOf, h0, q1, newRow, World.more]
end ops
end Go.Ax
