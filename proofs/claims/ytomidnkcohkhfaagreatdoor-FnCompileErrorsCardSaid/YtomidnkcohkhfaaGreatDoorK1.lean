/-
  A book of what memory holds, kept beside the machine: values as they are known, objects apart from each other.
-/
import Derived.Orders
namespace Go
/-- A value that fits in one cell. -/
def Value.one : Value → Bool
  | .agg _ | .tuple _ => false
  | _ => true
end Go
namespace Go.Ax

/-! ## floats up to NaN -/
def isNaNb : FloatKind → Nat → Bool
  | .f32, b => Nat.blt 2139095040 (b % 2147483648)
  | .f64, b => Nat.blt 9218868437227405312 (b % 9223372036854775808)
def nanb : FloatKind → Nat
  | .f32 => 2143289344
  | .f64 => 9221120237041090560
def bound : FloatKind → Nat
  | .f32 => 4294967296
  | .f64 => 18446744073709551616
def canon (k : FloatKind) (b : Nat) : Nat := bif isNaNb k b then nanb k else b

abbrev Mem := Nat → Option (Array Value)
/-- Where an object lies: its block, its first cell, how many cells from there are its own. -/
structure Plc where
  b : Nat
  o : Nat
  e : Nat
  deriving Inhabited
abbrev Place := Nat → Plc

inductive AV where
  /-- exactly this value -/
  | val (v : Value)
  /-- a float; NaNs are not told apart -/
  | flt (k : FloatKind) (b : Nat)
  /-- a slice of n elements over memory that stays as it is: its cells -/
  | lst (n : Nat) (cs : List AV)
  /-- a slice without length and capacity -/
  | emp
  /-- a pointer to memory that stays as it is: the cells from there on -/
  | fptr (cs : List AV)
  /-- a pointer to the cell k of the object l -/
  | ptr (l k : Nat)
  /-- a slice of n elements of z cells, from the cell k of the object l on -/
  | slc (l k n z : Nat)
  | agg (cs : List AV)
  | tup (cs : List AV)
  | fn (f : FuncId) (cap : List AV)
  | ifc (t : TypeId) (x : AV)
  | any
  deriving Inhabited

mutual
def rel (K : Mem) (ρ : Place) : AV → Value → Prop
  | .val u, v => v = u
  | .flt k b, v => ∃ b', v = .float k b' ∧ b' < bound k ∧ canon k b' = b
  | .lst n cs, v => ∃ a cap, v = .slice a n cap ∧ n ≤ cap ∧ (cs = [] ∨ ∃ b o, a = some ⟨b, o, none⟩ ∧ relAt K ρ cs b o)
  | .emp, v => ∃ a, v = .slice a 0 0
  | .fptr cs, v => ∃ b o, v = .pointer (some ⟨b, o, none⟩) ∧ relAt K ρ cs b o
  | .ptr l k, v => v = .pointer (some ⟨(ρ l).b, (ρ l).o + k, none⟩)
  | .slc l k n z, v => (∃ cap, v = .slice (some ⟨(ρ l).b, (ρ l).o + k, none⟩) n cap ∧ n ≤ cap ∧ k + cap * z ≤ (ρ l).e) ∨ (n = 0 ∧ ∃ b, v = .slice b 0 0)
  | .agg cs, v => ∃ l, v = .agg ⟨l⟩ ∧ rels K ρ cs l ∧ ∀ u ∈ l, u.one = true
  | .tup cs, v => ∃ l, v = .tuple ⟨l⟩ ∧ rels K ρ cs l
  | .fn f cap, v => ∃ l, v = .func (.func f) #[] ⟨l⟩ ∧ rels K ρ cap l
  | .ifc t x, v => ∃ u, v = .iface t u ∧ rel K ρ x u
  | .any, _ => True
def relAt (K : Mem) (ρ : Place) : List AV → Nat → Nat → Prop
  | [], _, _ => True
  | c :: cs, b, o => (∃ row v, K b = some row ∧ row[o]? = some v ∧ v.one = true ∧ rel K ρ c v) ∧ relAt K ρ cs b (o + 1)
def rels (K : Mem) (ρ : Place) : List AV → List Value → Prop
  | [], l => l = []
  | c :: cs, l => ∃ v l', l = v :: l' ∧ rel K ρ c v ∧ rels K ρ cs l'
end

mutual
def AV.lim (m : Nat) : AV → Bool
  | .ptr l _ | .slc l _ _ _ => Nat.blt l m
  | .lst _ cs | .fptr cs | .agg cs | .tup cs | .fn _ cs => AV.lims m cs
  | .ifc _ x => x.lim m
  | .val _ | .flt _ _ | .emp | .any => true
def AV.lims (m : Nat) : List AV → Bool
  | [] => true
  | c :: cs => c.lim m && AV.lims m cs
end

mutual
def AV.kfree : AV → Bool
  | .lst _ cs => cs.isEmpty
  | .fptr _ => false
  | .agg cs | .tup cs | .fn _ cs => AV.kfrees cs
  | .ifc _ x => x.kfree
  | .val _ | .flt _ _ | .emp | .any | .ptr _ _ | .slc _ _ _ _ => true
def AV.kfrees : List AV → Bool
  | [] => true
  | c :: cs => c.kfree && AV.kfrees cs
end

def Mem.le (K K' : Mem) : Prop := ∀ b row, K b = some row → K' b = some row

mutual
theorem rel_mono {K K' : Mem} {ρ ρ' : Place} {m : Nat} (hK : K.le K') (hρ : ∀ l, l < m → ρ' l = ρ l) : ∀ (c : AV) (v : Value), c.lim m = true → rel K ρ c v → rel K' ρ' c v
  | .val _, _, _, h => by simpa [rel] using h
  | .flt _ _, _, _, h => by simpa [rel] using h
  | .lst n cs, v, hb, h => by
    simp only [rel] at h ⊢
    obtain ⟨a, cap, h1, h2, h3⟩ := h
    refine ⟨a, cap, h1, h2, ?_⟩
    rcases h3 with h3 | ⟨b, o, h4, h5⟩
    · exact .inl h3
    · exact .inr ⟨b, o, h4, relAt_mono hK hρ cs b o (by simpa [AV.lim] using hb) h5⟩
  | .emp, _, _, h => by simpa [rel] using h
  | .fptr cs, v, hb, h => by
    simp only [rel] at h ⊢
    obtain ⟨b, o, h4, h5⟩ := h
    exact ⟨b, o, h4, relAt_mono hK hρ cs b o (by simpa [AV.lim] using hb) h5⟩
  | .ptr l k, v, hb, h => by
    have hl : l < m := by simpa [AV.lim] using hb
    simp only [rel] at h ⊢
    rw [hρ l hl]; exact h
  | .slc l k n z, v, hb, h => by
    have hl : l < m := by simpa [AV.lim] using hb
    simp only [rel] at h ⊢
    rw [hρ l hl]; exact h
  | .agg cs, v, hb, h => by
    simp only [rel] at h ⊢
    obtain ⟨l, h1, h2, h3⟩ := h
    exact ⟨l, h1, rels_mono hK hρ cs l (by simpa [AV.lim] using hb) h2, h3⟩
  | .tup cs, v, hb, h => by
    simp only [rel] at h ⊢
    obtain ⟨l, h1, h2⟩ := h
    exact ⟨l, h1, rels_mono hK hρ cs l (by simpa [AV.lim] using hb) h2⟩
  | .fn f cs, v, hb, h => by
    simp only [rel] at h ⊢
    obtain ⟨l, h1, h2⟩ := h
    exact ⟨l, h1, rels_mono hK hρ cs l (by simpa [AV.lim] using hb) h2⟩
  | .ifc t x, v, hb, h => by
    simp only [rel] at h ⊢
    obtain ⟨u, h1, h2⟩ := h
    exact ⟨u, h1, rel_mono hK hρ x u (by simpa [AV.lim] using hb) h2⟩
  | .any, _, _, _ => by simp [rel]
theorem relAt_mono {K K' : Mem} {ρ ρ' : Place} {m : Nat} (hK : K.le K') (hρ : ∀ l, l < m → ρ' l = ρ l) : ∀ (cs : List AV) (b o : Nat), AV.lims m cs = true → relAt K ρ cs b o → relAt K' ρ' cs b o
  | [], _, _, _, _ => by simp [relAt]
  | c :: cs, b, o, hb, h => by
    simp only [AV.lims, Bool.and_eq_true] at hb
    simp only [relAt] at h ⊢
    obtain ⟨⟨row, v, h1, h2, h2', h3⟩, h4⟩ := h
    exact ⟨⟨row, v, hK _ _ h1, h2, h2', rel_mono hK hρ c v hb.1 h3⟩, relAt_mono hK hρ cs b (o + 1) hb.2 h4⟩
theorem rels_mono {K K' : Mem} {ρ ρ' : Place} {m : Nat} (hK : K.le K') (hρ : ∀ l, l < m → ρ' l = ρ l) : ∀ (cs : List AV) (l : List Value), AV.lims m cs = true → rels K ρ cs l → rels K' ρ' cs l
  | [], _, _, h => by simpa [rels] using h
  | c :: cs, l, hb, h => by
    simp only [AV.lims, Bool.and_eq_true] at hb
    simp only [rels] at h ⊢
    obtain ⟨v, l', h1, h2, h3⟩ := h
    exact ⟨v, l', h1, rel_mono hK hρ c v hb.1 h2, rels_mono hK hρ cs l' hb.2 h3⟩
end

mutual
theorem AV.lim_mono {m m' : Nat} (h : m ≤ m') : ∀ (c : AV), c.lim m = true → c.lim m' = true
  | .val _, _ => rfl
  | .flt _ _, _ => rfl
  | .emp, _ => rfl
  | .any, _ => rfl
  | .ptr l k, hb => by have : l < m := by simpa [AV.lim] using hb
                       simp only [AV.lim, Nat.blt_eq]; omega
  | .slc l k n z, hb => by have : l < m := by simpa [AV.lim] using hb
                           simp only [AV.lim, Nat.blt_eq]; omega
  | .lst n cs, hb => AV.lims_mono h cs (by simpa [AV.lim] using hb)
  | .fptr cs, hb => AV.lims_mono h cs (by simpa [AV.lim] using hb)
  | .agg cs, hb => AV.lims_mono h cs (by simpa [AV.lim] using hb)
  | .tup cs, hb => AV.lims_mono h cs (by simpa [AV.lim] using hb)
  | .fn f cs, hb => AV.lims_mono h cs (by simpa [AV.lim] using hb)
  | .ifc t x, hb => AV.lim_mono h x (by simpa [AV.lim] using hb)
theorem AV.lims_mono {m m' : Nat} (h : m ≤ m') : ∀ (cs : List AV), AV.lims m cs = true → AV.lims m' cs = true
  | [], _ => rfl
  | c :: cs, hb => by
    simp only [AV.lims, Bool.and_eq_true] at hb ⊢
    exact ⟨AV.lim_mono h c hb.1, AV.lims_mono h cs hb.2⟩
end

end Go.Ax
namespace Go.Ax

structure AObj where
  cells : List AV
  /-- it owns its whole block, spare cells too -/
  arr : Bool
  deriving Inhabited

abbrev Heap := List (Option AObj)
def Heap.get : Heap → Nat → Option AObj
  | [], _ => none
  | o :: _, 0 => o
  | _ :: H, l + 1 => Heap.get H l

theorem Heap.get_eq (H : Heap) (l : Nat) : H.get l = (H[l]?).join := by
  induction H generalizing l with
  | nil => simp [Heap.get]
  | cons o H ih => cases l with
    | zero => simp [Heap.get]
    | succ l => simp [Heap.get, ih]
theorem Heap.get_lt {H : Heap} {l : Nat} {o : AObj} (h : H.get l = some o) : l < H.length := by
  rw [Heap.get_eq] at h
  cases h1 : H[l]? with
  | none => rw [h1] at h; simp at h
  | some x => exact (List.getElem?_eq_some_iff.1 h1).1
theorem Heap.get_append_left {H H2 : Heap} {l : Nat} (h : l < H.length) : Heap.get (H ++ H2) l = H.get l := by
  simp only [Heap.get_eq]; rw [List.getElem?_append_left h]
theorem Heap.get_append_right {H H2 : Heap} {l : Nat} (h : H.length ≤ l) : Heap.get (H ++ H2) l = H2.get (l - H.length) := by
  simp only [Heap.get_eq]; rw [List.getElem?_append_right h]
theorem Heap.get_set_same {H : Heap} {l : Nat} {o : Option AObj} (h : l < H.length) : Heap.get (H.set l o) l = o := by
  simp only [Heap.get_eq]; rw [List.getElem?_set_self h]; cases o <;> rfl
theorem Heap.get_set_ne {H : Heap} {l l' : Nat} {o : Option AObj} (h : l ≠ l') : Heap.get (H.set l o) l' = H.get l' := by
  simp only [Heap.get_eq]; rw [List.getElem?_set_ne h]
theorem Heap.get_take {H : Heap} {m l : Nat} (h : l < m) : Heap.get (H.take m) l = H.get l := by
  simp only [Heap.get_eq, List.getElem?_take]; simp [h]
theorem Heap.get_take_ge {H : Heap} {m l : Nat} (h : m ≤ l) : Heap.get (H.take m) l = none := by
  simp only [Heap.get_eq, List.getElem?_take]; rw [if_neg (by omega)]; rfl

/-- No cell of the row is shared with a string. -/
def Unmarked (row : Array Value) (fr : Nat × Nat) : Prop := ∀ i, i < row.size → ¬ (fr.1 ≤ i ∧ i < fr.2)

/-- The object lies there. -/
def Lies (K : Mem) (ρ : Place) (m : Nat) (w : World) (o : AObj) (p : Plc) : Prop :=
  ∃ row t fr, w.heap[p.b]? = some (.cells row t fr) ∧ Unmarked row fr ∧ K p.b = none ∧ o.cells.length ≤ p.e ∧ p.o + p.e ≤ row.size ∧
    (o.arr = true → p.o = 0 ∧ p.e = row.size) ∧ (o.arr = false → p.e = o.cells.length) ∧
    ∀ i c, o.cells[i]? = some c → c.lim m = true ∧ ∃ v, row[p.o + i]? = some v ∧ v.one = true ∧ rel K ρ c v

/-- It lies there, or it is an empty one that lies nowhere. -/
def Holds (K : Mem) (ρ : Place) (m : Nat) (w : World) (o : AObj) (p : Plc) : Prop := Lies K ρ m w o p ∨ (o.cells = [] ∧ o.arr = true ∧ p.e = 0)

def Apart (o : AObj) (p : Plc) (o' : AObj) (p' : Plc) : Prop :=
  (o.arr = true ∧ p.e = 0) ∨ (o'.arr = true ∧ p'.e = 0) ∨ p.b ≠ p'.b ∨ (o.arr = false ∧ o'.arr = false ∧ (p.o + p.e ≤ p'.o ∨ p'.o + p'.e ≤ p.o))

theorem Apart.symm {o o' : AObj} {p p' : Plc} (h : Apart o p o' p') : Apart o' p' o p := by
  rcases h with h | h | h | ⟨h1, h2, h3⟩
  · exact .inr (.inl h)
  · exact .inl h
  · exact .inr (.inr (.inl (Ne.symm h)))
  · exact .inr (.inr (.inr ⟨h2, h1, h3.symm⟩))

structure Good (G : Mem) (K : Mem) (ρ : Place) (H : Heap) (w : World) : Prop where
  glob : G.le K
  froz : ∀ b row, K b = some row → ∃ t fr, w.heap[b]? = some (.cells row t fr)
  obj : ∀ l o, H.get l = some o → Holds K ρ H.length w o (ρ l)
  apart : ∀ l l' o o', H.get l = some o → H.get l' = some o' → l ≠ l' → Apart o (ρ l) o' (ρ l')

/-- The cells that are the objects' own. -/
def own (ρ : Place) (H : Heap) (b i : Nat) : Prop := ∃ l o, H.get l = some o ∧ (ρ l).b = b ∧ (ρ l).o ≤ i ∧ i < (ρ l).o + (ρ l).e

/-- Nothing else has changed of what was there. -/
structure Fr (own : Nat → Nat → Prop) (w w' : World) : Prop where
  os : w'.os = w.os
  tape : w'.tape = w.tape
  output : w'.output = w.output
  size : w.heap.size ≤ w'.heap.size
  same : ∀ b, b < w.heap.size → (∀ i, ¬ own b i) → w'.heap[b]? = w.heap[b]?
  part : ∀ b row t fr, w.heap[b]? = some (.cells row t fr) → ∃ row', w'.heap[b]? = some (.cells row' t fr) ∧ row'.size = row.size ∧ ∀ i, ¬ own b i → row'[i]? = row[i]?

theorem Fr.refl (own : Nat → Nat → Prop) (w : World) : Fr own w w :=
  ⟨rfl, rfl, rfl, Nat.le_refl _, fun _ _ _ => rfl, fun _ row _ _ h => ⟨row, h, rfl, fun _ _ => rfl⟩⟩

theorem Fr.trans {o1 o2 : Nat → Nat → Prop} {w w1 w2 : World} (h1 : Fr o1 w w1) (h2 : Fr o2 w1 w2) (ho : ∀ b i, b < w.heap.size → o2 b i → o1 b i) : Fr o1 w w2 where
  os := h2.os.trans h1.os
  tape := h2.tape.trans h1.tape
  output := h2.output.trans h1.output
  size := Nat.le_trans h1.size h2.size
  same := fun b hb hn => by
    rw [h2.same b (Nat.lt_of_lt_of_le hb h1.size) (fun i hi => hn i (ho b i hb hi)), h1.same b hb hn]
  part := fun b row t fr h => by
    obtain ⟨row1, g1, g2, g3⟩ := h1.part b row t fr h
    obtain ⟨row2, k1, k2, k3⟩ := h2.part b row1 t fr g1
    have hb : b < w.heap.size := (Array.getElem?_eq_some_iff.1 h).1
    exact ⟨row2, k1, k2.trans g2, fun i hi => by rw [k3 i (fun hh => hi (ho b i hb hh)), g3 i hi]⟩

theorem Fr.weaken {o1 o2 : Nat → Nat → Prop} {w w1 : World} (h1 : Fr o1 w w1) (ho : ∀ b i, b < w.heap.size → o1 b i → o2 b i) : Fr o2 w w1 :=
  (Fr.refl o2 w).trans h1 (fun b i hb h => ho b i hb h)

structure Ext (K : Mem) (ρ : Place) (H : Heap) (w : World) (K' : Mem) (ρ' : Place) (H' : Heap) (w' : World) : Prop where
  fr : Fr (own ρ H) w w'
  old : ∀ b, b < w.heap.size → K' b = K b ∨ (K b = none ∧ ∃ l o, H.get l = some o ∧ o.arr = true ∧ (ρ l).b = b ∧ 0 < (ρ l).e ∧ H'.get l = none)
  plc : ∀ l, l < H.length → ρ' l = ρ l
  len : H.length ≤ H'.length
  live : ∀ l o', l < H.length → H'.get l = some o' → ∃ o, H.get l = some o ∧ o.arr = o'.arr
  fresh : ∀ l o', H.length ≤ l → H'.get l = some o' → w.heap.size ≤ (ρ' l).b ∨ (o'.arr = true ∧ (ρ' l).e = 0) ∨
    (o'.arr = true ∧ ∃ l0 o0, H.get l0 = some o0 ∧ o0.arr = true ∧ H'.get l0 = none ∧ (ρ l0).b = (ρ' l).b ∧ 0 < (ρ l0).e)

variable {G K K1 K2 : Mem} {ρ ρ1 ρ2 : Place} {H H1 H2 : Heap} {w w1 w2 : World}

theorem Ext.refl (K : Mem) (ρ : Place) (H : Heap) (w : World) : Ext K ρ H w K ρ H w :=
  ⟨Fr.refl _ _, fun _ _ => .inl rfl, fun _ _ => rfl, Nat.le_refl _, fun _ o' _ h => ⟨o', h, rfl⟩, fun _ _ h1 h2 => absurd (Heap.get_lt h2) (by omega)⟩

theorem Lies.lt {o : AObj} {p : Plc} {m : Nat} (h : Lies K ρ m w o p) : p.b < w.heap.size := by
  obtain ⟨row, t, fr, h1, _⟩ := h
  exact (Array.getElem?_eq_some_iff.1 h1).1
theorem Good.lies (g : Good G K ρ H w) {l : Nat} {o : AObj} (h : H.get l = some o) (hp : 0 < (ρ l).e) : Lies K ρ H.length w o (ρ l) := by
  rcases g.obj l o h with h1 | ⟨_, _, h1⟩
  · exact h1
  · omega
theorem Good.klt (g : Good G K ρ H w) {b : Nat} {row : Array Value} (h : K b = some row) : b < w.heap.size := by
  obtain ⟨t, fr, h1⟩ := g.froz b row h
  exact (Array.getElem?_eq_some_iff.1 h1).1
theorem Ext.le (g : Good G K ρ H w) (e : Ext K ρ H w K1 ρ1 H1 w1) : K.le K1 := fun b row h => by
  rcases e.old b (g.klt h) with h1 | ⟨h1, _⟩
  · rw [h1]; exact h
  · rw [h1] at h; cases h

theorem Ext.own_back (g : Good G K ρ H w) (g1 : Good G K1 ρ1 H1 w1) (e1 : Ext K ρ H w K1 ρ1 H1 w1) (b i : Nat) (hb : b < w.heap.size) (h : own ρ1 H1 b i) : own ρ H b i := by
  obtain ⟨l, o, hl, hb1, h2, h3⟩ := h
  by_cases hlt : l < H.length
  · obtain ⟨o0, ho0, _⟩ := e1.live l o hlt hl
    rw [e1.plc l hlt] at *
    exact ⟨l, o0, ho0, hb1, h2, h3⟩
  · rcases e1.fresh l o (by omega) hl with hf | ⟨_, hf⟩ | ⟨ha, l0, o0, h4, h5, h6, h7, h8⟩
    · omega
    · omega
    · refine ⟨l0, o0, h4, h7.trans hb1, ?_⟩
      obtain ⟨row, t, fr, k1, _, _, _, _, k5, _⟩ := g.lies h4 h8
      obtain ⟨row', j1, j2, _⟩ := e1.fr.part _ _ _ _ k1
      obtain ⟨row1, t1, fr1, m1, _, _, _, _, m5, _⟩ := g1.lies hl (by omega)
      rw [← h7, j1] at m1
      simp only [Option.some.injEq, Obj.cells.injEq] at m1
      obtain ⟨e1, e2⟩ := k5 h5
      obtain ⟨e3, e4⟩ := m5 ha
      rw [e1, e2]; rw [e3, e4] at h3
      rw [← m1.1] at h3
      omega

theorem Ext.trans (g : Good G K ρ H w) (g1 : Good G K1 ρ1 H1 w1) (e1 : Ext K ρ H w K1 ρ1 H1 w1) (e2 : Ext K1 ρ1 H1 w1 K2 ρ2 H2 w2) : Ext K ρ H w K2 ρ2 H2 w2 where
  fr := e1.fr.trans e2.fr (fun b i hb h => e1.own_back g g1 b i hb h)
  old := fun b hb => by
    rcases e2.old b (Nat.lt_of_lt_of_le hb e1.fr.size) with h2 | ⟨h2, l1, o1, h3, h4, h5, h6, h7⟩
    · rw [h2]
      rcases e1.old b hb with h1 | ⟨h1, l0, o0, k1, k2, k3, k4, k5⟩
      · exact .inl h1
      · refine .inr ⟨h1, l0, o0, k1, k2, k3, k4, ?_⟩
        cases hx : H2.get l0 with
        | none => rfl
        | some o2 =>
          obtain ⟨o3, h8, _⟩ := e2.live l0 o2 (Nat.lt_of_lt_of_le (Heap.get_lt k1) e1.len) hx
          rw [k5] at h8; cases h8
    · have hK : K b = none := by
        cases hk : K b with
        | none => rfl
        | some row => have := Ext.le g e1 b row hk; rw [h2] at this; cases this
      by_cases hl : l1 < H.length
      · obtain ⟨o0, h8, h9⟩ := e1.live l1 o1 hl h3
        rw [e1.plc l1 hl] at h5 h6
        exact .inr ⟨hK, l1, o0, h8, by rw [h9]; exact h4, h5, h6, h7⟩
      · rcases e1.fresh l1 o1 (by omega) h3 with hf | ⟨_, hf⟩ | ⟨_, l0, o0, k1, k2, k3, k4, k5⟩
        · omega
        · omega
        · refine .inr ⟨hK, l0, o0, k1, k2, k4.trans h5, k5, ?_⟩
          cases hx : H2.get l0 with
          | none => rfl
          | some o2 =>
            obtain ⟨o3, h8, _⟩ := e2.live l0 o2 (Nat.lt_of_lt_of_le (Heap.get_lt k1) e1.len) hx
            rw [k3] at h8; cases h8
  plc := fun l hl => by rw [e2.plc l (Nat.lt_of_lt_of_le hl e1.len), e1.plc l hl]
  len := Nat.le_trans e1.len e2.len
  live := fun l o' hl h => by
    obtain ⟨o1, h1, h2⟩ := e2.live l o' (Nat.lt_of_lt_of_le hl e1.len) h
    obtain ⟨o0, h3, h4⟩ := e1.live l o1 hl h1
    exact ⟨o0, h3, h4.trans h2⟩
  fresh := fun l o' hl h => by
    by_cases hl1 : l < H1.length
    · obtain ⟨o1, h1, h2⟩ := e2.live l o' hl1 h
      rw [e2.plc l hl1]
      rcases e1.fresh l o1 hl h1 with hf | ⟨hf1, hf2⟩ | ⟨ha, l0, o0, h4, h5, h6, h7, h8⟩
      · exact .inl hf
      · exact .inr (.inl ⟨by rw [← h2]; exact hf1, hf2⟩)
      · refine .inr (.inr ⟨by rw [← h2]; exact ha, l0, o0, h4, h5, ?_, h7, h8⟩)
        cases hx : H2.get l0 with
        | none => rfl
        | some o2 =>
          obtain ⟨o3, h8, _⟩ := e2.live l0 o2 (Nat.lt_of_lt_of_le (Heap.get_lt h4) e1.len) hx
          rw [h6] at h8; cases h8
    · rcases e2.fresh l o' (by omega) h with hf | hf | ⟨ha, l1, o1, h4, h5, h6, h7, h8⟩
      · exact .inl (Nat.le_trans e1.fr.size hf)
      · exact .inr (.inl hf)
      · by_cases hl2 : l1 < H.length
        · obtain ⟨o0, h9, h10⟩ := e1.live l1 o1 hl2 h4
          exact .inr (.inr ⟨ha, l1, o0, h9, by rw [h10]; exact h5, h6, by rw [← h7, e1.plc l1 hl2], by rw [← e1.plc l1 hl2]; exact h8⟩)
        · rcases e1.fresh l1 o1 (by omega) h4 with hf | ⟨_, hf⟩ | ⟨ha', l0, o0, k4, k5, k6, k7, k8⟩
          · exact .inl (by rw [← h7]; exact hf)
          · omega
          · refine .inr (.inr ⟨ha, l0, o0, k4, k5, ?_, by rw [k7, h7], k8⟩)
            cases hx : H2.get l0 with
            | none => rfl
            | some o2 =>
              obtain ⟨o3, h8, _⟩ := e2.live l0 o2 (Nat.lt_of_lt_of_le (Heap.get_lt k4) e1.len) hx
              rw [k6] at h8; cases h8

theorem Good.unowned (g : Good G K ρ H w) {b : Nat} {row : Array Value} (h : K b = some row) (i : Nat) : ¬ own ρ H b i := fun ⟨l, o, hl, hb, h1, h2⟩ => by
  obtain ⟨_, _, _, _, _, h3, _⟩ := g.lies hl (by omega)
  rw [hb, h] at h3; cases h3

end Go.Ax
namespace Go.Ax

variable {G K : Mem} {ρ : Place} {H : Heap} {w w' : World}

/-- Only the count of draws has moved. -/
structure Alike (w w' : World) : Prop where
  heap : w'.heap = w.heap
  os : w'.os = w.os
  tape : w'.tape = w.tape
  output : w'.output = w.output
theorem Alike.refl (w : World) : Alike w w := ⟨rfl, rfl, rfl, rfl⟩
theorem Alike.drew (w : World) : Alike w { w with drawn := w.drawn + 1 } := ⟨rfl, rfl, rfl, rfl⟩

theorem Good.alike (g : Good G K ρ H w) (h : Alike w w') : Good G K ρ H w' :=
  ⟨g.glob, fun b row hb => by rw [h.heap]; exact g.froz b row hb,
   fun l o hl => by
    have := g.obj l o hl
    unfold Holds Lies at this ⊢
    rw [h.heap]; exact this,
   g.apart⟩
theorem Ext.alike (h : Alike w w') : Ext K ρ H w K ρ H w' :=
  { Ext.refl K ρ H w with
    fr := ⟨h.os, h.tape, h.output, by rw [h.heap]; exact Nat.le_refl _, fun b _ _ => by rw [h.heap], fun b row t fr hb => ⟨row, by rw [h.heap]; exact hb, rfl, fun _ _ => rfl⟩⟩ }

/-- A block more. -/
def World.more (w : World) (o : Obj) : World := { w with heap := w.heap.push o }

theorem more_old (w : World) (o : Obj) (b : Nat) (h : b < w.heap.size) : (World.more w o).heap[b]? = w.heap[b]? := by
  simp only [World.more, Array.getElem?_push]; rw [if_neg (by omega)]
theorem more_new (w : World) (o : Obj) : (World.more w o).heap[w.heap.size]? = some o := by
  simp [World.more]

theorem Fr.more (w : World) (o : Obj) (ow : Nat → Nat → Prop) : Fr ow w (World.more w o) :=
  ⟨rfl, rfl, rfl, by simp [World.more], fun b hb _ => more_old w o b hb, fun b row t fr hb =>
    ⟨row, by rw [more_old w o b (Array.getElem?_eq_some_iff.1 hb).1]; exact hb, rfl, fun _ _ => rfl⟩⟩

def Place.upd (ρ : Place) (l : Nat) (p : Plc) : Place := fun k => if k = l then p else ρ k
theorem Place.upd_same (ρ : Place) (l : Nat) (p : Plc) : ρ.upd l p l = p := by simp [Place.upd]
theorem Place.upd_ne (ρ : Place) {l k : Nat} (p : Plc) (h : k ≠ l) : ρ.upd l p k = ρ k := by simp [Place.upd, h]

def Mem.upd (K : Mem) (b : Nat) (row : Array Value) : Mem := fun k => if k = b then some row else K k

theorem Lies.more {o : AObj} {p : Plc} {m m' : Nat} {K' : Mem} {ρ' : Place} {x : Obj} (hK : K.le K') (hn : p.b < w.heap.size → K p.b = none → K' p.b = none) (hρ : ∀ l, l < m → ρ' l = ρ l) (hm : m ≤ m') (h : Lies K ρ m w o p) : Lies K' ρ' m' (World.more w x) o p := by
  have hp := h.lt
  obtain ⟨row, t, fr, h1, h2, h3, h4, h5, h6, h7, h8⟩ := h
  refine ⟨row, t, fr, by rw [more_old w x _ hp]; exact h1, h2, hn hp h3, h4, h5, h6, h7, fun i c hc => ?_⟩
  obtain ⟨k1, v, k2, k3, k4⟩ := h8 i c hc
  exact ⟨AV.lim_mono hm c k1, v, k2, k3, rel_mono hK hρ c v k1 k4⟩
theorem Holds.more {o : AObj} {p : Plc} {m m' : Nat} {K' : Mem} {ρ' : Place} {x : Obj} (hK : K.le K') (hn : p.b < w.heap.size → K p.b = none → K' p.b = none) (hρ : ∀ l, l < m → ρ' l = ρ l) (hm : m ≤ m') (h : Holds K ρ m w o p) : Holds K' ρ' m' (World.more w x) o p :=
  h.imp (Lies.more hK hn hρ hm) id

/-- A new block of which nothing is said. -/
theorem alloc_any (g : Good G K ρ H w) (x : Obj) : Good G K ρ H (World.more w x) ∧ Ext K ρ H w K ρ H (World.more w x) := by
  refine ⟨⟨g.glob, fun b row hb => ?_, fun l o hl => ?_, g.apart⟩, { Ext.refl K ρ H w with old := fun _ _ => .inl rfl, fr := Fr.more _ _ _ }⟩
  · rw [more_old w x b (g.klt hb)]; exact g.froz b row hb
  · exact (g.obj l o hl).more (fun _ _ h => h) (fun _ h => h) (fun _ _ => rfl) (Nat.le_refl _)

/-- A new block that stays as it is. -/
theorem alloc_frozen (g : Good G K ρ H w) (row : Array Value) (t : TypeId) (fr : Nat × Nat) :
    Good G (K.upd w.heap.size row) ρ H (World.more w (.cells row t fr)) ∧ Ext K ρ H w (K.upd w.heap.size row) ρ H (World.more w (.cells row t fr)) := by
  have hle : K.le (K.upd w.heap.size row) := fun b r hb => by
    have := g.klt hb
    simp only [Mem.upd]; rw [if_neg (by omega)]; exact hb
  refine ⟨⟨fun b r hb => hle b r (g.glob b r hb), fun b r hb => ?_, fun l o hl => ?_, g.apart⟩, ?_⟩
  · simp only [Mem.upd] at hb
    split at hb
    · rename_i h; subst h; cases hb; exact ⟨t, fr, more_new _ _⟩
    · rw [more_old w _ b (g.klt hb)]; exact g.froz b r hb
  · refine (g.obj l o hl).more hle (fun this h => ?_) (fun _ _ => rfl) (Nat.le_refl _)
    simp only [Mem.upd]; rw [if_neg (by omega)]; exact h
  · refine { Ext.refl K ρ H w with fr := Fr.more _ _ _, old := fun b hb => .inl ?_ }
    simp only [Mem.upd]; rw [if_neg (by omega)]

/-- A new block that is a new object. -/
theorem alloc_obj (g : Good G K ρ H w) (row : Array Value) (t : TypeId) (fr : Nat × Nat) (hu : Unmarked row fr) (o : AObj) (hlen : o.cells.length ≤ row.size) (hrow : o.arr = false → row.size = o.cells.length)
    (hc : ∀ (i : Nat) c, o.cells[i]? = some c → c.lim H.length = true ∧ ∃ v, row[i]? = some v ∧ v.one = true ∧ rel K ρ c v) :
    Good G K (ρ.upd H.length ⟨w.heap.size, 0, row.size⟩) (H ++ [some o]) (World.more w (.cells row t fr)) ∧
    Ext K ρ H w K (ρ.upd H.length ⟨w.heap.size, 0, row.size⟩) (H ++ [some o]) (World.more w (.cells row t fr)) := by
  have hρ : ∀ l, l < H.length → ρ.upd H.length ⟨w.heap.size, 0, row.size⟩ l = ρ l := fun l hl => Place.upd_ne _ _ (by omega)
  have hget : ∀ l x, Heap.get (H ++ [some o]) l = some x → (l < H.length ∧ H.get l = some x) ∨ (l = H.length ∧ x = o) := fun l x hx => by
    by_cases h : l < H.length
    · rw [Heap.get_append_left h] at hx; exact .inl ⟨h, hx⟩
    · rw [Heap.get_append_right (by omega)] at hx
      have : l < (H ++ [some o]).length := by
        have := Heap.get_lt (H := [some o]) hx
        simp at this ⊢; omega
      have hl : l = H.length := by simp at this; omega
      subst hl
      simp [Heap.get] at hx
      exact .inr ⟨rfl, hx.symm⟩
  refine ⟨⟨g.glob, fun b r hb => ?_, fun l x hx => ?_, fun l l' x x' hx hx' hne => ?_⟩, ?_⟩
  · rw [more_old w _ b (g.klt hb)]; exact g.froz b r hb
  · rcases hget l x hx with ⟨hl, hx1⟩ | ⟨rfl, rfl⟩
    · rw [hρ l hl]
      exact (g.obj l x hx1).more (fun _ _ h => h) (fun _ h => h) hρ (by simp)
    · rw [Place.upd_same]
      refine .inl ⟨row, t, fr, more_new _ _, hu, ?_, hlen, by simp, fun _ => ⟨rfl, rfl⟩, fun h => hrow h, fun i c hi => ?_⟩
      · cases hk : K w.heap.size with
        | none => rfl
        | some r => exact absurd (g.klt hk) (by omega)
      · obtain ⟨k1, v, k2, k3, k4⟩ := hc i c hi
        exact ⟨AV.lim_mono (by simp) c k1, v, by simpa using k2, k3, rel_mono (fun _ _ h => h) hρ c v k1 k4⟩
  · rcases hget l x hx with ⟨hl, hx1⟩ | ⟨rfl, rfl⟩ <;> rcases hget l' x' hx' with ⟨hl', hx1'⟩ | ⟨rfl, rfl⟩
    · rw [hρ l hl, hρ l' hl']; exact g.apart l l' x x' hx1 hx1' hne
    · rw [hρ l hl, Place.upd_same]
      rcases g.obj l x hx1 with hh | ⟨_, h2, h3⟩
      · have := hh.lt
        exact .inr (.inr (.inl (by simp; omega)))
      · exact .inl ⟨h2, h3⟩
    · rw [hρ l' hl', Place.upd_same]
      rcases g.obj l' x' hx1' with hh | ⟨_, h2, h3⟩
      · have := hh.lt
        exact .inr (.inr (.inl (by simp; omega)))
      · exact .inr (.inl ⟨h2, h3⟩)
    · exact absurd rfl hne
  · refine { Ext.refl K ρ H w with old := fun _ _ => .inl rfl, fr := Fr.more _ _ _, plc := hρ, len := by simp, live := fun l x hl hx => ?_, fresh := fun l x hl hx => ?_ }
    · rw [Heap.get_append_left hl] at hx; exact ⟨x, hx, rfl⟩
    · rcases hget l x hx with ⟨hl', _⟩ | ⟨rfl, rfl⟩
      · omega
      · rw [Place.upd_same]; exact .inl (Nat.le_refl _)

/-! ## stores -/
def rowPut (row : Array Value) (o : Nat) : List Value → Array Value
  | [] => row
  | v :: vs => rowPut (row.setIfInBounds o v) (o + 1) vs
theorem rowPut_size (vs : List Value) : ∀ (row : Array Value) (o : Nat), (rowPut row o vs).size = row.size := by
  induction vs with
  | nil => intro row o; rfl
  | cons v vs ih => intro row o; simp [rowPut, ih]
theorem rowPut_out (vs : List Value) : ∀ (row : Array Value) (o i : Nat), i < o ∨ o + vs.length ≤ i → (rowPut row o vs)[i]? = row[i]? := by
  induction vs with
  | nil => intro row o i _; rfl
  | cons v vs ih =>
    intro row o i h
    simp only [rowPut]
    rw [ih _ _ _ (by simp only [List.length_cons] at h; omega), Array.getElem?_setIfInBounds_ne (by simp only [List.length_cons] at h; omega)]
theorem rowPut_in (vs : List Value) : ∀ (row : Array Value) (o i : Nat), i < vs.length → o + i < row.size → (rowPut row o vs)[o + i]? = vs[i]? := by
  induction vs with
  | nil => intro row o i h; simp at h
  | cons v vs ih =>
    intro row o i h hs
    simp only [rowPut]
    cases i with
    | zero =>
      rw [rowPut_out _ _ _ _ (by omega), Nat.add_zero, Array.getElem?_setIfInBounds_self_of_lt (by simpa using hs)]
      rfl
    | succ i =>
      rw [show o + (i + 1) = (o + 1) + i by omega, ih _ _ _ (by simp at h; omega) (by simp; omega)]
      rfl

def puts (w : World) (b o : Nat) : List Value → World
  | [] => w
  | v :: vs => puts (w.setCell ⟨b, o, none⟩ v) b (o + 1) vs

theorem setCell_same {b o : Nat} {v : Value} {row : Array Value} {t : TypeId} {fr : Nat × Nat} (h : w.heap[b]? = some (.cells row t fr)) :
    (w.setCell ⟨b, o, none⟩ v).heap[b]? = some (.cells (row.setIfInBounds o v) t fr) := by
  simp only [World.setCell, Array.getElem?_modify, if_true, h]; rfl
theorem setCell_ne {b o b' : Nat} {v : Value} (h : b' ≠ b) : (w.setCell ⟨b, o, none⟩ v).heap[b']? = w.heap[b']? := by
  simp only [World.setCell, Array.getElem?_modify]; rw [if_neg (by omega)]
theorem puts_same (vs : List Value) {b : Nat} {t : TypeId} {fr : Nat × Nat} : ∀ {w : World} {o : Nat} {row : Array Value}, w.heap[b]? = some (.cells row t fr) → (puts w b o vs).heap[b]? = some (.cells (rowPut row o vs) t fr) := by
  induction vs with
  | nil => intro w o row h; exact h
  | cons v vs ih => intro w o row h; exact ih (setCell_same h)
theorem puts_ne (vs : List Value) {b b' : Nat} (hb : b' ≠ b) : ∀ {w : World} {o : Nat}, (puts w b o vs).heap[b']? = w.heap[b']? := by
  induction vs with
  | nil => intro w o; rfl
  | cons v vs ih => intro w o; rw [puts, ih, setCell_ne hb]
theorem puts_rest (vs : List Value) {b : Nat} : ∀ {w : World} {o : Nat}, (puts w b o vs).os = w.os ∧ (puts w b o vs).tape = w.tape ∧ (puts w b o vs).output = w.output ∧ (puts w b o vs).heap.size = w.heap.size := by
  induction vs with
  | nil => intro w o; exact ⟨rfl, rfl, rfl, rfl⟩
  | cons v vs ih =>
    intro w o
    obtain ⟨h1, h2, h3, h4⟩ := ih (w := w.setCell ⟨b, o, none⟩ v) (o := o + 1)
    exact ⟨h1, h2, h3, h4.trans (by simp [World.setCell])⟩

/-- The cells from k on replaced. -/
def splice (cells : List AV) (k : Nat) (cs : List AV) : List AV := cells.take k ++ (cs ++ cells.drop (k + cs.length))
theorem splice_length {cells cs : List AV} {k : Nat} (h : k + cs.length ≤ cells.length) : (splice cells k cs).length = cells.length := by
  simp [splice]; omega
theorem splice_get {cells cs : List AV} {k i : Nat} {c : AV} (h : k + cs.length ≤ cells.length) (hc : (splice cells k cs)[i]? = some c) :
    (k ≤ i ∧ i < k + cs.length ∧ cs[i - k]? = some c) ∨ ((i < k ∨ k + cs.length ≤ i) ∧ cells[i]? = some c) := by
  have hk : (cells.take k).length = k := by simp; omega
  simp only [splice] at hc
  by_cases h1 : i < k
  · rw [List.getElem?_append_left (by omega)] at hc
    rw [List.getElem?_take, if_pos h1] at hc
    exact .inr ⟨.inl h1, hc⟩
  · rw [List.getElem?_append_right (by omega), hk] at hc
    by_cases h2 : i < k + cs.length
    · rw [List.getElem?_append_left (by omega)] at hc
      exact .inl ⟨by omega, h2, hc⟩
    · rw [List.getElem?_append_right (by omega), List.getElem?_drop] at hc
      rw [show k + cs.length + (i - k - cs.length) = i by omega] at hc
      exact .inr ⟨.inr (by omega), hc⟩

theorem rels_length {K : Mem} {ρ : Place} : ∀ {cs : List AV} {vs : List Value}, rels K ρ cs vs → vs.length = cs.length
  | [], vs, h => by simp only [rels] at h; subst h; rfl
  | c :: cs, vs, h => by
    simp only [rels] at h
    obtain ⟨v, l', rfl, _, h2⟩ := h
    simp [rels_length h2]
theorem rels_get {K : Mem} {ρ : Place} : ∀ {cs : List AV} {vs : List Value} {i : Nat} {c : AV}, rels K ρ cs vs → cs[i]? = some c → ∃ v, vs[i]? = some v ∧ rel K ρ c v
  | [], vs, i, c, _, hc => by simp at hc
  | c0 :: cs, vs, i, c, h, hc => by
    simp only [rels] at h
    obtain ⟨v, l', rfl, h1, h2⟩ := h
    cases i with
    | zero => simp at hc; subst hc; exact ⟨v, rfl, h1⟩
    | succ i => obtain ⟨v', h3, h4⟩ := rels_get h2 (by simpa using hc); exact ⟨v', by simpa using h3, h4⟩
theorem lims_get {m : Nat} : ∀ {cs : List AV} {i : Nat} {c : AV}, AV.lims m cs = true → cs[i]? = some c → c.lim m = true
  | [], i, c, _, hc => by simp at hc
  | c0 :: cs, i, c, h, hc => by
    simp only [AV.lims, Bool.and_eq_true] at h
    cases i with
    | zero => simp at hc; subst hc; exact h.1
    | succ i => exact lims_get h.2 (by simpa using hc)

theorem store_obj (g : Good G K ρ H w) {l : Nat} {o : AObj} (ho : H.get l = some o) {k : Nat} {cs : List AV} {vs : List Value} (hr : rels K ρ cs vs) (hl : AV.lims H.length cs = true)
    (h1 : ∀ v ∈ vs, v.one = true) (hk : k + cs.length ≤ o.cells.length) :
    Good G K ρ (H.set l (some { o with cells := splice o.cells k cs })) (puts w (ρ l).b ((ρ l).o + k) vs) ∧
    Ext K ρ H w K ρ (H.set l (some { o with cells := splice o.cells k cs })) (puts w (ρ l).b ((ρ l).o + k) vs) := by
  have hlt := Heap.get_lt ho
  have hvs := rels_length hr
  have hget : ∀ l' x, Heap.get (H.set l (some { o with cells := splice o.cells k cs })) l' = some x → (l' ≠ l ∧ H.get l' = some x) ∨ (l' = l ∧ x = { o with cells := splice o.cells k cs }) := fun l' x hx => by
    by_cases h : l = l'
    · subst h; rw [Heap.get_set_same hlt] at hx; cases hx; exact .inr ⟨rfl, rfl⟩
    · rw [Heap.get_set_ne h] at hx; exact .inl ⟨Ne.symm h, hx⟩
  have hapart : ∀ l1 l2 x1 x2, Heap.get (H.set l (some { o with cells := splice o.cells k cs })) l1 = some x1 → Heap.get (H.set l (some { o with cells := splice o.cells k cs })) l2 = some x2 → l1 ≠ l2 → Apart x1 (ρ l1) x2 (ρ l2) := fun l1 l2 x1 x2 hx1 hx2 hne => by
    rcases hget l1 x1 hx1 with ⟨hn1, hy1⟩ | ⟨rfl, rfl⟩ <;> rcases hget l2 x2 hx2 with ⟨hn2, hy2⟩ | ⟨rfl, rfl⟩
    · exact g.apart l1 l2 x1 x2 hy1 hy2 hne
    · exact g.apart l1 l2 x1 o hy1 ho hne
    · exact g.apart l1 l2 o x2 ho hy2 hne
    · exact absurd rfl hne
  have hlive : ∀ l' x, l' < H.length → Heap.get (H.set l (some { o with cells := splice o.cells k cs })) l' = some x → ∃ o0, H.get l' = some o0 ∧ o0.arr = x.arr := fun l' x _ hx => by
    rcases hget l' x hx with ⟨_, hx1⟩ | ⟨rfl, rfl⟩
    · exact ⟨x, hx1, rfl⟩
    · exact ⟨o, ho, rfl⟩
  have hfresh : ∀ l' x, H.length ≤ l' → Heap.get (H.set l (some { o with cells := splice o.cells k cs })) l' = some x → False := fun l' x hl' hx => by
    have := Heap.get_lt hx
    simp at this; omega

  by_cases hz : cs = []
  · subst hz
    have hv0 : vs = [] := List.length_eq_zero_iff.1 hvs
    subst hv0
    have hsp : splice o.cells k [] = o.cells := by simp [splice]
    have hset : H.set l (some { o with cells := splice o.cells k [] }) = H := by
      rw [hsp]
      refine List.ext_getElem? fun i => ?_
      by_cases hi : l = i
      · subst hi
        rw [List.getElem?_set_self hlt]
        rw [Heap.get_eq] at ho
        cases hx : H[l]? with
        | none => rw [hx] at ho; simp at ho
        | some y => rw [hx] at ho; simp at ho; rw [ho]
      · rw [List.getElem?_set_ne hi]
    rw [hset]
    exact ⟨g, Ext.refl _ _ _ _⟩
  have hpos : 0 < cs.length := List.length_pos_iff.2 hz
  have hLies : Lies K ρ H.length w o (ρ l) := by
    rcases g.obj l o ho with h | ⟨h, _, _⟩
    · exact h
    · rw [h] at hk; simp only [List.length_nil] at hk; omega
  obtain ⟨row, t, fr, a1, a2, a3, a4, a5, a6, a7, a8⟩ := hLies
  have hunown : ∀ b i, ¬ own ρ H b i → b = (ρ l).b → i < (ρ l).o + k ∨ (ρ l).o + k + vs.length ≤ i := fun b i hn hb => by
    rcases Nat.lt_or_ge i ((ρ l).o + k) with h | h
    · exact .inl h
    · rcases Nat.lt_or_ge i ((ρ l).o + k + vs.length) with h' | h'
      · exact absurd ⟨l, o, ho, hb.symm, by omega, by omega⟩ hn
      · exact .inr h'
  obtain ⟨r1, r2, r3, r4⟩ := puts_rest vs (b := (ρ l).b) (w := w) (o := (ρ l).o + k)
  refine ⟨⟨g.glob, fun b r hb => ?_, fun l' x hx => ?_, hapart⟩, ?_⟩
  · have : b ≠ (ρ l).b := fun e => by rw [e, a3] at hb; cases hb
    rw [puts_ne vs this]; exact g.froz b r hb
  · rw [List.length_set]
    rcases hget l' x hx with ⟨hne, hx1⟩ | ⟨rfl, rfl⟩
    · rcases g.obj l' x hx1 with hl' | hl'
      · refine .inl ?_
        obtain ⟨row', t', fr', b1, b2, b3, b4, b5, b6, b7, b8⟩ := hl'
        by_cases hb : (ρ l').b = (ρ l).b
        · rw [hb, a1] at b1
          simp only [Option.some.injEq, Obj.cells.injEq] at b1
          obtain ⟨e1, e2, e3⟩ := b1
          subst e1 e2 e3
          refine ⟨rowPut row ((ρ l).o + k) vs, t, fr, by rw [hb]; exact puts_same vs a1, ?_, b3, b4, by rw [rowPut_size]; exact b5, by rw [rowPut_size]; exact b6, b7, fun i c hc => ?_⟩
          · intro i hi; rw [rowPut_size] at hi; exact b2 i hi
          · obtain ⟨d1, v, d2, d3⟩ := b8 i c hc
            refine ⟨d1, v, ?_, d3⟩
            have hi : i < x.cells.length := (List.getElem?_eq_some_iff.1 hc).1
            rcases g.apart l l' o x ho hx1 (Ne.symm hne) with ⟨_, hap⟩ | ⟨_, hap⟩ | hap | ⟨c1, c2, c3⟩
            · omega
            · omega
            · exact absurd hb.symm hap
            · have e7 := a7 c1
              have f7 := b7 c2
              rw [rowPut_out _ _ _ _ (by omega)]; exact d2
        · exact ⟨row', t', fr', by rw [puts_ne vs hb]; exact b1, b2, b3, b4, b5, b6, b7, b8⟩
      · exact .inr hl'
    · refine .inl ⟨rowPut row ((ρ l').o + k) vs, t, fr, puts_same vs a1, ?_, a3, ?_, by rw [rowPut_size]; exact a5, by rw [rowPut_size]; exact a6, ?_, fun i c hc => ?_⟩
      · intro i hi; rw [rowPut_size] at hi; exact a2 i hi
      · simp only []; rw [splice_length hk]; exact a4
      · intro h; simp only []; rw [splice_length hk]; exact a7 h
      · rcases splice_get hk hc with ⟨i1, i2, i3⟩ | ⟨i1, i2⟩
        · obtain ⟨v, j1, j2⟩ := rels_get hr i3
          have hi : i < o.cells.length := by omega
          refine ⟨lims_get hl i3, v, ?_, h1 v (List.mem_of_getElem? j1), j2⟩
          rw [show (ρ l').o + i = (ρ l').o + k + (i - k) by omega, rowPut_in _ _ _ _ (by omega) (by omega)]
          exact j1
        · obtain ⟨d1, v, d2, d3⟩ := a8 i c i2
          refine ⟨d1, v, ?_, d3⟩
          rw [rowPut_out _ _ _ _ (by omega)]; exact d2
  · refine { Ext.refl K ρ H w with old := fun _ _ => .inl rfl, fr := ⟨r1, r2, r3, by rw [r4]; exact Nat.le_refl _, fun b hb hn => ?_, fun b row' t' fr' hb => ?_⟩, len := by simp, live := hlive, fresh := fun l' x hl' hx => (hfresh l' x hl' hx).elim }
    · have e : b ≠ (ρ l).b := fun e => hn ((ρ l).o + k) ⟨l, o, ho, e.symm, by omega, by omega⟩
      exact puts_ne vs e
    · by_cases e : b = (ρ l).b
      · subst e
        refine ⟨rowPut row' ((ρ l).o + k) vs, puts_same vs hb, rowPut_size _ _ _, fun i hi => rowPut_out _ _ _ _ (hunown _ i hi rfl)⟩
      · exact ⟨row', by rw [puts_ne vs e]; exact hb, rfl, fun _ _ => rfl⟩

end Go.Ax
