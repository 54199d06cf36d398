/-
  Bridges from the kit's contracts to the book.
-/
import Derived.Test.YtomidnkcohkhfaaGreatDoorK11
import Derived.Below
namespace Go.Ax
variable {P : Program} {G K : Mem} {ρ : Place} {H H' : Heap} {w w' : World} {env : Env} {a : Act} {n : Nat}

theorem Fr.below (h : RowKit.Below w.heap.size w w') (ow : Nat → Nat → Prop) : Fr ow w w' :=
  ⟨h.os, h.tape, h.output, h.size, fun b hb _ => h.block b hb, fun b row t fr hb => ⟨row, by rw [h.block b (Array.getElem?_eq_some_iff.1 hb).1]; exact hb, rfl, fun _ _ => rfl⟩⟩

theorem ACall.ofBelow {f : FuncId} {args : List AV} {res : AV} (hf : Callable P f) (hl : res.lim 0 = true)
    (h : ∀ K ρ w vs, Good G K ρ [] w → rels K ρ args vs → Calls P f ⟨vs⟩ w fun e w' => ∃ v, e = .returned v ∧ RowKit.Below w.heap.size w w' ∧ rel K ρ res v) : ACall P G f args [] res [] := by
  refine ⟨hf, fun K ρ w vs g _ hr => (h K ρ w vs g hr).mono ?_⟩
  rintro e w' ⟨v, he, hb, hv⟩
  exact ⟨v, he, K, ρ, g.keep (fun b hb' => hb.block b hb') (fun _ _ => rfl) (fun b row hs hk => absurd (g.klt hk) (by omega)),
    { Ext.refl K ρ [] w with fr := Fr.below hb _, old := fun _ _ => .inl rfl }, hv, hl⟩
theorem ACall.ofNew {f : FuncId} {args : List AV} {res : AV} (hf : Callable P f) (hl : res.lim 0 = true)
    (h : ∀ K ρ w vs, Good G K ρ [] w → rels K ρ args vs → Calls P f ⟨vs⟩ w fun e w' => ∃ v row t, e = .returned v ∧ w' = w.alloc (.cells row t) ∧ rel (K.upd w.heap.size row) ρ res v) : ACall P G f args [] res [] := by
  refine ⟨hf, fun K ρ w vs g _ hr => (h K ρ w vs g hr).mono ?_⟩
  rintro e w' ⟨v, row, t, he, rfl, hv⟩
  obtain ⟨g1, x1⟩ := alloc_frozen g row t (0, 0)
  exact ⟨v, he, _, ρ, g1, x1, hv, hl⟩

theorem relAt_row {b : Nat} {row : Array Value} (hK : K b = some row) : ∀ (cs : List AV) (o : Nat), (∀ (i : Nat) c, cs[i]? = some c → ∃ v, row[o + i]? = some v ∧ v.one = true ∧ rel K ρ c v) → relAt K ρ cs b o
  | [], _, _ => by simp [relAt]
  | c :: cs, o, h => by
    simp only [relAt]
    obtain ⟨v, k1, k2, k3⟩ := h 0 c rfl
    exact ⟨⟨row, v, hK, by simpa using k1, k2, k3⟩, relAt_row hK cs (o + 1) (fun i c hc => by have := h (i + 1) c (by simpa using hc); rwa [show o + 1 + i = o + (i + 1) by omega])⟩

theorem flatS (xs : List ByteArray) : xs.flatMap encS = xs.map (fun s => AV.val (.string s)) := by
  induction xs with
  | nil => rfl
  | cons x xs ih => simp only [List.flatMap_cons, ih, encS, List.map_cons, List.cons_append, List.nil_append]

/-- A new row of strings. -/
theorem rel_ss (xs : List ByteArray) (b : Nat) : rel (K.upd b (xs.map Value.string).toArray) ρ (.ss xs) (.slice (some ⟨b, 0, none⟩) xs.length xs.length) := by
  simp only [rel]
  refine ⟨_, _, rfl, Nat.le_refl _, .inr ⟨b, 0, rfl, relAt_row (row := (xs.map Value.string).toArray) (by simp [Mem.upd]) _ 0 fun i c hc => ?_⟩⟩
  rw [flatS, List.getElem?_map] at hc
  cases hx : xs[i]? with
  | none => rw [hx] at hc; simp at hc
  | some s =>
    rw [hx] at hc
    simp only [Option.map_some, Option.some.injEq] at hc
    subst hc
    exact ⟨.string s, by simp [hx], rfl, by simp only [rel]⟩

/-- The strings of a list that stays. -/
theorem cells_ss (g : Good G K ρ H w) {xs : List ByteArray} {v : Value} (h : rel K ρ (.ss xs) v) : (xs = [] ∧ ∃ a cap, v = .slice a 0 cap) ∨
    ∃ b o cap, v = .slice (some ⟨b, o, none⟩) xs.length cap ∧ ∀ j, j < xs.length → w.cell? ⟨b, o + j, none⟩ = some (.string (xs.getD j ByteArray.empty)) := by
  simp only [rel] at h
  obtain ⟨a, cap, rfl, _, h⟩ := h
  rcases h with h | ⟨b, o, rfl, hat⟩
  · rw [flatS] at h
    have : xs = [] := by simpa using h
    subst this
    exact .inl ⟨rfl, a, cap, rfl⟩
  · refine .inr ⟨b, o, cap, rfl, fun j hj => ?_⟩
    have hc : (xs.flatMap encS)[j]? = some (.val (.string (xs.getD j ByteArray.empty))) := by
      rw [flatS, List.getElem?_map]
      simp [hj]
    obtain ⟨row, v, k1, k2, _, k4⟩ := relAt_get hat hc
    simp only [rel] at k4
    subst k4
    exact g.fcell k1 k2
end Go.Ax
