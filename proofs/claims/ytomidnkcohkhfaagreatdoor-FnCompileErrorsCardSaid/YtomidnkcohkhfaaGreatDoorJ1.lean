/-
  From a row's world to the book, and back.
-/
import Derived.Test.YtomidnkcohkhfaaGreatDoorK12
import Derived.ProofKit
import Derived.OpenShut
import Derived.Carry
import Derived.ChangeSame
import Derived.Lib.LaidTab
import Derived.Deep.DeepHandedRow
namespace Go.Ax
open Go.ChangeShapes Go.WideShapes Go.ChangeAt Go.RowKit
variable {P : Program} {K : Mem} {ρ : Place} {H : Heap} {w W : World}

/-- All that is there when the call begins. -/
def rowsOf (w : World) : Mem := fun b => match w.heap[b]? with
  | some (.cells row _ _) => some row
  | _ => none
theorem rowsOf_cells {b : Nat} {row : Array Value} (h : rowsOf W b = some row) : ∃ t fr, W.heap[b]? = some (.cells row t fr) := by
  unfold rowsOf at h
  split at h
  · rename_i r t fr e
    cases h
    exact ⟨t, fr, e⟩
  · cases h
theorem rowsOf_of {b : Nat} {row : Array Value} {t : TypeId} {fr : Nat × Nat} (h : W.heap[b]? = some (.cells row t fr)) : rowsOf W b = some row := by
  unfold rowsOf
  rw [h]
theorem good_start (w : World) (ρ : Place) : Good (rowsOf w) (rowsOf w) ρ [] w where
  glob := fun _ _ h => h
  froz := fun b row h => rowsOf_cells h
  obj := fun l o h => absurd (Heap.get_lt h) (by simp)
  apart := fun l l' o o' h => absurd (Heap.get_lt h) (by simp)
theorem Good.cellOf (g : Good (rowsOf W) K ρ H w) {a : Addr} {v : Value} (h : W.cell? a = some v) : w.cell? a = some v := by
  unfold World.cell? at h ⊢
  split at h
  · rename_i c t fr e
    obtain ⟨t', fr', e'⟩ := g.froz _ _ (g.glob _ _ (rowsOf_of e))
    rw [e']
    exact h
  · cases h
theorem Good.varOf (g : Good (rowsOf W) K ρ H w) {n : String} {r : Array Value} (h : W.var? P n = some r) : w.var? P n = some r := by
  unfold World.var? at h ⊢
  rw [Option.bind_eq_some_iff] at h ⊢
  obtain ⟨gl, hg, h⟩ := h
  refine ⟨gl, hg, ?_⟩
  split at h
  · rename_i c t fr e
    obtain ⟨t', fr', e'⟩ := g.froz _ _ (g.glob _ _ (rowsOf_of e))
    rw [e']
    exact h
  · cases h

theorem flatB (xs : List UInt8) : xs.flatMap encB = xs.map (fun c => AV.val (.int .u8 c.toNat)) := by
  induction xs with
  | nil => rfl
  | cons x xs ih => simp only [List.flatMap_cons, ih, encB, List.map_cons, List.cons_append, List.nil_append]

/-- A slice of bytes that comes in. -/
theorem bytes_in {H : Type} {enc : TypeId × Value → H} {t e : TypeId} {v : Value} {d : DataW H} {ps : List MemPlace} (ht : P.underlying t = some (.slice e)) (he : P.underlying e = some (.int .u8)) (hc : P.cellsOf e = 1)
    (h : DataW.Trod enc P W 0 (fun _ => true) true t v d ps) (hv : v.cells = #[v]) : ∃ xs : List UInt8, ∀ ρ, rel (rowsOf W) ρ (.bs xs) v := by
  obtain ⟨n, hn⟩ := h
  rw [hv] at hn
  rcases open_ints ht he hc hn with ⟨hcs, _⟩ | ⟨a, len, cap, zs, hcs, _, hl, hm, hz, _, hcell, hwz⟩
  · obtain rfl : v = .slice none 0 0 := by simpa using hcs
    refine ⟨[], fun ρ => ?_⟩
    simp only [rel]
    exact ⟨none, 0, rfl, Nat.le_refl _, .inl rfl⟩
  · obtain rfl : v = .slice (some a) len cap := by simpa using hcs
    have hz' : zs.length = cap := by simpa using hz
    refine ⟨(zs.take len).map fun z => UInt8.ofNat z.toNat, fun ρ => ?_⟩
    have hlen : ((zs.take len).map fun z => UInt8.ofNat z.toNat).length = len := by simp; omega
    simp only [rel]
    refine ⟨some a, cap, by rw [hlen], by rw [hlen]; exact hl, ?_⟩
    by_cases h0 : len = 0
    · left
      subst h0
      rfl
    right
    obtain ⟨b, o, sp⟩ := a
    have c0 := hcell 0 (by omega)
    have hsp : sp = none := by
      cases sp with
      | none => rfl
      | some s =>
        simp only [Addr.add, if_true, World.cell?] at c0
        split at c0 <;> simp at c0
    subst hsp
    have hex : ∃ row t fr, W.heap[b]? = some (.cells row t fr) := by
      simp only [Addr.add, if_true, World.cell?] at c0
      split at c0
      · rename_i c t fr e; exact ⟨c, t, fr, e⟩
      · cases c0
    obtain ⟨row, t', fr, hr⟩ := hex
    refine ⟨b, o, rfl, relAt_row (rowsOf_of hr) _ _ fun i c hc' => ?_⟩
    rw [flatB, List.getElem?_map, List.getElem?_map] at hc'
    cases hx : (zs.take len)[i]? with
    | none => rw [hx] at hc'; simp at hc'
    | some z =>
      rw [hx] at hc'
      simp only [Option.map_some, Option.some.injEq] at hc'
      subst hc'
      obtain ⟨hi, hzz⟩ := List.getElem?_eq_some_iff.1 hx
      rw [List.length_take] at hi
      rw [List.getElem_take] at hzz
      have hmem : z ∈ zs := hzz ▸ List.getElem_mem _
      have hb := hwz z hmem
      simp only [Lit.wf, IntKind.min, IntKind.max, IntKind.signed, IntKind.bits, Bool.and_eq_true] at hb
      have hci := hcell i (by omega)
      rw [add_plain] at hci
      have e1 : zs.getD i 0 = z := by
        rw [List.getD, List.getElem?_eq_getElem (by omega), hzz]; rfl
      rw [e1] at hci
      simp only [World.cell?, hr] at hci
      refine ⟨.int .u8 z, by simpa using hci, rfl, ?_⟩
      simp only [rel]
      have : ((UInt8.ofNat z.toNat).toNat : Int) = z := by
        rw [UInt8.toNat_ofNat']
        have : z.toNat < 2 ^ 8 := by simp at hb; omega
        rw [Nat.mod_eq_of_lt this]
        simp at hb; omega
      rw [this]

/-- What was there reads as it did. -/
theorem post_kept {H : Type} {enc : TypeId × Value → H} {f : Func} {s : ChangeSpec} {fresh handsOn again apart : Bool} {W' : World} {args : Array Value} {v : Value} {ds gs : List (DataW H)} {before : List MemPlace}
    (hW : DataW.Whole enc P f.params.toList s.vars apart W args.toList ds gs before) (hvars : s.vars = [])
    (hl : laidOutB P = true) (hts : ∀ t ∈ f.params.toList, P.readableRec t = true ∧ t < P.types.size)
    (hos : W'.os = W.os) (hout : W'.output = W.output) (hheap : ∀ b, b < W.heap.size → W'.heap[b]? = W.heap[b]?)
    (hres : ∀ (b : Nat) (sp : Nat → Bool) (hd : Bool), DataW.TrodAll enc P W' b sp hd f.resultTypes.toList (v.resultList f.resultTypes.size) (s.fn H (ds ++ gs)).results [])
    (hargs : (s.fn H (ds ++ gs)).args = ds) (hvs : (s.fn H (ds ++ gs)).vars = [])
    (hok : ∀ (j : Nat) (t : TypeId) (r : Value), f.resultTypes[j]? = some t → (v.resultList f.resultTypes.size)[j]? = some r → Value.okWide P W' .any 0 t r) :
    s.post enc P f apart fresh handsOn again W args v W' := by
  have hlt : ∀ p ∈ before, p.block < W.heap.size := fun p hp => by simpa using hW.lt p hp
  have hsame : ∀ p ∈ before, W.sameAt W' p := fun p hp => by
    have := hheap p.block (hlt p hp)
    cases p with
    | cell b o => exact World.cell?_of_block this
    | map b => exact this
  have hW0 := hW
  obtain ⟨p, q, hA, hV, rfl, hz, hn⟩ := hW
  rw [hvars] at hV
  obtain ⟨rfl, rfl⟩ := trodVars_none hV
  rw [List.append_nil] at hlt hsame hz hn hW0
  have hall : ∀ (ts : List TypeId) (vs : List Value) (ds : List (DataW H)) (ps : List MemPlace) (sp : Nat → Bool), (∀ t ∈ ts, P.readableRec t = true ∧ t < P.types.size) → (∀ x ∈ ps, W.sameAt W' x) → (∀ x ∈ ps, sp x.block = true) →
      DataW.TrodAll enc P W 0 (fun _ => true) true ts vs ds ps → DataW.TrodAll enc P W' 0 sp true ts vs ds ps := by
    intro ts
    induction ts with
    | nil =>
      intro vs ds ps sp _ _ _ h
      obtain ⟨rfl, rfl, rfl⟩ := trodAll_nil h
      exact trodAll_mk0
    | cons t ts ih =>
      intro vs ds ps sp ht hs hsp h
      obtain ⟨v, vs1, d, ds1, a, b, rfl, rfl, rfl, h1, h2⟩ := trodAll_cons h
      exact trodAll_cons_mk (WideElems.Trod_stays hl (ht t (by simp)).1 (ht t (by simp)).2 h1 (fun x hx => hs x (by simp [hx])) (fun x hx => hsp x (by simp [hx])))
        (ih _ _ _ _ (fun t' ht' => ht t' (by simp [ht'])) (fun x hx => hs x (by simp [hx])) (fun x hx => hsp x (by simp [hx])) h2)
  have hargs' : ∀ sp : Nat → Bool, (∀ x ∈ p, sp x.block = true) → DataW.TrodAll enc P W' 0 sp true f.params.toList args.toList (s.fn H (ds ++ [])).args p := fun sp hsp => by
    rw [hargs]; exact hall _ _ _ _ sp hts hsame hsp hA
  have hvars' : ∀ sp : Nat → Bool, DataW.TrodVars enc P W' sp s.vars (s.fn H (ds ++ [])).vars [] := fun sp => by
    rw [hvars, hvs]; rfl
  have hk : W.keptBut W' (fun x => x ∈ p ∧ (x ∈ ([] : List MemPlace) ∨ x ∈ p ∨ x ∈ ([] : List MemPlace))) := by
    refine ⟨hos, hout, fun i hi => ?_⟩
    rw [hheap i hi]
    cases hh : W.heap[i]? with
    | none => simp
    | some o => cases o <;> simp
  refine ⟨ds, [], p, [], p, [], hW0, hres _ _ _, hargs' _ (fun x hx => by simpa using hlt x hx), hvars' _, hk, fun _ => ⟨hok, _, _, ([] ++ p) ++ [], ⟨[] ++ p, [], trodAll_append (hargs' _ (fun _ _ => rfl)) (hres _ _ _), hvars' _, rfl, ?_, ?_⟩, ?_⟩⟩
  · intro b off hp
    have hp' : MemPlace.cell b off ∈ p := by simpa using hp
    have := hz b off hp'
    have hb : b < W.heap.size := hlt _ hp'
    unfold World.frozen? at this ⊢
    rw [hheap b hb]
    exact this
  · intro ha
    simpa using hn ha
  · intro x hx _
    simpa using hx
end Go.Ax
