/-
  The law's texts, split into lines.
-/
import Derived.Test.YtomidnkcohkhfaaGreatDoorD10
namespace Go.Ax
open Go.Proofs
variable {G : Mem}
def lines (its : List Item) : List (List UInt8) := its.flatMap fun i => [lPlay i, lWait i]
theorem play_no {i : Item} (h : i.ok) : (10 : UInt8) ∉ lPlay i := by
  simp only [lPlay, List.mem_append, List.mem_cons, not_or]
  exact ⟨by decide, by decide, by decide, by decide, key_not h 10 (.inr rfl), by decide, by decide, by decide, dec_not (by decide)⟩
theorem wait_no (i : Item) : (10 : UInt8) ∉ lWait i := by
  simp only [lWait, List.mem_append, List.mem_cons, not_or]
  exact ⟨by decide, by decide, dec_not (by decide)⟩
theorem item_lines (i : Item) (rest : List UInt8) : itemT i ++ rest = lPlay i ++ 10 :: (lWait i ++ 10 :: rest) := by
  simp [itemT, lPlay, lWait, bPlay, bHalf, bWait, wPlay, wWait]
theorem spl_render : ∀ {its : List Item}, (∀ i ∈ its, i.ok) → ∀ rest, spl 10 (render its ++ rest) = lines its ++ spl 10 rest
  | [], _, rest => by simp [render, lines]
  | i :: its, h, rest => by
    have ih := spl_render (its := its) (fun j hj => h j (by simp [hj])) rest
    have e : render (i :: its) ++ rest = itemT i ++ (render its ++ rest) := by simp [render]
    rw [e, item_lines, spl_cut 10 _ _ (play_no (h i (by simp))), spl_cut 10 _ _ (wait_no i), ih]
    simp [lines]
def cS : List UInt8 := lString ++ [10]
def cW : List UInt8 := lWhat ++ [10]
def cR : List UInt8 := lString ++ 10 :: (lRepeat ++ [10])
def cE : List UInt8 := wEnd ++ [10]
theorem spl_T1 {its : List Item} (h : ∀ i ∈ its, i.ok) : spl 10 (cS ++ render its ++ cW ++ render its) = lString :: (lines its ++ lWhat :: (lines its ++ [[]])) := by
  have e : cS ++ render its ++ cW ++ render its = lString ++ 10 :: (render its ++ (lWhat ++ 10 :: (render its ++ []))) := by simp [cS, cW]
  rw [e, spl_cut 10 _ _ (by decide), spl_render h, spl_cut 10 _ _ (by decide), spl_render h]
  rfl
theorem spl_T2 {its : List Item} (h : ∀ i ∈ its, i.ok) : spl 10 (cR ++ render its) = lString :: lRepeat :: (lines its ++ [[]]) := by
  have e : cR ++ render its = lString ++ 10 :: (lRepeat ++ 10 :: (render its ++ [])) := by simp [cR]
  rw [e, spl_cut 10 _ _ (by decide), spl_cut 10 _ _ (by decide), spl_render h]
  rfl
theorem spl_T3 {its : List Item} (h : ∀ i ∈ its, i.ok) : spl 10 (render its ++ cE) = lines its ++ [wEnd, []] := by
  have e : render its ++ cE = render its ++ (wEnd ++ 10 :: []) := by simp [cE]
  rw [e, spl_render h, spl_cut 10 _ _ (by decide)]
  rfl
abbrev zScore : List AV := [.f 0, .f 0, .f 0, .nl, .nl, .nl]
end Go.Ax
