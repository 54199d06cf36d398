/-
  Freezing a result.
-/
import Derived.Test.YtomidnkcohkhfaaGreatDoorK13
namespace Go.Ax
variable {P : Program} {G : Mem} {H H' : Heap}
theorem setO_some : ∀ {H : Heap} {l : Nat} {o : AObj}, H.get l = some o → ∃ H1, setO H l none = some H1
  | [], _, _, h => by simp [Heap.get] at h
  | _ :: H, 0, _, _ => ⟨_, rfl⟩
  | x :: H, l + 1, o, h => by
    obtain ⟨H1, h1⟩ := setO_some (H := H) (l := l) (o := o) (by simpa [Heap.get] using h)
    exact ⟨x :: H1, by simp [setO, h1]⟩
theorem ACall.freezeT {f : FuncId} {args : List AV} {res res' : AV} {l : Nat} {cells : List AV} (h : ACall P G f args [] res H') (ho : H'.get l = some ⟨cells, true⟩) (hr : Frz l cells res res') (hl : res'.lim 0 = true) : ACall P G f args [] res' [] := by
  obtain ⟨H1, h1⟩ := setO_some ho
  exact ACall.take 0 (ACall.freeze h ho h1 HFrz.same hr) (by simp) (by simp) (by simp) hl (fun l o h => by simp [Heap.get] at h)
end Go.Ax
