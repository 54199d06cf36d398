/-
  Library functions at this program.
-/
import Derived.Test.YtomidnkcohkhfaaGreatDoorD3
import Derived.Test.YtomidnkcohkhfaaGreatDoorP1
import Derived.Test.YtomidnkcohkhfaaGreatDoorK12
import Derived.Test.YtomidnkcohkhfaaGreatDoorShelf
namespace Go.Ax
open Go.Proofs
variable {G : Mem}
/-- What the library's variables hold. -/
structure GOk (G : Mem) : Prop where
  maxlen : ∃ m, ∀ (K : Mem) (ρ : Place) (H : Heap) (w : World), Good G K ρ H w → w.cell? ⟨0, 0, none⟩ = some (.int .i64 m)
  pow10 : ∀ (K : Mem) (ρ : Place) (H : Heap) (w : World), Good G K ρ H w → Lib.TabIs Tryz.prog w "internal/strconv.uint64pow10" .u64 Lib.pow10Tab

theorem split_str (c : UInt8) (l : List UInt8) : Lib.splitB (str [c]) 0 (Lib.countB (str l) (str [c])) (str l) = (spl c l).map str := by
  have h := Lib.splitB_data (str [c]) 0 (Lib.countB (str l) (str [c])) (str l)
  have h2 : Lib.splitK (str [c]).data.toList 0 (Lib.countB (str l) (str [c])) (str l).data.toList = spl c l := splitK_spl c l
  rw [h2] at h
  rw [← h, List.map_map]
  conv => lhs; rw [← List.map_id (Lib.splitB _ _ _ _)]
  exact List.map_congr_left fun x _ => (str_toList x).symm
theorem Split_ac (hG : GOk G) (l : List UInt8) (c : UInt8) (hs : l.length < 1000000) : ACall Tryz.prog G 28 [.s (str l), .s (str [c])] [] (.ss ((spl c l).map str)) [] := by
  obtain ⟨m, hm⟩ := hG.maxlen
  refine ACall.ofNew ⟨_, Tryz.func28, by kernel_rfl, rfl⟩ (by simp only [AV.lim]; exact lims_encS _) fun K ρ w vs g hr => ?_
  simp only [rels, rel] at hr
  obtain ⟨_, _, rfl, rfl, _, _, rfl, rfl, rfl⟩ := hr
  refine (Tryz.strings_Split (str l) (str [c]) m w (by rw [str_size]; omega) (hm K ρ _ w g) (by rw [str_size]; exact Nat.le_refl 1)).mono ?_
  rintro e w' ⟨rfl, rfl⟩
  have hlen := Lib.splitB_all (str [c]) (by rw [str_size]; exact Nat.le_refl 1) 0 _ (str l) rfl
  rw [split_str] at hlen ⊢
  refine ⟨_, _, _, rfl, rfl, ?_⟩
  rw [← hlen]
  exact rel_ss _ _
theorem Cut_ac (hG : GOk G) (l : List UInt8) (c : UInt8) (hs : l.length < 1000000) {a b : List UInt8} {f : Bool} (h : Lib.cut l [c] = (a, b, f)) : ACall Tryz.prog G 116 [.s (str l), .s (str [c])] [] (.tup [.s (str a), .s (str b), .b f]) [] := by
  obtain ⟨m, hm⟩ := hG.maxlen
  refine ACall.ofBelow ⟨_, Tryz.func116, by kernel_rfl, rfl⟩ rfl fun K ρ w vs g hr => ?_
  simp only [rels, rel] at hr
  obtain ⟨_, _, rfl, rfl, _, _, rfl, rfl, rfl⟩ := hr
  refine (Tryz.strings_Cut (str l) (str [c]) m w (by rw [str_size]; omega) (hm K ρ _ w g)).mono ?_
  rintro e w' ⟨rfl, n, rfl⟩
  refine ⟨_, rfl, ⟨rfl, rfl, rfl, Nat.le_refl _, fun _ _ => rfl⟩, ?_⟩
  have h' : Lib.cut (str l).data.toList (str [c]).data.toList = (a, b, f) := h
  rw [h']
  simp [rel, rels]
theorem CutPrefix_ac (l p : List UInt8) : ACall Tryz.prog G 171 [.s (str l), .s (str p)] [] (.tup [.s (str (Lib.trimPrefix l p)), .b (Lib.hasPrefix l p)]) [] := by
  refine ACall.ofBelow ⟨_, Tryz.func171, by kernel_rfl, rfl⟩ rfl fun K ρ w vs g hr => ?_
  simp only [rels, rel] at hr
  obtain ⟨_, _, rfl, rfl, _, _, rfl, rfl, rfl⟩ := hr
  refine (Tryz.strings_CutPrefix (str l) (str p) w).mono ?_
  rintro e w' ⟨rfl, rfl⟩
  refine ⟨_, rfl, ⟨rfl, rfl, rfl, Nat.le_refl _, fun _ _ => rfl⟩, ?_⟩
  simp [rel, rels]
theorem below_bytes (w : World) (e : TypeId) (s : ByteArray) : RowKit.Below w.heap.size w (Lib.bytesWorld w e s) :=
  ⟨rfl, rfl, rfl, by rw [Lib.bytesWorld_size]; omega, fun k hk => Lib.bytesWorld_at_old w e s k hk⟩
theorem ParseInt_ac (l : List UInt8) (v : Int) (hl : l.length < 1000000) (h : Lib.parseIntB 64 l = .ok v) : ACall Tryz.prog G 71 [.s (str l), .i 10, .i 64] [] (.tup [.i v, .val .nilIface]) [] := by
  refine ACall.ofBelow ⟨_, Tryz.func71, by kernel_rfl, rfl⟩ rfl fun K ρ w vs g hr => ?_
  simp only [rels, rel] at hr
  obtain ⟨_, _, rfl, rfl, _, _, rfl, rfl, _, _, rfl, rfl, rfl⟩ := hr
  refine (Tryz.strconv_ParseInt_10_at64_ok (str l) (by rw [str_size]; omega) v h w).mono ?_
  rintro e w' ⟨rfl, hw⟩
  refine ⟨_, rfl, ?_, by simp [rel, rels]⟩
  rcases hw with rfl | ⟨t, rfl⟩
  · exact RowKit.Below.refl _ _
  · exact below_bytes _ _ _
theorem FormatInt_ac (hG : GOk G) (n : Int) (h0 : -9223372036854775808 ≤ n) (h1 : n ≤ 9223372036854775807) : ACall Tryz.prog G 83 [.i n, .i 10] [] (.s (str (Lib.itoa n))) [] := by
  refine ACall.ofBelow ⟨_, Tryz.func83, by kernel_rfl, rfl⟩ rfl fun K ρ w vs g hr => ?_
  simp only [rels, rel] at hr
  obtain ⟨_, _, rfl, rfl, _, _, rfl, rfl, rfl⟩ := hr
  refine (Tryz.strconv_FormatInt_10 n h0 h1 w (hG.pow10 K ρ _ w g)).mono ?_
  rintro e w' ⟨rfl, k, os, rfl⟩
  exact ⟨_, rfl, ⟨rfl, rfl, rfl, by simp [Sort.grow, World.drewN], fun k hk => by simp only [Sort.grow, World.drewN]; rw [Array.getElem?_append_left hk]⟩, by simp [rel]⟩
theorem Contains_ac (xs : List ByteArray) (s : ByteArray) (hx : xs.length < 1000000) : ACall Tryz.prog G 103 [.ss xs, .s s] [] (.b (Lib.containsS xs s)) [] := by
  refine ACall.ofBelow ⟨_, Tryz.func103, by kernel_rfl, rfl⟩ rfl fun K ρ w vs g hr => ?_
  simp only [rels] at hr
  obtain ⟨v, _, rfl, hv, u, _, rfl, hu, rfl⟩ := hr
  simp only [rel] at hu
  subst hu
  rcases cells_ss g hv with ⟨rfl, a, cap, rfl⟩ | ⟨b, o, cap, rfl, hc⟩
  · refine (Tryz.slices_Contains_string_empty a cap s w).mono ?_
    rintro e w' ⟨rfl, rfl⟩
    exact ⟨_, rfl, RowKit.Below.refl _ _, by simp only [rel]; rw [show Lib.containsS [] s = false from Bool.eq_false_iff.2 (fun h => by simpa using (Lib.containsS_iff [] s).1 h)]⟩
  · refine (Tryz.slices_Contains_string b o xs.length cap xs s w (Nat.le_refl _) (by omega) hc).mono ?_
    rintro e w' ⟨rfl, rfl⟩
    exact ⟨_, rfl, RowKit.Below.refl _ _, by simp [rel]⟩
theorem Index_ac (xs : List ByteArray) (s : ByteArray) (hx : xs.length < 1000000) : ACall Tryz.prog G 153 [.ss xs, .s s] [] (.i (Lib.idxOfS xs s)) [] := by
  refine ACall.ofBelow ⟨_, Tryz.func153, by kernel_rfl, rfl⟩ rfl fun K ρ w vs g hr => ?_
  simp only [rels] at hr
  obtain ⟨v, _, rfl, hv, u, _, rfl, hu, rfl⟩ := hr
  simp only [rel] at hu
  subst hu
  rcases cells_ss g hv with ⟨rfl, a, cap, rfl⟩ | ⟨b, o, cap, rfl, hc⟩
  · refine (Tryz.slices_Index_string_empty a cap s w).mono ?_
    rintro e w' ⟨rfl, rfl⟩
    exact ⟨_, rfl, RowKit.Below.refl _ _, by simp [rel]⟩
  · refine (Tryz.slices_Index_string b o xs.length cap xs s w (Nat.le_refl _) (by omega) hc).mono ?_
    rintro e w' ⟨rfl, rfl⟩
    exact ⟨_, rfl, RowKit.Below.refl _ _, by simp [rel]⟩
end Go.Ax
