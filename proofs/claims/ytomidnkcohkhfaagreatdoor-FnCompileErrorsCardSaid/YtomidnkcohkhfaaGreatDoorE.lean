/-
  laws.FnCompileErrors returns true at every input and leaves both arguments as they were, with the listed tables of the standard library laid as the program's text lays them and every other listed variable at any value of its type.
-/
import Derived.Test.YtomidnkcohkhfaaGreatDoorJ1
import Derived.Test.YtomidnkcohkhfaaGreatDoorD15
import Derived.Test.YtomidnkcohkhfaaGreatDoorCards
import Derived.Test.YtomidnkcohkhfaaGreatDoorTie
import Derived.Lay
import Derived.LaidMore
import Derived.Shelf.Vars
namespace Go.Proofs.YtomidnkcohkhfaaGreatDoor.fnCompileErrors
open Go.ChangeShapes Go.WideShapes Go.ChangeAt Go.RowKit Go.Ax

theorem laid_tail {P : Program} {W : World} {n : String} {d : DataW Unit} {rest : List (String × DataW Unit)} (h : laidMet P ((n, d) :: rest) W) : laidMet P rest W := by
  obtain ⟨ps, ⟨g, t, cs, fuel, p, q, h1, h2, h3, h4, h5, rfl⟩, hn, hf⟩ := h
  exact ⟨q, h5, (List.nodup_append.1 hn).2.1, fun b off hb => hf b off (List.mem_append_right _ hb)⟩
theorem own : ownKnob Tryz.prog.godebug = none := by kernel_rfl
theorem laidOut : laidOutB Tryz.prog = true := by kernel_rfl
theorem gPow : Tryz.prog.globalNamed "internal/strconv.uint64pow10" = some 4 := by kernel_rfl
theorem tPow : (Tryz.prog.globals[4]?).map (·.type) = some 257 := by kernel_rfl
theorem uPow : Tryz.prog.underlying 257 = some (.array 20 126) := by kernel_rfl
theorem uWord : Tryz.prog.underlying 126 = some (.int .u64) := by kernel_rfl
theorem cWord : Tryz.prog.cellsOf 126 = 1 := by kernel_rfl
theorem cPow : Tryz.prog.cellsOf 257 = 20 := by kernel_rfl
theorem uBytes : Tryz.prog.underlying 22 = some (.slice 5) := by kernel_rfl
theorem uByte : Tryz.prog.underlying 5 = some (.int .u8) := by kernel_rfl
theorem cByte : Tryz.prog.cellsOf 5 = 1 := by kernel_rfl
theorem uBool : Tryz.prog.underlying 4 = some .bool := by kernel_rfl

theorem table {W : World} (h : laidMetH Tryz.prog Rows.fnCompileErrorsRow.laid W) : Lib.TabIs Tryz.prog W "internal/strconv.uint64pow10" .u64 Lib.pow10Tab := by
  rw [MakeChecks.laidMetH_plain _ _ _ (by kernel_rfl)] at h
  exact Lib.tabIs_of_head (t := 257) (e := 126) (n := 20) gPow tPow uPow uWord cWord cPow (laid_tail (laid_tail h))
theorem maxlen {W : World} (h : W.ShapedOpen Tryz.prog) : ∃ m, W.cell? ⟨0, 0, none⟩ = some (.int .i64 m) :=
  Go.Proofs.cell_of_shapedOpen_int (g := 0) (t := 3) (zero := #[.int .i64 0]) h (of_decide_eq_true (by kernel_rfl)) (by kernel_rfl) rfl (by kernel_rfl) (by kernel_rfl) (by kernel_rfl)
theorem gok {W : World} (hl : laidMetH Tryz.prog Rows.fnCompileErrorsRow.laid W) (hs : W.ShapedOpen Tryz.prog) : GOk (rowsOf W) where
  maxlen := (maxlen hs).imp fun _ hm _ _ _ _ g => g.cellOf hm
  pow10 := fun _ _ _ _ g => g.varOf (table hl)

theorem met (os : Os) (args : Array Value) : laidMetH Tryz.prog Rows.fnCompileErrorsRow.laid ((World.laidAll Tryz.prog os Rows.fnCompileErrorsRow.laid).forCall (fun _ _ => 0) ⟨#[], args, []⟩).memory := by
  rw [MakeChecks.laidMetH_plain _ _ _ (by kernel_rfl)]
  exact laidMet_laidAll _ (by kernel_rfl) (by kernel_rfl)
theorem reads (os : Os) {H : Type} (enc : TypeId × Value → H) : ∃ places, DataW.whole enc Tryz.prog ((World.laidAll Tryz.prog os Rows.fnCompileErrorsRow.laid).forCall (fun _ _ => 0) ⟨#[], #[.slice none 0 0, .slice none 0 0], []⟩).memory Tryz.f4.params.toList Rows.fnCompileErrorsSpec.vars false #[Value.slice none 0 0, Value.slice none 0 0].toList 8 = some ([.nil, .nil], [], places) :=
  ⟨[], by kernel_rfl⟩
set_option maxRecDepth 100000 in
/-- An input that fits: two empty slices. -/
theorem fits (os : Os) {H : Type} (enc : TypeId × Value → H) : ∃ (w : World) (tape : Tape) (i : Input), w.os = os ∧ (w.forCall tape i).Shaped Tryz.checked.prog ∧ i.vars = [] ∧ Input.okWide Tryz.checked.prog (w.forCall tape i) .any w.heap.size 4 i ∧
      (OpenSpec.ofChange Rows.fnCompileErrorsSpec).preRow enc Tryz.checked.prog Tryz.f4 Rows.fnCompileErrorsRow.domain false Rows.fnCompileErrorsRow.laid (w.forCall tape i).memory i.args ∧ ({} : Assume).holds Tryz.checked.prog (lone (Frame.enter Tryz.checked.prog 4 i.args .normal) [] (w.forCall tape i)) := by
  obtain ⟨places, hx⟩ := reads os enc
  have hok : Input.okWideB Tryz.checked.prog ((World.laidAll Tryz.prog os Rows.fnCompileErrorsRow.laid).forCall (fun _ _ => 0) ⟨#[], #[.slice none 0 0, .slice none 0 0], []⟩) 4 ⟨#[], #[.slice none 0 0, .slice none 0 0], []⟩ = true := by kernel_rfl
  exact ⟨World.laidAll Tryz.prog os Rows.fnCompileErrorsRow.laid, fun _ _ => 0, ⟨#[], #[.slice none 0 0, .slice none 0 0], []⟩, World.laidAll_os _ _ _, World.shaped_of_ZipB (by kernel_rfl) (by kernel_rfl), (Input.okWide_of_okWideB (base := 0) hok).1, (Input.okWide_of_okWideB hok).2,
    OpenSpec.preRow_of_cond 8 hx (by kernel_rfl) (fun k hk => by cases hk) (by kernel_rfl) (met os _), by
    simp only [Assume.holds]
    exact ⟨by simp, by simp, fun _ => Modest.zero, by simp, by simp⟩⟩
end Go.Proofs.YtomidnkcohkhfaaGreatDoor.fnCompileErrors
namespace Go.Proofs.YtomidnkcohkhfaaGreatDoor.fnCompileErrors
open Go.ChangeShapes Go.WideShapes Go.ChangeAt Go.RowKit Go.Ax

theorem readable : ∀ t ∈ Tryz.f4.params.toList, Tryz.prog.readableRec t = true ∧ t < Tryz.prog.types.size := by
  rw [Tryz.params4]
  intro t ht
  obtain rfl : t = 22 := by simpa using ht
  exact ⟨by kernel_rfl, of_decide_eq_true (by kernel_rfl)⟩

set_option maxRecDepth 100000 in
theorem lifted (os : Os) (started : os.Started) (H : Type) (enc : TypeId × Value → H) (F : Stop.Interp) :
    ReturnsInHanded {} Tryz.checked os 4 .any ((OpenSpec.ofChange Rows.fnCompileErrorsSpec).preRow enc Tryz.prog Tryz.f4 Rows.fnCompileErrorsRow.domain false Rows.fnCompileErrorsRow.laid) (((OpenSpec.ofChange Rows.fnCompileErrorsSpec).at F).post enc Tryz.prog Tryz.f4 false true false false) := by
  refine returnsInHanded_of_row (C := Tryz.checked) (s := OpenSpec.ofChange Rows.fnCompileErrorsSpec) own started (by kernel_rfl) Tryz.func4 (fits os enc) ?_
  intro W base args ds gs before hval0 hW _ _ _ hL hsh _
  have hval : ∀ (j : Nat) t v, Tryz.f4.params[j]? = some t → args[j]? = some v → Value.okWide Tryz.prog W .any base t v := hval0
  have hW' := hW
  obtain ⟨p, q, hA0, hV, rfl, _, _⟩ := hW
  have hA : DataW.TrodAll enc Tryz.prog W 0 (fun _ => true) true Tryz.f4.params.toList args.toList ds p := hA0
  rw [Tryz.params4] at hA hval
  obtain ⟨v0, v1, d0, d1, p0, p1, rfl, rfl, rfl, h0, h1⟩ := trodAll_two hA
  obtain ⟨rfl, rfl⟩ := trodVars_none hV
  obtain ⟨a0, l0, c0, rfl⟩ := okWide_slice uBytes (hval 0 22 v0 rfl rfl)
  obtain ⟨a1, l1, c1, rfl⟩ := okWide_slice uBytes (hval 1 22 v1 rfl rfl)
  obtain ⟨xs, hx⟩ := bytes_in uBytes uByte cByte h0 rfl
  obtain ⟨ys, hy⟩ := bytes_in uBytes uByte cByte h1 rfl
  have law := (law_ac (gok hL hsh) xs ys).run (rowsOf W) (fun _ => default) W _ (good_start W _) (by simp [AV.lims, AV.lim, lims_encB]) (by simp only [rels]; exact ⟨_, _, rfl, hx _, _, _, rfl, hy _, rfl⟩)
  refine law.mono ?_
  rintro e W' ⟨v, rfl, K', ρ', _, hE, hv, _⟩
  simp only [rel] at hv
  subst hv
  exact ⟨_, rfl, post_kept hW' rfl laidOut readable hE.fr.os hE.fr.output (fun b hb => hE.fr.same b hb (fun i ⟨l, o, h, _⟩ => absurd (Heap.get_lt h) (by simp)))
    (fun _ _ _ => trodAll_cons_mk (shut_bool uBool _) trodAll_mk0) rfl rfl (ok_one (by kernel_rfl) rfl (okWide_bool_mk uBool _))⟩

theorem said : Rows.FnCompileErrorsSaid :=
  OpenClaim.holds_of_cond 4 Tryz.f4 rfl rfl rfl rfl rfl rfl rfl ⟨rfl, rfl, rfl, rfl, rfl⟩ rfl rfl rfl rfl rfl (by kernel_rfl) Tryz.func4 (by kernel_rfl)
    (of_decide_eq_true (by kernel_rfl)) (by unfold Func.isWrapper; first | (rw [if_pos (by decide +kernel)]; kernel_rfl) | (rw [if_neg (by decide +kernel)]; exact ⟨rfl, rfl⟩))
    (fun os started H enc _ F => by rw [OpenClaim.pre_eq_preRow]; exact lifted os started H enc F)

/-- No parameter wants a stand-in; the program's own looks are off: what the card asks. -/
theorem plain (f : FuncId) (fn : Func) (hf : Tryz.pinned.checked.prog.funcNamed Rows.fnCompileErrorsRow.func = some f) (hfn : Tryz.pinned.checked.prog.funcs[f]? = some fn) :
    true = Tryz.pinned.checked.prog.looks [] ∧ ∀ (j : Nat) t, fn.params[j]? = some t → Tryz.pinned.checked.prog.wantsStandIn t = false := by
  obtain rfl : f = 4 := Option.some.inj ((show Tryz.prog.funcNamed Rows.fnCompileErrorsRow.func = some 4 by kernel_rfl).symm.trans hf) |>.symm
  obtain rfl : fn = Tryz.f4 := (Option.some.inj (Tryz.func4.symm.trans hfn)).symm
  refine ⟨by kernel_rfl, fun j t ht => ?_⟩
  rw [Tryz.params4] at ht
  obtain rfl : t = 22 := by simpa using Array.mem_of_getElem? ht
  exact (show Tryz.prog.wantsStandIn 22 = false by kernel_rfl)

theorem card : Rows.FnCompileErrorsCardSaid :=
  Claim7.holds_tied_plain_at .later [] _ _ _ _ said (fun _ h => by cases h) (by kernel_rfl) (fun _ h => by cases h) fnCompileErrors_row_tie rfl ⟨rfl, rfl⟩ (by kernel_rfl) rfl plain (by kernel_rfl)
end Go.Proofs.YtomidnkcohkhfaaGreatDoor.fnCompileErrors
