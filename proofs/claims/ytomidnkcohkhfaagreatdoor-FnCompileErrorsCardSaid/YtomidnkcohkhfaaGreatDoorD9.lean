/-
  A line's compilation, by the kind of the line.
-/
import Derived.Test.YtomidnkcohkhfaaGreatDoorD8
namespace Go.Ax
open Go.Proofs
variable {G : Mem}
theorem notFull {xs : List (List UInt8)} (h : ([] : List UInt8) ∉ xs) : Lib.containsS (xs.map str) (str []) = false :=
  Bool.eq_false_iff.2 fun hc => by
    have := (Lib.containsS_iff _ _).1 hc
    simp only [List.mem_map] at this
    obtain ⟨x, hx, he⟩ := this
    exact h (str_inj he ▸ hx)
/-- A line and its words. -/
theorem words_ac (hG : GOk G) (l : List UInt8) (ws : List (List UInt8)) (hl : l.length < 1000000) (hw : spl 32 l = ws) (hn : ws.length < 1000) (he : ([] : List UInt8) ∉ ws) :
    ACall Tryz.prog G 28 [.s (str l), .s (str [32])] [] (.ss (ws.map str)) [] ∧ ACall Tryz.prog G 103 [.ss (ws.map str), .s (str [])] [] (.b false) [] := by
  subst hw
  refine ⟨Split_ac hG l 32 hl, ?_⟩
  have h := Contains_ac (G := G) ((spl 32 l).map str) (str []) (by rw [List.length_map]; omega)
  rwa [notFull he] at h
abbrev wWhat : List UInt8 := [119, 104, 97, 116]
abbrev wIs : List UInt8 := [105, 115]
abbrev wThis : List UInt8 := [116, 104, 105, 115]
abbrev wEnd : List UInt8 := [101, 110, 100]
theorem compile_string {H H' : Heap} {res : AV} {line : List UInt8} (hm : Nat.ble H.length H'.length = true) (hl : hlims H'.length H' = true) (hr : res.lim H'.length = true)
    (hs : ACall Tryz.prog G 28 [.s (str line), .s (str [32])] [] (.lst 5 [.s (str wString), .s (str [97]), .s (str [48]), .s (str [48]), .s (str [48])]) [])
    (hc : ACall Tryz.prog G 103 [.lst 5 [.s (str wString), .s (str [97]), .s (str [48]), .s (str [48]), .s (str [48])], .s (str [])] [] (.b false) [])
    (h : ACall Tryz.prog G 106 [.ptr 0 0, .lst 5 [.s (str wString), .s (str [97]), .s (str [48]), .s (str [48]), .s (str [48])]] H res H') :
    ACall Tryz.prog G 56 [.ptr 0 0, .s (str line)] H res H' := by
  refine ACall.intro T Tryz.func56 (by kernel_rfl) rfl rfl rfl hm ?_
  repeat' (first
    | refine W.seq ?_
    | refine W.block ?_
    | refine W.region ?_
    | refine Wops.nilS ?_
    | (refine Wops.nil ?_; dsimp only [thenP, inBlockP])
    | (refine W.ret ?_; try dsimp only [thenP, inBlockP])
    | (refine W.skip ?_; try dsimp only [thenP, inBlockP])
    | (apply W.condT; rfl)
    | (apply W.condF; rfl)
    | (apply Wops.cons; (first | (apply XOp.assign; rfl) | (apply XOp.move; rfl) | (apply XOp.idxC T; rfl; rfl; rfl; rfl; rfl; rfl; (first | omega | (simp only [Option.getD_some, Option.getD_none] at *; omega) | decide); (first | omega | (simp only [Option.getD_some, Option.getD_none] at *; omega) | decide)) | (apply XOp.idxB T; rfl; rfl; rfl; rfl; rfl; rfl; rfl; (first | omega | (simp only [Option.getD_some, Option.getD_none] at *; omega) | decide); (first | omega | (simp only [Option.getD_some, Option.getD_none] at *; omega) | decide)) | (apply XOp.idxF T; rfl; rfl; rfl; rfl; rfl; rfl; rfl; (first | omega | (simp only [Option.getD_some, Option.getD_none] at *; omega) | decide); (first | omega | (simp only [Option.getD_some, Option.getD_none] at *; omega) | decide)) | (apply XOp.idxS T; rfl; rfl; rfl; rfl; rfl; rfl; rfl; (first | omega | (simp only [Option.getD_some, Option.getD_none] at *; omega) | decide); (first | omega | (simp only [Option.getD_some, Option.getD_none] at *; omega) | decide)) | (apply XOp.idxI T; rfl; rfl; rfl; rfl; rfl; rfl; rfl; (first | omega | (simp only [Option.getD_some, Option.getD_none] at *; omega) | decide); (first | omega | (simp only [Option.getD_some, Option.getD_none] at *; omega) | decide)) | (apply XOp.idxO1 T; rfl; rfl; rfl; rfl; rfl; rfl; (first | omega | (simp only [Option.getD_some, Option.getD_none] at *; omega) | decide); (first | omega | (simp only [Option.getD_some, Option.getD_none] at *; omega) | decide)) | (apply XOp.idxO T; rfl; rfl; rfl; rfl; rfl; (first | omega | (simp only [Option.getD_some, Option.getD_none] at *; omega) | decide); (first | omega | (simp only [Option.getD_some, Option.getD_none] at *; omega) | decide); rfl) | (apply XOp.load T; rfl; rfl) | (apply XOp.loadF T; rfl; rfl; rfl; rfl; rfl; (first | omega | (simp only [List.length_set]; omega))) | (apply XOp.scmp; rfl; rfl; rfl) | (apply XOp.lenL T; rfl; rfl; rfl) | (apply XOp.lenO T; rfl; rfl; rfl) | (apply XOp.lenS T; rfl; rfl; rfl) | (apply XOp.lenE T; rfl; rfl; rfl) | (apply XOp.lenNil T; rfl; rfl; rfl) | (apply XOp.cmp; rfl; rfl; rfl) | (apply XOp.pick; rfl; rfl) | (apply XOp.call; rfl; apply ACall.pure (hs); (first | rfl | (focus (simp only [AV.lims, AV.lim, lims_append, lims_encF, lims_encS, lims_encI, lims_encB, Bool.and_self, Bool.and_true, Bool.true_and, lims_encE, hp0, hp1, hp2, hq1, hq2, compC, List.length_cons, List.length_nil, Nat.reduceAdd]; (try rfl); done)))) | (apply XOp.call; rfl; apply ACall.pure (hc); (first | rfl | (focus (simp only [AV.lims, AV.lim, lims_append, lims_encF, lims_encS, lims_encI, lims_encB, Bool.and_self, Bool.and_true, Bool.true_and, lims_encE, hp0, hp1, hp2, hq1, hq2, compC, List.length_cons, List.length_nil, Nat.reduceAdd]; (try rfl); done)))) | (apply XOp.call; rfl; exact h)); rfl; rfl; rfl)
    | (apply Wops.skip; rfl; rfl; rfl)
    | (apply Wops.gs; rfl; (intro h; try rw [h]; try replace h := of_decide_eq_true h); rotate_left; (intro h; try rw [h]; try replace h := of_decide_eq_false h); rotate_left)
    | (apply W.condP; rfl; intro h; rotate_left; intro h; rotate_left)
    | (apply W.cond; rfl; intro h; rotate_left; intro h; rotate_left)
    | (exfalso; omega)
    | (apply RetQ.pure (Or.inr rfl); rfl; (first | rfl | (focus (simp [AV.lim, AV.lims]; done))); (first | exact Sub.refl _ | (refine Sub.bool ?_; first | rfl | (focus (simp [*]; done)) | skip) | (refine Sub.int ?_; first | rfl | skip) | (refine Sub.flt ?_; first | rfl | skip) | skip))
    | (apply RetQ.cutE (Or.inr rfl); rfl; rfl; (first | rfl | (focus (simp only [AV.lims, AV.lim, lims_append, lims_encF, lims_encS, lims_encI, lims_encB, Bool.and_self, Bool.and_true, Bool.true_and, lims_encE, hp0, hp1, hp2, hq1, hq2, compC, List.length_cons, List.length_nil, Nat.reduceAdd]; (try rfl); done))); (first | rfl | (focus (simp only [hlims, AV.lims, AV.lim, lims_append, lims_encF, lims_encS, lims_encI, lims_encB, Bool.and_self, Bool.and_true, Bool.true_and, lims_encE, hp0, hp1, hp2, hq1, hq2, compC, List.length_cons, List.length_nil, Nat.reduceAdd]; (try rfl); done)) | (focus (simp [hlims, AV.lims, AV.lim, lims_append, lims_encF, lims_encS, lims_encI, lims_encB, Bool.and_self, Bool.and_true, Bool.true_and, lims_encE, hp0, hp1, hp2, hq1, hq2, compC, List.length_cons, List.length_nil, Nat.reduceAdd]; done))); (first | exact Sub.refl _ | (refine Sub.bool ?_; first | rfl | (focus (simp [*]; done)) | skip) | (refine Sub.int ?_; first | rfl | skip) | (refine Sub.flt ?_; first | rfl | skip) | skip); (first | rfl | skip)))
  exact RetQ.cutE (Or.inr rfl) rfl (by simp) hr hl (Sub.refl _) (by simp)
theorem compile_play {H H' : Heap} {res : AV} {line : List UInt8} {kb db : List UInt8} (hm : Nat.ble H.length H'.length = true) (hl : hlims H'.length H' = true) (hr : res.lim H'.length = true)
    (hs : ACall Tryz.prog G 28 [.s (str line), .s (str [32])] [] (.lst 5 [.s (str wPlay), .s (str [97]), .s (str kb), .s (str [49, 47, 50]), .s (str db)]) [])
    (hc : ACall Tryz.prog G 103 [.lst 5 [.s (str wPlay), .s (str [97]), .s (str kb), .s (str [49, 47, 50]), .s (str db)], .s (str [])] [] (.b false) [])
    (h : ACall Tryz.prog G 108 [.ptr 0 0, .lst 5 [.s (str wPlay), .s (str [97]), .s (str kb), .s (str [49, 47, 50]), .s (str db)]] H res H') :
    ACall Tryz.prog G 56 [.ptr 0 0, .s (str line)] H res H' := by
  refine ACall.intro T Tryz.func56 (by kernel_rfl) rfl rfl rfl hm ?_
  repeat' (first
    | refine W.seq ?_
    | refine W.block ?_
    | refine W.region ?_
    | refine Wops.nilS ?_
    | (refine Wops.nil ?_; dsimp only [thenP, inBlockP])
    | (refine W.ret ?_; try dsimp only [thenP, inBlockP])
    | (refine W.skip ?_; try dsimp only [thenP, inBlockP])
    | (apply W.condT; rfl)
    | (apply W.condF; rfl)
    | (apply Wops.cons; (first | (apply XOp.assign; rfl) | (apply XOp.move; rfl) | (apply XOp.idxC T; rfl; rfl; rfl; rfl; rfl; rfl; (first | omega | (simp only [Option.getD_some, Option.getD_none] at *; omega) | decide); (first | omega | (simp only [Option.getD_some, Option.getD_none] at *; omega) | decide)) | (apply XOp.idxB T; rfl; rfl; rfl; rfl; rfl; rfl; rfl; (first | omega | (simp only [Option.getD_some, Option.getD_none] at *; omega) | decide); (first | omega | (simp only [Option.getD_some, Option.getD_none] at *; omega) | decide)) | (apply XOp.idxF T; rfl; rfl; rfl; rfl; rfl; rfl; rfl; (first | omega | (simp only [Option.getD_some, Option.getD_none] at *; omega) | decide); (first | omega | (simp only [Option.getD_some, Option.getD_none] at *; omega) | decide)) | (apply XOp.idxS T; rfl; rfl; rfl; rfl; rfl; rfl; rfl; (first | omega | (simp only [Option.getD_some, Option.getD_none] at *; omega) | decide); (first | omega | (simp only [Option.getD_some, Option.getD_none] at *; omega) | decide)) | (apply XOp.idxI T; rfl; rfl; rfl; rfl; rfl; rfl; rfl; (first | omega | (simp only [Option.getD_some, Option.getD_none] at *; omega) | decide); (first | omega | (simp only [Option.getD_some, Option.getD_none] at *; omega) | decide)) | (apply XOp.idxO1 T; rfl; rfl; rfl; rfl; rfl; rfl; (first | omega | (simp only [Option.getD_some, Option.getD_none] at *; omega) | decide); (first | omega | (simp only [Option.getD_some, Option.getD_none] at *; omega) | decide)) | (apply XOp.idxO T; rfl; rfl; rfl; rfl; rfl; (first | omega | (simp only [Option.getD_some, Option.getD_none] at *; omega) | decide); (first | omega | (simp only [Option.getD_some, Option.getD_none] at *; omega) | decide); rfl) | (apply XOp.load T; rfl; rfl) | (apply XOp.loadF T; rfl; rfl; rfl; rfl; rfl; (first | omega | (simp only [List.length_set]; omega))) | (apply XOp.scmp; rfl; rfl; rfl) | (apply XOp.lenL T; rfl; rfl; rfl) | (apply XOp.lenO T; rfl; rfl; rfl) | (apply XOp.lenS T; rfl; rfl; rfl) | (apply XOp.lenE T; rfl; rfl; rfl) | (apply XOp.lenNil T; rfl; rfl; rfl) | (apply XOp.cmp; rfl; rfl; rfl) | (apply XOp.pick; rfl; rfl) | (apply XOp.call; rfl; apply ACall.pure (hs); (first | rfl | (focus (simp only [AV.lims, AV.lim, lims_append, lims_encF, lims_encS, lims_encI, lims_encB, Bool.and_self, Bool.and_true, Bool.true_and, lims_encE, hp0, hp1, hp2, hq1, hq2, compC, List.length_cons, List.length_nil, Nat.reduceAdd]; (try rfl); done)))) | (apply XOp.call; rfl; apply ACall.pure (hc); (first | rfl | (focus (simp only [AV.lims, AV.lim, lims_append, lims_encF, lims_encS, lims_encI, lims_encB, Bool.and_self, Bool.and_true, Bool.true_and, lims_encE, hp0, hp1, hp2, hq1, hq2, compC, List.length_cons, List.length_nil, Nat.reduceAdd]; (try rfl); done)))) | (apply XOp.call; rfl; exact h)); rfl; rfl; rfl)
    | (apply Wops.skip; rfl; rfl; rfl)
    | (apply Wops.gs; rfl; (intro h; try rw [h]; try replace h := of_decide_eq_true h); rotate_left; (intro h; try rw [h]; try replace h := of_decide_eq_false h); rotate_left)
    | (apply W.condP; rfl; intro h; rotate_left; intro h; rotate_left)
    | (apply W.cond; rfl; intro h; rotate_left; intro h; rotate_left)
    | (exfalso; omega)
    | (apply RetQ.pure (Or.inr rfl); rfl; (first | rfl | (focus (simp [AV.lim, AV.lims]; done))); (first | exact Sub.refl _ | (refine Sub.bool ?_; first | rfl | (focus (simp [*]; done)) | skip) | (refine Sub.int ?_; first | rfl | skip) | (refine Sub.flt ?_; first | rfl | skip) | skip))
    | (apply RetQ.cutE (Or.inr rfl); rfl; rfl; (first | rfl | (focus (simp only [AV.lims, AV.lim, lims_append, lims_encF, lims_encS, lims_encI, lims_encB, Bool.and_self, Bool.and_true, Bool.true_and, lims_encE, hp0, hp1, hp2, hq1, hq2, compC, List.length_cons, List.length_nil, Nat.reduceAdd]; (try rfl); done))); (first | rfl | (focus (simp only [hlims, AV.lims, AV.lim, lims_append, lims_encF, lims_encS, lims_encI, lims_encB, Bool.and_self, Bool.and_true, Bool.true_and, lims_encE, hp0, hp1, hp2, hq1, hq2, compC, List.length_cons, List.length_nil, Nat.reduceAdd]; (try rfl); done)) | (focus (simp [hlims, AV.lims, AV.lim, lims_append, lims_encF, lims_encS, lims_encI, lims_encB, Bool.and_self, Bool.and_true, Bool.true_and, lims_encE, hp0, hp1, hp2, hq1, hq2, compC, List.length_cons, List.length_nil, Nat.reduceAdd]; done))); (first | exact Sub.refl _ | (refine Sub.bool ?_; first | rfl | (focus (simp [*]; done)) | skip) | (refine Sub.int ?_; first | rfl | skip) | (refine Sub.flt ?_; first | rfl | skip) | skip); (first | rfl | skip)))
  exact RetQ.cutE (Or.inr rfl) rfl (by simp) hr hl (Sub.refl _) (by simp)
theorem compile_wait {H H' : Heap} {res : AV} {line : List UInt8} {db : List UInt8} (hm : Nat.ble H.length H'.length = true) (hl : hlims H'.length H' = true) (hr : res.lim H'.length = true)
    (hs : ACall Tryz.prog G 28 [.s (str line), .s (str [32])] [] (.lst 2 [.s (str wWait), .s (str db)]) [])
    (hc : ACall Tryz.prog G 103 [.lst 2 [.s (str wWait), .s (str db)], .s (str [])] [] (.b false) [])
    (h : ACall Tryz.prog G 107 [.ptr 0 0, .lst 2 [.s (str wWait), .s (str db)]] H res H') :
    ACall Tryz.prog G 56 [.ptr 0 0, .s (str line)] H res H' := by
  refine ACall.intro T Tryz.func56 (by kernel_rfl) rfl rfl rfl hm ?_
  repeat' (first
    | refine W.seq ?_
    | refine W.block ?_
    | refine W.region ?_
    | refine Wops.nilS ?_
    | (refine Wops.nil ?_; dsimp only [thenP, inBlockP])
    | (refine W.ret ?_; try dsimp only [thenP, inBlockP])
    | (refine W.skip ?_; try dsimp only [thenP, inBlockP])
    | (apply W.condT; rfl)
    | (apply W.condF; rfl)
    | (apply Wops.cons; (first | (apply XOp.assign; rfl) | (apply XOp.move; rfl) | (apply XOp.idxC T; rfl; rfl; rfl; rfl; rfl; rfl; (first | omega | (simp only [Option.getD_some, Option.getD_none] at *; omega) | decide); (first | omega | (simp only [Option.getD_some, Option.getD_none] at *; omega) | decide)) | (apply XOp.idxB T; rfl; rfl; rfl; rfl; rfl; rfl; rfl; (first | omega | (simp only [Option.getD_some, Option.getD_none] at *; omega) | decide); (first | omega | (simp only [Option.getD_some, Option.getD_none] at *; omega) | decide)) | (apply XOp.idxF T; rfl; rfl; rfl; rfl; rfl; rfl; rfl; (first | omega | (simp only [Option.getD_some, Option.getD_none] at *; omega) | decide); (first | omega | (simp only [Option.getD_some, Option.getD_none] at *; omega) | decide)) | (apply XOp.idxS T; rfl; rfl; rfl; rfl; rfl; rfl; rfl; (first | omega | (simp only [Option.getD_some, Option.getD_none] at *; omega) | decide); (first | omega | (simp only [Option.getD_some, Option.getD_none] at *; omega) | decide)) | (apply XOp.idxI T; rfl; rfl; rfl; rfl; rfl; rfl; rfl; (first | omega | (simp only [Option.getD_some, Option.getD_none] at *; omega) | decide); (first | omega | (simp only [Option.getD_some, Option.getD_none] at *; omega) | decide)) | (apply XOp.idxO1 T; rfl; rfl; rfl; rfl; rfl; rfl; (first | omega | (simp only [Option.getD_some, Option.getD_none] at *; omega) | decide); (first | omega | (simp only [Option.getD_some, Option.getD_none] at *; omega) | decide)) | (apply XOp.idxO T; rfl; rfl; rfl; rfl; rfl; (first | omega | (simp only [Option.getD_some, Option.getD_none] at *; omega) | decide); (first | omega | (simp only [Option.getD_some, Option.getD_none] at *; omega) | decide); rfl) | (apply XOp.load T; rfl; rfl) | (apply XOp.loadF T; rfl; rfl; rfl; rfl; rfl; (first | omega | (simp only [List.length_set]; omega))) | (apply XOp.scmp; rfl; rfl; rfl) | (apply XOp.lenL T; rfl; rfl; rfl) | (apply XOp.lenO T; rfl; rfl; rfl) | (apply XOp.lenS T; rfl; rfl; rfl) | (apply XOp.lenE T; rfl; rfl; rfl) | (apply XOp.lenNil T; rfl; rfl; rfl) | (apply XOp.cmp; rfl; rfl; rfl) | (apply XOp.pick; rfl; rfl) | (apply XOp.call; rfl; apply ACall.pure (hs); (first | rfl | (focus (simp only [AV.lims, AV.lim, lims_append, lims_encF, lims_encS, lims_encI, lims_encB, Bool.and_self, Bool.and_true, Bool.true_and, lims_encE, hp0, hp1, hp2, hq1, hq2, compC, List.length_cons, List.length_nil, Nat.reduceAdd]; (try rfl); done)))) | (apply XOp.call; rfl; apply ACall.pure (hc); (first | rfl | (focus (simp only [AV.lims, AV.lim, lims_append, lims_encF, lims_encS, lims_encI, lims_encB, Bool.and_self, Bool.and_true, Bool.true_and, lims_encE, hp0, hp1, hp2, hq1, hq2, compC, List.length_cons, List.length_nil, Nat.reduceAdd]; (try rfl); done)))) | (apply XOp.call; rfl; exact h)); rfl; rfl; rfl)
    | (apply Wops.skip; rfl; rfl; rfl)
    | (apply Wops.gs; rfl; (intro h; try rw [h]; try replace h := of_decide_eq_true h); rotate_left; (intro h; try rw [h]; try replace h := of_decide_eq_false h); rotate_left)
    | (apply W.condP; rfl; intro h; rotate_left; intro h; rotate_left)
    | (apply W.cond; rfl; intro h; rotate_left; intro h; rotate_left)
    | (exfalso; omega)
    | (apply RetQ.pure (Or.inr rfl); rfl; (first | rfl | (focus (simp [AV.lim, AV.lims]; done))); (first | exact Sub.refl _ | (refine Sub.bool ?_; first | rfl | (focus (simp [*]; done)) | skip) | (refine Sub.int ?_; first | rfl | skip) | (refine Sub.flt ?_; first | rfl | skip) | skip))
    | (apply RetQ.cutE (Or.inr rfl); rfl; rfl; (first | rfl | (focus (simp only [AV.lims, AV.lim, lims_append, lims_encF, lims_encS, lims_encI, lims_encB, Bool.and_self, Bool.and_true, Bool.true_and, lims_encE, hp0, hp1, hp2, hq1, hq2, compC, List.length_cons, List.length_nil, Nat.reduceAdd]; (try rfl); done))); (first | rfl | (focus (simp only [hlims, AV.lims, AV.lim, lims_append, lims_encF, lims_encS, lims_encI, lims_encB, Bool.and_self, Bool.and_true, Bool.true_and, lims_encE, hp0, hp1, hp2, hq1, hq2, compC, List.length_cons, List.length_nil, Nat.reduceAdd]; (try rfl); done)) | (focus (simp [hlims, AV.lims, AV.lim, lims_append, lims_encF, lims_encS, lims_encI, lims_encB, Bool.and_self, Bool.and_true, Bool.true_and, lims_encE, hp0, hp1, hp2, hq1, hq2, compC, List.length_cons, List.length_nil, Nat.reduceAdd]; done))); (first | exact Sub.refl _ | (refine Sub.bool ?_; first | rfl | (focus (simp [*]; done)) | skip) | (refine Sub.int ?_; first | rfl | skip) | (refine Sub.flt ?_; first | rfl | skip) | skip); (first | rfl | skip)))
  exact RetQ.cutE (Or.inr rfl) rfl (by simp) hr hl (Sub.refl _) (by simp)
theorem compile_repeat {H H' : Heap} {res : AV} {line : List UInt8} (hm : Nat.ble H.length H'.length = true) (hl : hlims H'.length H' = true) (hr : res.lim H'.length = true)
    (hs : ACall Tryz.prog G 28 [.s (str line), .s (str [32])] [] (.lst 2 [.s (str wRepeat), .s (str [49])]) [])
    (hc : ACall Tryz.prog G 103 [.lst 2 [.s (str wRepeat), .s (str [49])], .s (str [])] [] (.b false) [])
    (h : ACall Tryz.prog G 109 [.ptr 0 0, .lst 2 [.s (str wRepeat), .s (str [49])]] H res H') :
    ACall Tryz.prog G 56 [.ptr 0 0, .s (str line)] H res H' := by
  refine ACall.intro T Tryz.func56 (by kernel_rfl) rfl rfl rfl hm ?_
  repeat' (first
    | refine W.seq ?_
    | refine W.block ?_
    | refine W.region ?_
    | refine Wops.nilS ?_
    | (refine Wops.nil ?_; dsimp only [thenP, inBlockP])
    | (refine W.ret ?_; try dsimp only [thenP, inBlockP])
    | (refine W.skip ?_; try dsimp only [thenP, inBlockP])
    | (apply W.condT; rfl)
    | (apply W.condF; rfl)
    | (apply Wops.cons; (first | (apply XOp.assign; rfl) | (apply XOp.move; rfl) | (apply XOp.idxC T; rfl; rfl; rfl; rfl; rfl; rfl; (first | omega | (simp only [Option.getD_some, Option.getD_none] at *; omega) | decide); (first | omega | (simp only [Option.getD_some, Option.getD_none] at *; omega) | decide)) | (apply XOp.idxB T; rfl; rfl; rfl; rfl; rfl; rfl; rfl; (first | omega | (simp only [Option.getD_some, Option.getD_none] at *; omega) | decide); (first | omega | (simp only [Option.getD_some, Option.getD_none] at *; omega) | decide)) | (apply XOp.idxF T; rfl; rfl; rfl; rfl; rfl; rfl; rfl; (first | omega | (simp only [Option.getD_some, Option.getD_none] at *; omega) | decide); (first | omega | (simp only [Option.getD_some, Option.getD_none] at *; omega) | decide)) | (apply XOp.idxS T; rfl; rfl; rfl; rfl; rfl; rfl; rfl; (first | omega | (simp only [Option.getD_some, Option.getD_none] at *; omega) | decide); (first | omega | (simp only [Option.getD_some, Option.getD_none] at *; omega) | decide)) | (apply XOp.idxI T; rfl; rfl; rfl; rfl; rfl; rfl; rfl; (first | omega | (simp only [Option.getD_some, Option.getD_none] at *; omega) | decide); (first | omega | (simp only [Option.getD_some, Option.getD_none] at *; omega) | decide)) | (apply XOp.idxO1 T; rfl; rfl; rfl; rfl; rfl; rfl; (first | omega | (simp only [Option.getD_some, Option.getD_none] at *; omega) | decide); (first | omega | (simp only [Option.getD_some, Option.getD_none] at *; omega) | decide)) | (apply XOp.idxO T; rfl; rfl; rfl; rfl; rfl; (first | omega | (simp only [Option.getD_some, Option.getD_none] at *; omega) | decide); (first | omega | (simp only [Option.getD_some, Option.getD_none] at *; omega) | decide); rfl) | (apply XOp.load T; rfl; rfl) | (apply XOp.loadF T; rfl; rfl; rfl; rfl; rfl; (first | omega | (simp only [List.length_set]; omega))) | (apply XOp.scmp; rfl; rfl; rfl) | (apply XOp.lenL T; rfl; rfl; rfl) | (apply XOp.lenO T; rfl; rfl; rfl) | (apply XOp.lenS T; rfl; rfl; rfl) | (apply XOp.lenE T; rfl; rfl; rfl) | (apply XOp.lenNil T; rfl; rfl; rfl) | (apply XOp.cmp; rfl; rfl; rfl) | (apply XOp.pick; rfl; rfl) | (apply XOp.call; rfl; apply ACall.pure (hs); (first | rfl | (focus (simp only [AV.lims, AV.lim, lims_append, lims_encF, lims_encS, lims_encI, lims_encB, Bool.and_self, Bool.and_true, Bool.true_and, lims_encE, hp0, hp1, hp2, hq1, hq2, compC, List.length_cons, List.length_nil, Nat.reduceAdd]; (try rfl); done)))) | (apply XOp.call; rfl; apply ACall.pure (hc); (first | rfl | (focus (simp only [AV.lims, AV.lim, lims_append, lims_encF, lims_encS, lims_encI, lims_encB, Bool.and_self, Bool.and_true, Bool.true_and, lims_encE, hp0, hp1, hp2, hq1, hq2, compC, List.length_cons, List.length_nil, Nat.reduceAdd]; (try rfl); done)))) | (apply XOp.call; rfl; exact h)); rfl; rfl; rfl)
    | (apply Wops.skip; rfl; rfl; rfl)
    | (apply Wops.gs; rfl; (intro h; try rw [h]; try replace h := of_decide_eq_true h); rotate_left; (intro h; try rw [h]; try replace h := of_decide_eq_false h); rotate_left)
    | (apply W.condP; rfl; intro h; rotate_left; intro h; rotate_left)
    | (apply W.cond; rfl; intro h; rotate_left; intro h; rotate_left)
    | (exfalso; omega)
    | (apply RetQ.pure (Or.inr rfl); rfl; (first | rfl | (focus (simp [AV.lim, AV.lims]; done))); (first | exact Sub.refl _ | (refine Sub.bool ?_; first | rfl | (focus (simp [*]; done)) | skip) | (refine Sub.int ?_; first | rfl | skip) | (refine Sub.flt ?_; first | rfl | skip) | skip))
    | (apply RetQ.cutE (Or.inr rfl); rfl; rfl; (first | rfl | (focus (simp only [AV.lims, AV.lim, lims_append, lims_encF, lims_encS, lims_encI, lims_encB, Bool.and_self, Bool.and_true, Bool.true_and, lims_encE, hp0, hp1, hp2, hq1, hq2, compC, List.length_cons, List.length_nil, Nat.reduceAdd]; (try rfl); done))); (first | rfl | (focus (simp only [hlims, AV.lims, AV.lim, lims_append, lims_encF, lims_encS, lims_encI, lims_encB, Bool.and_self, Bool.and_true, Bool.true_and, lims_encE, hp0, hp1, hp2, hq1, hq2, compC, List.length_cons, List.length_nil, Nat.reduceAdd]; (try rfl); done)) | (focus (simp [hlims, AV.lims, AV.lim, lims_append, lims_encF, lims_encS, lims_encI, lims_encB, Bool.and_self, Bool.and_true, Bool.true_and, lims_encE, hp0, hp1, hp2, hq1, hq2, compC, List.length_cons, List.length_nil, Nat.reduceAdd]; done))); (first | exact Sub.refl _ | (refine Sub.bool ?_; first | rfl | (focus (simp [*]; done)) | skip) | (refine Sub.int ?_; first | rfl | skip) | (refine Sub.flt ?_; first | rfl | skip) | skip); (first | rfl | skip)))
  exact RetQ.cutE (Or.inr rfl) rfl (by simp) hr hl (Sub.refl _) (by simp)
theorem compile_what {H : Heap} (hl : hlims H.length H = true)
    (hs : ACall Tryz.prog G 28 [.s (str (wWhat ++ 32 :: wIs ++ 32 :: wThis)), .s (str [32])] [] (.lst 3 [.s (str wWhat), .s (str wIs), .s (str wThis)]) [])
    (hc : ACall Tryz.prog G 103 [.lst 3 [.s (str wWhat), .s (str wIs), .s (str wThis)], .s (str [])] [] (.b false) []) :
    ACall Tryz.prog G 56 [.ptr 0 0, .s (str (wWhat ++ 32 :: wIs ++ 32 :: wThis))] H (.i 5) H := by
  have hm : Nat.ble H.length H.length = true := by simp
  refine ACall.intro T Tryz.func56 (by kernel_rfl) rfl rfl rfl hm ?_
  repeat' (first
    | refine W.seq ?_
    | refine W.block ?_
    | refine W.region ?_
    | refine Wops.nilS ?_
    | (refine Wops.nil ?_; dsimp only [thenP, inBlockP])
    | (refine W.ret ?_; try dsimp only [thenP, inBlockP])
    | (refine W.skip ?_; try dsimp only [thenP, inBlockP])
    | (apply W.condT; rfl)
    | (apply W.condF; rfl)
    | (apply Wops.cons; (first | (apply XOp.assign; rfl) | (apply XOp.move; rfl) | (apply XOp.idxC T; rfl; rfl; rfl; rfl; rfl; rfl; (first | omega | (simp only [Option.getD_some, Option.getD_none] at *; omega) | decide); (first | omega | (simp only [Option.getD_some, Option.getD_none] at *; omega) | decide)) | (apply XOp.idxB T; rfl; rfl; rfl; rfl; rfl; rfl; rfl; (first | omega | (simp only [Option.getD_some, Option.getD_none] at *; omega) | decide); (first | omega | (simp only [Option.getD_some, Option.getD_none] at *; omega) | decide)) | (apply XOp.idxF T; rfl; rfl; rfl; rfl; rfl; rfl; rfl; (first | omega | (simp only [Option.getD_some, Option.getD_none] at *; omega) | decide); (first | omega | (simp only [Option.getD_some, Option.getD_none] at *; omega) | decide)) | (apply XOp.idxS T; rfl; rfl; rfl; rfl; rfl; rfl; rfl; (first | omega | (simp only [Option.getD_some, Option.getD_none] at *; omega) | decide); (first | omega | (simp only [Option.getD_some, Option.getD_none] at *; omega) | decide)) | (apply XOp.idxI T; rfl; rfl; rfl; rfl; rfl; rfl; rfl; (first | omega | (simp only [Option.getD_some, Option.getD_none] at *; omega) | decide); (first | omega | (simp only [Option.getD_some, Option.getD_none] at *; omega) | decide)) | (apply XOp.idxO1 T; rfl; rfl; rfl; rfl; rfl; rfl; (first | omega | (simp only [Option.getD_some, Option.getD_none] at *; omega) | decide); (first | omega | (simp only [Option.getD_some, Option.getD_none] at *; omega) | decide)) | (apply XOp.idxO T; rfl; rfl; rfl; rfl; rfl; (first | omega | (simp only [Option.getD_some, Option.getD_none] at *; omega) | decide); (first | omega | (simp only [Option.getD_some, Option.getD_none] at *; omega) | decide); rfl) | (apply XOp.load T; rfl; rfl) | (apply XOp.loadF T; rfl; rfl; rfl; rfl; rfl; (first | omega | (simp only [List.length_set]; omega))) | (apply XOp.scmp; rfl; rfl; rfl) | (apply XOp.lenL T; rfl; rfl; rfl) | (apply XOp.lenO T; rfl; rfl; rfl) | (apply XOp.lenS T; rfl; rfl; rfl) | (apply XOp.lenE T; rfl; rfl; rfl) | (apply XOp.lenNil T; rfl; rfl; rfl) | (apply XOp.cmp; rfl; rfl; rfl) | (apply XOp.pick; rfl; rfl) | (apply XOp.call; rfl; apply ACall.pure (hs); (first | rfl | (focus (simp only [AV.lims, AV.lim, lims_append, lims_encF, lims_encS, lims_encI, lims_encB, Bool.and_self, Bool.and_true, Bool.true_and, lims_encE, hp0, hp1, hp2, hq1, hq2, compC, List.length_cons, List.length_nil, Nat.reduceAdd]; (try rfl); done)))) | (apply XOp.call; rfl; apply ACall.pure (hc); (first | rfl | (focus (simp only [AV.lims, AV.lim, lims_append, lims_encF, lims_encS, lims_encI, lims_encB, Bool.and_self, Bool.and_true, Bool.true_and, lims_encE, hp0, hp1, hp2, hq1, hq2, compC, List.length_cons, List.length_nil, Nat.reduceAdd]; (try rfl); done))))); rfl; rfl; rfl)
    | (apply Wops.skip; rfl; rfl; rfl)
    | (apply Wops.gs; rfl; (intro h; try rw [h]; try replace h := of_decide_eq_true h); rotate_left; (intro h; try rw [h]; try replace h := of_decide_eq_false h); rotate_left)
    | (apply W.condP; rfl; intro h; rotate_left; intro h; rotate_left)
    | (apply W.cond; rfl; intro h; rotate_left; intro h; rotate_left)
    | (exfalso; omega)
    | (apply RetQ.pure (Or.inr rfl); rfl; (first | rfl | (focus (simp [AV.lim, AV.lims]; done))); (first | exact Sub.refl _ | (refine Sub.bool ?_; first | rfl | (focus (simp [*]; done)) | skip) | (refine Sub.int ?_; first | rfl | skip) | (refine Sub.flt ?_; first | rfl | skip) | skip))
    | (apply RetQ.cutE (Or.inr rfl); rfl; rfl; (first | rfl | (focus (simp only [AV.lims, AV.lim, lims_append, lims_encF, lims_encS, lims_encI, lims_encB, Bool.and_self, Bool.and_true, Bool.true_and, lims_encE, hp0, hp1, hp2, hq1, hq2, compC, List.length_cons, List.length_nil, Nat.reduceAdd]; (try rfl); done))); (first | rfl | (focus (simp only [hlims, AV.lims, AV.lim, lims_append, lims_encF, lims_encS, lims_encI, lims_encB, Bool.and_self, Bool.and_true, Bool.true_and, lims_encE, hp0, hp1, hp2, hq1, hq2, compC, List.length_cons, List.length_nil, Nat.reduceAdd]; (try rfl); done)) | (focus (simp [hlims, AV.lims, AV.lim, lims_append, lims_encF, lims_encS, lims_encI, lims_encB, Bool.and_self, Bool.and_true, Bool.true_and, lims_encE, hp0, hp1, hp2, hq1, hq2, compC, List.length_cons, List.length_nil, Nat.reduceAdd]; done))); (first | exact Sub.refl _ | (refine Sub.bool ?_; first | rfl | (focus (simp [*]; done)) | skip) | (refine Sub.int ?_; first | rfl | skip) | (refine Sub.flt ?_; first | rfl | skip) | skip); (first | rfl | skip)))
  exact RetQ.cutE (Or.inr rfl) rfl (by simp) rfl hl (Sub.refl _) (by simp)
theorem compile_end {H H' : Heap} {res : AV} (hm : Nat.ble H.length H'.length = true) (hl : hlims H'.length H' = true) (hr : res.lim H'.length = true)
    (hs : ACall Tryz.prog G 28 [.s (str wEnd), .s (str [32])] [] (.lst 1 [.s (str wEnd)]) [])
    (hc : ACall Tryz.prog G 103 [.lst 1 [.s (str wEnd)], .s (str [])] [] (.b false) [])
    (h : ACall Tryz.prog G 110 [.ptr 0 0] H res H') :
    ACall Tryz.prog G 56 [.ptr 0 0, .s (str wEnd)] H res H' := by
  refine ACall.intro T Tryz.func56 (by kernel_rfl) rfl rfl rfl hm ?_
  repeat' (first
    | refine W.seq ?_
    | refine W.block ?_
    | refine W.region ?_
    | refine Wops.nilS ?_
    | (refine Wops.nil ?_; dsimp only [thenP, inBlockP])
    | (refine W.ret ?_; try dsimp only [thenP, inBlockP])
    | (refine W.skip ?_; try dsimp only [thenP, inBlockP])
    | (apply W.condT; rfl)
    | (apply W.condF; rfl)
    | (apply Wops.cons; (first | (apply XOp.assign; rfl) | (apply XOp.move; rfl) | (apply XOp.idxC T; rfl; rfl; rfl; rfl; rfl; rfl; (first | omega | (simp only [Option.getD_some, Option.getD_none] at *; omega) | decide); (first | omega | (simp only [Option.getD_some, Option.getD_none] at *; omega) | decide)) | (apply XOp.idxB T; rfl; rfl; rfl; rfl; rfl; rfl; rfl; (first | omega | (simp only [Option.getD_some, Option.getD_none] at *; omega) | decide); (first | omega | (simp only [Option.getD_some, Option.getD_none] at *; omega) | decide)) | (apply XOp.idxF T; rfl; rfl; rfl; rfl; rfl; rfl; rfl; (first | omega | (simp only [Option.getD_some, Option.getD_none] at *; omega) | decide); (first | omega | (simp only [Option.getD_some, Option.getD_none] at *; omega) | decide)) | (apply XOp.idxS T; rfl; rfl; rfl; rfl; rfl; rfl; rfl; (first | omega | (simp only [Option.getD_some, Option.getD_none] at *; omega) | decide); (first | omega | (simp only [Option.getD_some, Option.getD_none] at *; omega) | decide)) | (apply XOp.idxI T; rfl; rfl; rfl; rfl; rfl; rfl; rfl; (first | omega | (simp only [Option.getD_some, Option.getD_none] at *; omega) | decide); (first | omega | (simp only [Option.getD_some, Option.getD_none] at *; omega) | decide)) | (apply XOp.idxO1 T; rfl; rfl; rfl; rfl; rfl; rfl; (first | omega | (simp only [Option.getD_some, Option.getD_none] at *; omega) | decide); (first | omega | (simp only [Option.getD_some, Option.getD_none] at *; omega) | decide)) | (apply XOp.idxO T; rfl; rfl; rfl; rfl; rfl; (first | omega | (simp only [Option.getD_some, Option.getD_none] at *; omega) | decide); (first | omega | (simp only [Option.getD_some, Option.getD_none] at *; omega) | decide); rfl) | (apply XOp.load T; rfl; rfl) | (apply XOp.loadF T; rfl; rfl; rfl; rfl; rfl; (first | omega | (simp only [List.length_set]; omega))) | (apply XOp.scmp; rfl; rfl; rfl) | (apply XOp.lenL T; rfl; rfl; rfl) | (apply XOp.lenO T; rfl; rfl; rfl) | (apply XOp.lenS T; rfl; rfl; rfl) | (apply XOp.lenE T; rfl; rfl; rfl) | (apply XOp.lenNil T; rfl; rfl; rfl) | (apply XOp.cmp; rfl; rfl; rfl) | (apply XOp.pick; rfl; rfl) | (apply XOp.call; rfl; apply ACall.pure (hs); (first | rfl | (focus (simp only [AV.lims, AV.lim, lims_append, lims_encF, lims_encS, lims_encI, lims_encB, Bool.and_self, Bool.and_true, Bool.true_and, lims_encE, hp0, hp1, hp2, hq1, hq2, compC, List.length_cons, List.length_nil, Nat.reduceAdd]; (try rfl); done)))) | (apply XOp.call; rfl; apply ACall.pure (hc); (first | rfl | (focus (simp only [AV.lims, AV.lim, lims_append, lims_encF, lims_encS, lims_encI, lims_encB, Bool.and_self, Bool.and_true, Bool.true_and, lims_encE, hp0, hp1, hp2, hq1, hq2, compC, List.length_cons, List.length_nil, Nat.reduceAdd]; (try rfl); done)))) | (apply XOp.call; rfl; exact h)); rfl; rfl; rfl)
    | (apply Wops.skip; rfl; rfl; rfl)
    | (apply Wops.gs; rfl; (intro h; try rw [h]; try replace h := of_decide_eq_true h); rotate_left; (intro h; try rw [h]; try replace h := of_decide_eq_false h); rotate_left)
    | (apply W.condP; rfl; intro h; rotate_left; intro h; rotate_left)
    | (apply W.cond; rfl; intro h; rotate_left; intro h; rotate_left)
    | (exfalso; omega)
    | (apply RetQ.pure (Or.inr rfl); rfl; (first | rfl | (focus (simp [AV.lim, AV.lims]; done))); (first | exact Sub.refl _ | (refine Sub.bool ?_; first | rfl | (focus (simp [*]; done)) | skip) | (refine Sub.int ?_; first | rfl | skip) | (refine Sub.flt ?_; first | rfl | skip) | skip))
    | (apply RetQ.cutE (Or.inr rfl); rfl; rfl; (first | rfl | (focus (simp only [AV.lims, AV.lim, lims_append, lims_encF, lims_encS, lims_encI, lims_encB, Bool.and_self, Bool.and_true, Bool.true_and, lims_encE, hp0, hp1, hp2, hq1, hq2, compC, List.length_cons, List.length_nil, Nat.reduceAdd]; (try rfl); done))); (first | rfl | (focus (simp only [hlims, AV.lims, AV.lim, lims_append, lims_encF, lims_encS, lims_encI, lims_encB, Bool.and_self, Bool.and_true, Bool.true_and, lims_encE, hp0, hp1, hp2, hq1, hq2, compC, List.length_cons, List.length_nil, Nat.reduceAdd]; (try rfl); done)) | (focus (simp [hlims, AV.lims, AV.lim, lims_append, lims_encF, lims_encS, lims_encI, lims_encB, Bool.and_self, Bool.and_true, Bool.true_and, lims_encE, hp0, hp1, hp2, hq1, hq2, compC, List.length_cons, List.length_nil, Nat.reduceAdd]; done))); (first | exact Sub.refl _ | (refine Sub.bool ?_; first | rfl | (focus (simp [*]; done)) | skip) | (refine Sub.int ?_; first | rfl | skip) | (refine Sub.flt ?_; first | rfl | skip) | skip); (first | rfl | skip)))
  exact RetQ.cutE (Or.inr rfl) rfl (by simp) hr hl (Sub.refl _) (by simp)
end Go.Ax
