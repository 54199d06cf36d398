/-
  The equal tuning.
-/
import Derived.Test.YtomidnkcohkhfaaGreatDoorD6
import Derived.Test.YtomidnkcohkhfaaGreatDoorK14
namespace Go.Ax
open Go.Proofs
variable {G : Mem}
theorem isBase_440 : ACall Tryz.prog G 102 [.f 1138491392] [] (.b true) [] := by
  have h := inside_ac (G := G) 1138491392 1065353216 1184645120
  rw [show (fcmp .geq .f32 1138491392 1065353216 && fcmp .leq .f32 1138491392 1184645120) = true by decide] at h
  refine ACall.intro T Tryz.func102 (by kernel_rfl) rfl rfl rfl rfl ?_
  repeat' (first
    | refine W.seq ?_
    | refine W.region ?_
    | refine Wops.nilS ?_
    | (refine Wops.nil ?_; dsimp only [thenP, inBlockP])
    | (refine W.ret ?_; try dsimp only [thenP, inBlockP])
    | (refine W.skip ?_; try dsimp only [thenP, inBlockP])
    | (apply Wops.cons; (first | (apply XOp.assign; rfl) | (apply XOp.move; rfl) | (apply XOp.call; rfl; first | (apply ACall.pure (h); (first | rfl | (focus (simp only [AV.lims, AV.lim, lims_append, lims_encF, lims_encS, lims_encI, lims_encB, Bool.and_self, Bool.and_true, Bool.true_and]; (try rfl); done)))) | (apply ACall.borrow (h); (focus ((repeat (first | exact Views.nil | (apply Views.same; (first | rfl | (focus (simp only [AV.lims, AV.lim, lims_append, lims_encF, lims_encS, lims_encI, lims_encB, Bool.and_self, Bool.and_true, Bool.true_and]; (try rfl); done)))) | apply Views.cons | (apply View.same; (first | rfl | (focus (simp only [AV.lims, AV.lim, lims_append, lims_encF, lims_encS, lims_encI, lims_encB, Bool.and_self, Bool.and_true, Bool.true_and]; (try rfl); done)))) | (apply View.whole; rfl) | (apply View.wholeP; rfl) | apply View.agg | (intro h; first | rfl | exact flat0 h | exact absurd h (by decide)))); done)); rfl; rfl) | exact h)); rfl; rfl; rfl)
    | (exfalso; omega)
    | (apply RetQ.pure (Or.inr rfl); rfl; (first | rfl | (focus (simp [AV.lim, AV.lims]; done))); (first | exact Sub.refl _ | (refine Sub.bool ?_; first | rfl | (focus (simp [*]; done)) | skip) | (refine Sub.int ?_; first | rfl | skip) | (refine Sub.flt ?_; first | rfl | skip) | skip))
    | (apply RetQ.cutE (Or.inr rfl); rfl; rfl; (first | rfl | (focus (simp only [AV.lims, AV.lim, lims_append, lims_encF, lims_encS, lims_encI, lims_encB, Bool.and_self, Bool.and_true, Bool.true_and]; (try rfl); done))); (first | rfl | (focus (simp only [hlims, AV.lims, AV.lim, lims_append, lims_encF, lims_encS, lims_encI, lims_encB, Bool.and_self, Bool.and_true, Bool.true_and]; (try rfl); done)) | (focus (simp [hlims, AV.lims, AV.lim, lims_append, lims_encF, lims_encS, lims_encI, lims_encB, Bool.and_self, Bool.and_true, Bool.true_and]; done))); (first | exact Sub.refl _ | (refine Sub.bool ?_; first | rfl | (focus (simp [*]; done)) | skip) | (refine Sub.int ?_; first | rfl | skip) | (refine Sub.flt ?_; first | rfl | skip) | skip); (first | rfl | skip)))
def degs12 : List Nat := (List.range 12).map fun (i : Nat) => fdiv (fnum (1200 * (i : Int))) (fnum 12)
set_option maxRecDepth 100000 in
theorem EqualTuning_0 : ACall Tryz.prog G 55 [.f 1138491392, .i 12] [] (.tup [.agg [.f 1138491392, .f 1150681088, .slc 13 0 12 1], .i 0])
    [some ⟨[.f 1138491392, .f 1150681088, .slc 13 0 12 1], false⟩, some ⟨[.f 1138491392, .f 1150681088, .slc 13 0 12 1], false⟩, none, none, none, none, none, none, none, none, none, none, none, some ⟨degs12.flatMap encF, true⟩] := by
  have hw := within_ac (G := G) 12 1 31
  rw [decide_eq_true (by decide)] at hw
  refine ACall.intro T Tryz.func55 (by kernel_rfl) rfl rfl rfl rfl ?_
  repeat' (first
    | refine W.seq ?_
    | refine W.block ?_
    | refine W.rounds 14 ?_
    | refine RW.step ?_
    | refine W.region ?_
    | refine Wops.nilS ?_
    | (refine Wops.nil ?_; dsimp only [thenP, inBlockP])
    | (refine W.ret ?_; try dsimp only [thenP, inBlockP])
    | (refine W.exit ?_; try dsimp only [thenP, inBlockP, cond, Nat.beq])
    | (refine W.skip ?_; try dsimp only [thenP, inBlockP])
    | (apply W.condT; rfl)
    | (apply W.condF; rfl)
    | (apply Wops.cons; (first | (apply XOp.assign; rfl) | (apply XOp.move; rfl) | (apply XOp.not; rfl; rfl) | (apply XOp.pick; rfl; rfl) | (apply XOp.build T; rfl; rfl; rfl; rfl; rfl) | (apply XOp.cmp; rfl; rfl; rfl) | (apply XOp.fieldP T; rfl; rfl; (simp only [Nat.zero_add] <;> rfl)) | (apply XOp.fieldF T; rfl; rfl; rfl) | (apply XOp.load T; rfl; rfl) | (apply XOp.loadF T; rfl; rfl; rfl; rfl; rfl; (first | omega | (simp only [List.length_set]; omega))) | (apply XOp.arithI; rfl; rfl; rfl; (first | (simp only [IntKind.InR]; omega) | (simp only [IntKind.InR]; decide))) | (apply XOp.arith; rfl; rfl; rfl) | (apply XOp.cvtIF T; rfl; rfl; rfl; rfl) | (apply XOp.farith; rfl; rfl; rfl) | (apply XOp.buildSliceF T; rfl; rfl; rfl; rfl; rfl; rfl) | (apply XOp.call; rfl; first | (apply ACall.pure (isBase_440); (first | rfl | (focus (simp only [AV.lims, AV.lim, lims_append, lims_encF, lims_encS, lims_encI, lims_encB, Bool.and_self, Bool.and_true, Bool.true_and]; (try rfl); done)))) | (apply ACall.borrow (isBase_440); (focus ((repeat (first | exact Views.nil | (apply Views.same; (first | rfl | (focus (simp only [AV.lims, AV.lim, lims_append, lims_encF, lims_encS, lims_encI, lims_encB, Bool.and_self, Bool.and_true, Bool.true_and]; (try rfl); done)))) | apply Views.cons | (apply View.same; (first | rfl | (focus (simp only [AV.lims, AV.lim, lims_append, lims_encF, lims_encS, lims_encI, lims_encB, Bool.and_self, Bool.and_true, Bool.true_and]; (try rfl); done)))) | (apply View.whole; rfl) | (apply View.wholeP; rfl) | apply View.agg | (intro h; first | rfl | exact flat0 h | exact absurd h (by decide)))); done)); rfl; rfl) | exact isBase_440) | (apply XOp.call; rfl; first | (apply ACall.pure (hw); (first | rfl | (focus (simp only [AV.lims, AV.lim, lims_append, lims_encF, lims_encS, lims_encI, lims_encB, Bool.and_self, Bool.and_true, Bool.true_and]; (try rfl); done)))) | (apply ACall.borrow (hw); (focus ((repeat (first | exact Views.nil | (apply Views.same; (first | rfl | (focus (simp only [AV.lims, AV.lim, lims_append, lims_encF, lims_encS, lims_encI, lims_encB, Bool.and_self, Bool.and_true, Bool.true_and]; (try rfl); done)))) | apply Views.cons | (apply View.same; (first | rfl | (focus (simp only [AV.lims, AV.lim, lims_append, lims_encF, lims_encS, lims_encI, lims_encB, Bool.and_self, Bool.and_true, Bool.true_and]; (try rfl); done)))) | (apply View.whole; rfl) | (apply View.wholeP; rfl) | apply View.agg | (intro h; first | rfl | exact flat0 h | exact absurd h (by decide)))); done)); rfl; rfl) | exact hw) | (apply XOp.alloc T; rfl; (simp only [List.length_cons, List.length_nil, Nat.zero_add] <;> rfl); rfl) | (apply XOp.store T; rfl; rfl; rfl) | (apply XOp.storeF T; rfl; rfl; rfl; rfl; rfl; rfl; (first | omega | (simp only [List.length_set]; omega)); rfl) | (apply XOp.appendN T; rfl; rfl; rfl; rfl; rfl; rfl; rfl; rfl; rfl; rfl; (first | exact ASrc.emp | exact ASrc.nil | exact ASrc.lst rfl | (apply ASrc.slc rfl rfl; first | rfl | simp) | exact ASrc.lst (by simp) | (apply ASrc.str rfl; rfl)); (first | (apply fit_le; rfl; omega) | (simp only []; omega) | (simp; omega) | decide); (simp only [List.length_cons, List.length_nil, Nat.zero_add, Nat.reduceAdd] <;> rfl); rfl) | (apply XOp.appendO T; rfl; rfl; rfl; rfl; rfl; rfl; rfl; rfl; rfl; rfl; (first | rfl | assumption | simp); (first | exact ASrc.emp | exact ASrc.nil | exact ASrc.lst rfl | (apply ASrc.slc rfl rfl; first | rfl | simp) | exact ASrc.lst (by simp) | (apply ASrc.str rfl; rfl)); (first | (apply fit_le; rfl; omega) | (simp only []; omega) | (simp; omega) | decide); rfl; (simp only [List.length_cons, List.length_nil, Nat.zero_add, Nat.reduceAdd] <;> rfl); rfl; rfl)); rfl; rfl; rfl)
    | (apply Wops.consN; (first | (apply XOp.alloc T; rfl; (simp only [List.length_cons, List.length_nil, Nat.zero_add, Nat.add_zero, Nat.reduceAdd, Nat.reduceMul] <;> rfl); rfl) | (apply XOp.store T; rfl; rfl; rfl) | (apply XOp.storeF T; rfl; rfl; rfl; rfl; rfl; rfl; (first | omega | (simp only [List.length_set]; omega)); rfl) | (apply XOp.appendN T; rfl; rfl; rfl; rfl; rfl; rfl; rfl; rfl; rfl; rfl; (first | exact ASrc.emp | exact ASrc.nil | exact ASrc.lst rfl | (apply ASrc.slc rfl rfl; first | rfl | simp) | exact ASrc.lst (by simp) | (apply ASrc.str rfl; rfl)); (first | (apply fit_le; rfl; omega) | (simp only []; omega) | (simp; omega) | decide); (simp only [List.length_cons, List.length_nil, Nat.zero_add, Nat.add_zero, Nat.reduceAdd, Nat.reduceMul] <;> rfl); rfl) | (apply XOp.appendO T; rfl; rfl; rfl; rfl; rfl; rfl; rfl; rfl; rfl; rfl; (first | rfl | assumption | simp); (first | exact ASrc.emp | exact ASrc.nil | exact ASrc.lst rfl | (apply ASrc.slc rfl rfl; first | rfl | simp) | exact ASrc.lst (by simp) | (apply ASrc.str rfl; rfl)); (first | (apply fit_le; rfl; omega) | (simp only []; omega) | (simp; omega) | decide); rfl; (simp only [List.length_cons, List.length_nil, Nat.zero_add, Nat.add_zero, Nat.reduceAdd, Nat.reduceMul] <;> rfl); rfl; rfl)); rfl; rfl)
    | (apply Wops.skip; rfl; rfl; rfl)
    | (apply Wops.gs; rfl; (intro h; try rw [h]; try replace h := of_decide_eq_true h); rotate_left; (intro h; try rw [h]; try replace h := of_decide_eq_false h); rotate_left)
    | (apply W.condP; rfl; intro h; rotate_left; intro h; rotate_left)
    | (apply W.cond; rfl; intro h; rotate_left; intro h; rotate_left)
    | (exfalso; omega)
    | (apply RetQ.pure (Or.inr rfl); rfl; (first | rfl | (focus (simp [AV.lim, AV.lims]; done))); (first | exact Sub.refl _ | (refine Sub.bool ?_; first | rfl | (focus (simp [*]; done)) | skip) | (refine Sub.int ?_; first | rfl | skip) | (refine Sub.flt ?_; first | rfl | skip) | skip))
    | (apply RetQ.cutE (Or.inr rfl); rfl; rfl; (first | rfl | (focus (simp only [AV.lims, AV.lim, lims_append, lims_encF, lims_encS, lims_encI, lims_encB, Bool.and_self, Bool.and_true, Bool.true_and]; (try rfl); done))); (first | rfl | (focus (simp only [hlims, AV.lims, AV.lim, lims_append, lims_encF, lims_encS, lims_encI, lims_encB, Bool.and_self, Bool.and_true, Bool.true_and]; (try rfl); done)) | (focus (simp [hlims, AV.lims, AV.lim, lims_append, lims_encF, lims_encS, lims_encI, lims_encB, Bool.and_self, Bool.and_true, Bool.true_and]; done))); (first | exact Sub.refl _ | (refine Sub.bool ?_; first | rfl | (focus (simp [*]; done)) | skip) | (refine Sub.int ?_; first | rfl | skip) | (refine Sub.flt ?_; first | rfl | skip) | skip); (first | rfl | skip)))
set_option maxRecDepth 100000 in
theorem EqualTuning_12 : ACall Tryz.prog G 55 [.f 1138491392, .i 12] [] (.tup [.agg [.f 1138491392, .f 1150681088, .fs degs12], .i 0]) [] := by
  refine ACall.freezeT EqualTuning_0 (l := 13) (cells := degs12.flatMap encF) rfl ?_ rfl
  refine Frz.tup (.cons (.agg (.cons .same (.cons .same (.cons (.slc ?_) .same)))) .same)
  intro h; cases h
end Go.Ax
