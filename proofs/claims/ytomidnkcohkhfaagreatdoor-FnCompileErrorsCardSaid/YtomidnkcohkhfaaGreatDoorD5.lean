/-
  Readers of numbers and names.
-/
import Derived.Test.YtomidnkcohkhfaaGreatDoorD4
import Derived.Shelf.Strings.SlTrimAscii
namespace Go.Ax
open Go.Proofs
variable {G : Mem}
theorem within_ac (n lo hi : Int) : ACall Tryz.prog G 27 [.i n, .i lo, .i hi] [] (.b (decide (lo ≤ n ∧ n ≤ hi))) [] := by
  refine ACall.intro T Tryz.func27 (by kernel_rfl) rfl rfl rfl rfl ?_
  repeat' (first
    | refine W.seq ?_
    | refine W.region ?_
    | refine Wops.nilS ?_
    | (refine Wops.nil ?_; dsimp only [thenP, inBlockP])
    | (refine W.ret ?_; try dsimp only [thenP, inBlockP])
    | (refine W.skip ?_; try dsimp only [thenP, inBlockP])
    | (apply Wops.cons; (first | (apply XOp.assign; rfl) | (apply XOp.move; rfl) | (apply XOp.cmp; rfl; rfl; rfl) | (apply XOp.pick; rfl; rfl)); rfl; rfl; rfl)
    | (apply Wops.skip; rfl; rfl; rfl)
    | (apply Wops.gs; rfl; (intro h; try rw [h]; try replace h := of_decide_eq_true h); rotate_left; (intro h; try rw [h]; try replace h := of_decide_eq_false h); rotate_left)
    | (exfalso; omega)
    | (apply RetQ.pure (Or.inr rfl); rfl; (first | rfl | (focus (simp [AV.lim, AV.lims]; done))); (first | exact Sub.refl _ | (refine Sub.bool ?_; first | rfl | (focus (simp [*]; done)) | skip) | (refine Sub.int ?_; first | rfl | skip) | (refine Sub.flt ?_; first | rfl | skip) | skip))
    | (apply RetQ.cutE (Or.inr rfl); rfl; rfl; (first | rfl | (focus (simp only [AV.lims, AV.lim, lims_append, lims_encF, lims_encS, lims_encI, lims_encB, Bool.and_self, Bool.and_true, Bool.true_and]; (try rfl); done))); (first | rfl | (focus (simp only [hlims, AV.lims, AV.lim, lims_append, lims_encF, lims_encS, lims_encI, lims_encB, Bool.and_self, Bool.and_true, Bool.true_and]; (try rfl); done)) | (focus (simp [hlims, AV.lims, AV.lim, lims_append, lims_encF, lims_encS, lims_encI, lims_encB, Bool.and_self, Bool.and_true, Bool.true_and]; done))); (first | exact Sub.refl _ | (refine Sub.bool ?_; first | rfl | (focus (simp [*]; done)) | skip) | (refine Sub.int ?_; first | rfl | skip) | (refine Sub.flt ?_; first | rfl | skip) | skip); (first | rfl | skip)))
  all_goals simp [*]
theorem inside_ac (a lo hi : Nat) : ACall Tryz.prog G 77 [.f a, .f lo, .f hi] [] (.b (fcmp .geq .f32 a lo && fcmp .leq .f32 a hi)) [] := by
  refine ACall.intro T Tryz.func77 (by kernel_rfl) rfl rfl rfl rfl ?_
  repeat' (first
    | refine W.seq ?_
    | refine W.region ?_
    | refine Wops.nilS ?_
    | (refine Wops.nil ?_; dsimp only [thenP, inBlockP])
    | (refine W.ret ?_; try dsimp only [thenP, inBlockP])
    | (refine W.skip ?_; try dsimp only [thenP, inBlockP])
    | (apply Wops.cons; (first | (apply XOp.assign; rfl) | (apply XOp.move; rfl) | (apply XOp.fcmp; rfl; rfl; rfl) | (apply XOp.pick; rfl; rfl)); rfl; rfl; rfl)
    | (apply Wops.skip; rfl; rfl; rfl)
    | (apply Wops.gs; rfl; (intro h; try rw [h]; try replace h := of_decide_eq_true h); rotate_left; (intro h; try rw [h]; try replace h := of_decide_eq_false h); rotate_left)
    | (exfalso; omega)
    | (apply RetQ.pure (Or.inr rfl); rfl; (first | rfl | (focus (simp [AV.lim, AV.lims]; done))); (first | exact Sub.refl _ | (refine Sub.bool ?_; first | rfl | (focus (simp [*]; done)) | skip) | (refine Sub.int ?_; first | rfl | skip) | (refine Sub.flt ?_; first | rfl | skip) | skip))
    | (apply RetQ.cutE (Or.inr rfl); rfl; rfl; (first | rfl | (focus (simp only [AV.lims, AV.lim, lims_append, lims_encF, lims_encS, lims_encI, lims_encB, Bool.and_self, Bool.and_true, Bool.true_and]; (try rfl); done))); (first | rfl | (focus (simp only [hlims, AV.lims, AV.lim, lims_append, lims_encF, lims_encS, lims_encI, lims_encB, Bool.and_self, Bool.and_true, Bool.true_and]; (try rfl); done)) | (focus (simp [hlims, AV.lims, AV.lim, lims_append, lims_encF, lims_encS, lims_encI, lims_encB, Bool.and_self, Bool.and_true, Bool.true_and]; done))); (first | exact Sub.refl _ | (refine Sub.bool ?_; first | rfl | (focus (simp [*]; done)) | skip) | (refine Sub.int ?_; first | rfl | skip) | (refine Sub.flt ?_; first | rfl | skip) | skip); (first | rfl | skip)))
theorem isPlace_ac (a : Nat) : ACall Tryz.prog G 196 [.f a] [] (.b (fcmp .geq .f32 a 0 && fcmp .lss .f32 a 1065353216)) [] := by
  refine ACall.intro T Tryz.func196 (by kernel_rfl) rfl rfl rfl rfl ?_
  repeat' (first
    | refine W.seq ?_
    | refine W.region ?_
    | refine Wops.nilS ?_
    | (refine Wops.nil ?_; dsimp only [thenP, inBlockP])
    | (refine W.ret ?_; try dsimp only [thenP, inBlockP])
    | (refine W.skip ?_; try dsimp only [thenP, inBlockP])
    | (apply Wops.cons; (first | (apply XOp.assign; rfl) | (apply XOp.move; rfl) | (apply XOp.fcmp; rfl; rfl; rfl) | (apply XOp.pick; rfl; rfl)); rfl; rfl; rfl)
    | (apply Wops.skip; rfl; rfl; rfl)
    | (apply Wops.gs; rfl; (intro h; try rw [h]; try replace h := of_decide_eq_true h); rotate_left; (intro h; try rw [h]; try replace h := of_decide_eq_false h); rotate_left)
    | (exfalso; omega)
    | (apply RetQ.pure (Or.inr rfl); rfl; (first | rfl | (focus (simp [AV.lim, AV.lims]; done))); (first | exact Sub.refl _ | (refine Sub.bool ?_; first | rfl | (focus (simp [*]; done)) | skip) | (refine Sub.int ?_; first | rfl | skip) | (refine Sub.flt ?_; first | rfl | skip) | skip))
    | (apply RetQ.cutE (Or.inr rfl); rfl; rfl; (first | rfl | (focus (simp only [AV.lims, AV.lim, lims_append, lims_encF, lims_encS, lims_encI, lims_encB, Bool.and_self, Bool.and_true, Bool.true_and]; (try rfl); done))); (first | rfl | (focus (simp only [hlims, AV.lims, AV.lim, lims_append, lims_encF, lims_encS, lims_encI, lims_encB, Bool.and_self, Bool.and_true, Bool.true_and]; (try rfl); done)) | (focus (simp [hlims, AV.lims, AV.lim, lims_append, lims_encF, lims_encS, lims_encI, lims_encB, Bool.and_self, Bool.and_true, Bool.true_and]; done))); (first | exact Sub.refl _ | (refine Sub.bool ?_; first | rfl | (focus (simp [*]; done)) | skip) | (refine Sub.int ?_; first | rfl | skip) | (refine Sub.flt ?_; first | rfl | skip) | skip); (first | rfl | skip)))
theorem isKeep_ac (a : Nat) : ACall Tryz.prog G 197 [.f a] [] (.b (fcmp .geq .f32 a 0 && fcmp .lss .f32 a 1065353216)) [] := by
  refine ACall.intro T Tryz.func197 (by kernel_rfl) rfl rfl rfl rfl ?_
  repeat' (first
    | refine W.seq ?_
    | refine W.region ?_
    | refine Wops.nilS ?_
    | (refine Wops.nil ?_; dsimp only [thenP, inBlockP])
    | (refine W.ret ?_; try dsimp only [thenP, inBlockP])
    | (refine W.skip ?_; try dsimp only [thenP, inBlockP])
    | (apply Wops.cons; (first | (apply XOp.assign; rfl) | (apply XOp.move; rfl) | (apply XOp.fcmp; rfl; rfl; rfl) | (apply XOp.pick; rfl; rfl)); rfl; rfl; rfl)
    | (apply Wops.skip; rfl; rfl; rfl)
    | (apply Wops.gs; rfl; (intro h; try rw [h]; try replace h := of_decide_eq_true h); rotate_left; (intro h; try rw [h]; try replace h := of_decide_eq_false h); rotate_left)
    | (exfalso; omega)
    | (apply RetQ.pure (Or.inr rfl); rfl; (first | rfl | (focus (simp [AV.lim, AV.lims]; done))); (first | exact Sub.refl _ | (refine Sub.bool ?_; first | rfl | (focus (simp [*]; done)) | skip) | (refine Sub.int ?_; first | rfl | skip) | (refine Sub.flt ?_; first | rfl | skip) | skip))
    | (apply RetQ.cutE (Or.inr rfl); rfl; rfl; (first | rfl | (focus (simp only [AV.lims, AV.lim, lims_append, lims_encF, lims_encS, lims_encI, lims_encB, Bool.and_self, Bool.and_true, Bool.true_and]; (try rfl); done))); (first | rfl | (focus (simp only [hlims, AV.lims, AV.lim, lims_append, lims_encF, lims_encS, lims_encI, lims_encB, Bool.and_self, Bool.and_true, Bool.true_and]; (try rfl); done)) | (focus (simp [hlims, AV.lims, AV.lim, lims_append, lims_encF, lims_encS, lims_encI, lims_encB, Bool.and_self, Bool.and_true, Bool.true_and]; done))); (first | exact Sub.refl _ | (refine Sub.bool ?_; first | rfl | (focus (simp [*]; done)) | skip) | (refine Sub.int ?_; first | rfl | skip) | (refine Sub.flt ?_; first | rfl | skip) | skip); (first | rfl | skip)))
theorem isFinite_ac (a : Nat) : ACall Tryz.prog G 100 [.f a] [] (.b (fcmp .eql .f32 (fsub a a) 0)) [] := by
  refine ACall.intro T Tryz.func100 (by kernel_rfl) rfl rfl rfl rfl ?_
  repeat' (first
    | refine W.seq ?_
    | refine W.region ?_
    | refine Wops.nilS ?_
    | (refine Wops.nil ?_; dsimp only [thenP, inBlockP])
    | (refine W.ret ?_; try dsimp only [thenP, inBlockP])
    | (refine W.skip ?_; try dsimp only [thenP, inBlockP])
    | (apply Wops.cons; (first | (apply XOp.assign; rfl) | (apply XOp.move; rfl) | (apply XOp.farith; rfl; rfl; rfl) | (apply XOp.fcmp; rfl; rfl; rfl)); rfl; rfl; rfl)
    | (exfalso; omega)
    | (apply RetQ.pure (Or.inr rfl); rfl; (first | rfl | (focus (simp [AV.lim, AV.lims]; done))); (first | exact Sub.refl _ | (refine Sub.bool ?_; first | rfl | (focus (simp [*]; done)) | skip) | (refine Sub.int ?_; first | rfl | skip) | (refine Sub.flt ?_; first | rfl | skip) | skip))
    | (apply RetQ.cutE (Or.inr rfl); rfl; rfl; (first | rfl | (focus (simp only [AV.lims, AV.lim, lims_append, lims_encF, lims_encS, lims_encI, lims_encB, Bool.and_self, Bool.and_true, Bool.true_and]; (try rfl); done))); (first | rfl | (focus (simp only [hlims, AV.lims, AV.lim, lims_append, lims_encF, lims_encS, lims_encI, lims_encB, Bool.and_self, Bool.and_true, Bool.true_and]; (try rfl); done)) | (focus (simp [hlims, AV.lims, AV.lim, lims_append, lims_encF, lims_encS, lims_encI, lims_encB, Bool.and_self, Bool.and_true, Bool.true_and]; done))); (first | exact Sub.refl _ | (refine Sub.bool ?_; first | rfl | (focus (simp [*]; done)) | skip) | (refine Sub.int ?_; first | rfl | skip) | (refine Sub.flt ?_; first | rfl | skip) | skip); (first | rfl | skip)))
theorem isKey_ac (n : Int) : ACall Tryz.prog G 158 [.i n] [] (.b (decide (-100 ≤ n ∧ n ≤ 100))) [] := by
  refine ACall.intro T Tryz.func158 (by kernel_rfl) rfl rfl rfl rfl ?_
  repeat' (first
    | refine W.seq ?_
    | refine W.region ?_
    | refine Wops.nilS ?_
    | (refine Wops.nil ?_; dsimp only [thenP, inBlockP])
    | (refine W.ret ?_; try dsimp only [thenP, inBlockP])
    | (refine W.skip ?_; try dsimp only [thenP, inBlockP])
    | (apply Wops.cons; (first | (apply XOp.assign; rfl) | (apply XOp.move; rfl) | (apply XOp.call; rfl; first | (apply ACall.pure (within_ac _ _ _); (first | rfl | (focus (simp only [AV.lims, AV.lim, lims_append, lims_encF, lims_encS, lims_encI, lims_encB, Bool.and_self, Bool.and_true, Bool.true_and]; (try rfl); done)))) | (apply ACall.borrow (within_ac _ _ _); (focus ((repeat (first | exact Views.nil | (apply Views.same; (first | rfl | (focus (simp only [AV.lims, AV.lim, lims_append, lims_encF, lims_encS, lims_encI, lims_encB, Bool.and_self, Bool.and_true, Bool.true_and]; (try rfl); done)))) | apply Views.cons | (apply View.same; (first | rfl | (focus (simp only [AV.lims, AV.lim, lims_append, lims_encF, lims_encS, lims_encI, lims_encB, Bool.and_self, Bool.and_true, Bool.true_and]; (try rfl); done)))) | (apply View.whole; rfl) | (apply View.wholeP; rfl) | apply View.agg | (intro h; first | rfl | exact flat0 h | exact absurd h (by decide)))); done)); rfl; rfl) | exact within_ac _ _ _)); rfl; rfl; rfl)
    | (exfalso; omega)
    | (apply RetQ.pure (Or.inr rfl); rfl; (first | rfl | (focus (simp [AV.lim, AV.lims]; done))); (first | exact Sub.refl _ | (refine Sub.bool ?_; first | rfl | (focus (simp [*]; done)) | skip) | (refine Sub.int ?_; first | rfl | skip) | (refine Sub.flt ?_; first | rfl | skip) | skip))
    | (apply RetQ.cutE (Or.inr rfl); rfl; rfl; (first | rfl | (focus (simp only [AV.lims, AV.lim, lims_append, lims_encF, lims_encS, lims_encI, lims_encB, Bool.and_self, Bool.and_true, Bool.true_and]; (try rfl); done))); (first | rfl | (focus (simp only [hlims, AV.lims, AV.lim, lims_append, lims_encF, lims_encS, lims_encI, lims_encB, Bool.and_self, Bool.and_true, Bool.true_and]; (try rfl); done)) | (focus (simp [hlims, AV.lims, AV.lim, lims_append, lims_encF, lims_encS, lims_encI, lims_encB, Bool.and_self, Bool.and_true, Bool.true_and]; done))); (first | exact Sub.refl _ | (refine Sub.bool ?_; first | rfl | (focus (simp [*]; done)) | skip) | (refine Sub.int ?_; first | rfl | skip) | (refine Sub.flt ?_; first | rfl | skip) | skip); (first | rfl | skip)))
theorem decimal_ac (hG : GOk G) (n : Nat) (h : n < 1000000000000000000) : ACall Tryz.prog G 84 [.i n] [] (.s (str (Lib.decDigits n))) [] := by
  have hx := FormatInt_ac hG n (by omega) (by omega)
  rw [itoa_dec] at hx
  refine ACall.intro T Tryz.func84 (by kernel_rfl) rfl rfl rfl rfl ?_
  repeat' (first
    | refine W.seq ?_
    | refine W.region ?_
    | refine Wops.nilS ?_
    | (refine Wops.nil ?_; dsimp only [thenP, inBlockP])
    | (refine W.ret ?_; try dsimp only [thenP, inBlockP])
    | (refine W.skip ?_; try dsimp only [thenP, inBlockP])
    | (apply Wops.cons; (first | (apply XOp.assign; rfl) | (apply XOp.move; rfl) | (apply XOp.call; rfl; first | (apply ACall.pure (hx); (first | rfl | (focus (simp only [AV.lims, AV.lim, lims_append, lims_encF, lims_encS, lims_encI, lims_encB, Bool.and_self, Bool.and_true, Bool.true_and]; (try rfl); done)))) | (apply ACall.borrow (hx); (focus ((repeat (first | exact Views.nil | (apply Views.same; (first | rfl | (focus (simp only [AV.lims, AV.lim, lims_append, lims_encF, lims_encS, lims_encI, lims_encB, Bool.and_self, Bool.and_true, Bool.true_and]; (try rfl); done)))) | apply Views.cons | (apply View.same; (first | rfl | (focus (simp only [AV.lims, AV.lim, lims_append, lims_encF, lims_encS, lims_encI, lims_encB, Bool.and_self, Bool.and_true, Bool.true_and]; (try rfl); done)))) | (apply View.whole; rfl) | (apply View.wholeP; rfl) | apply View.agg | (intro h; first | rfl | exact flat0 h | exact absurd h (by decide)))); done)); rfl; rfl) | exact hx)); rfl; rfl; rfl)
    | (exfalso; omega)
    | (apply RetQ.pure (Or.inr rfl); rfl; (first | rfl | (focus (simp [AV.lim, AV.lims]; done))); (first | exact Sub.refl _ | (refine Sub.bool ?_; first | rfl | (focus (simp [*]; done)) | skip) | (refine Sub.int ?_; first | rfl | skip) | (refine Sub.flt ?_; first | rfl | skip) | skip))
    | (apply RetQ.cutE (Or.inr rfl); rfl; rfl; (first | rfl | (focus (simp only [AV.lims, AV.lim, lims_append, lims_encF, lims_encS, lims_encI, lims_encB, Bool.and_self, Bool.and_true, Bool.true_and]; (try rfl); done))); (first | rfl | (focus (simp only [hlims, AV.lims, AV.lim, lims_append, lims_encF, lims_encS, lims_encI, lims_encB, Bool.and_self, Bool.and_true, Bool.true_and]; (try rfl); done)) | (focus (simp [hlims, AV.lims, AV.lim, lims_append, lims_encF, lims_encS, lims_encI, lims_encB, Bool.and_self, Bool.and_true, Bool.true_and]; done))); (first | exact Sub.refl _ | (refine Sub.bool ?_; first | rfl | (focus (simp [*]; done)) | skip) | (refine Sub.int ?_; first | rfl | skip) | (refine Sub.flt ?_; first | rfl | skip) | skip); (first | rfl | skip)))
theorem readDecimal_dec (hG : GOk G) (n : Nat) (h : n < 1000000000000000000) : ACall Tryz.prog G 72 [.s (str (Lib.decDigits n))] [] (.tup [.i n, .b true]) [] := by
  have hl := dec_len h
  have hp := ParseInt_ac (G := G) (Lib.decDigits n) n (by omega) (parse_dec hl)
  have hd := decimal_ac hG n h
  refine ACall.intro T Tryz.func72 (by kernel_rfl) rfl rfl rfl rfl ?_
  repeat' (first
    | refine W.seq ?_
    | refine W.region ?_
    | refine Wops.nilS ?_
    | (refine Wops.nil ?_; dsimp only [thenP, inBlockP])
    | (refine W.ret ?_; try dsimp only [thenP, inBlockP])
    | (refine W.skip ?_; try dsimp only [thenP, inBlockP])
    | (apply Wops.cons; (first | (apply XOp.assign; rfl) | (apply XOp.move; rfl) | (apply XOp.extract; rfl; rfl) | (apply XOp.inil; rfl; kernel_rfl; rfl) | (apply XOp.iset; rfl; kernel_rfl; rfl) | (apply XOp.scmp; rfl; rfl; rfl) | (apply XOp.pick; rfl; rfl) | (apply XOp.call; rfl; first | (apply ACall.pure (hp); (first | rfl | (focus (simp only [AV.lims, AV.lim, lims_append, lims_encF, lims_encS, lims_encI, lims_encB, Bool.and_self, Bool.and_true, Bool.true_and]; (try rfl); done)))) | (apply ACall.borrow (hp); (focus ((repeat (first | exact Views.nil | (apply Views.same; (first | rfl | (focus (simp only [AV.lims, AV.lim, lims_append, lims_encF, lims_encS, lims_encI, lims_encB, Bool.and_self, Bool.and_true, Bool.true_and]; (try rfl); done)))) | apply Views.cons | (apply View.same; (first | rfl | (focus (simp only [AV.lims, AV.lim, lims_append, lims_encF, lims_encS, lims_encI, lims_encB, Bool.and_self, Bool.and_true, Bool.true_and]; (try rfl); done)))) | (apply View.whole; rfl) | (apply View.wholeP; rfl) | apply View.agg | (intro h; first | rfl | exact flat0 h | exact absurd h (by decide)))); done)); rfl; rfl) | exact hp) | (apply XOp.call; rfl; first | (apply ACall.pure (hd); (first | rfl | (focus (simp only [AV.lims, AV.lim, lims_append, lims_encF, lims_encS, lims_encI, lims_encB, Bool.and_self, Bool.and_true, Bool.true_and]; (try rfl); done)))) | (apply ACall.borrow (hd); (focus ((repeat (first | exact Views.nil | (apply Views.same; (first | rfl | (focus (simp only [AV.lims, AV.lim, lims_append, lims_encF, lims_encS, lims_encI, lims_encB, Bool.and_self, Bool.and_true, Bool.true_and]; (try rfl); done)))) | apply Views.cons | (apply View.same; (first | rfl | (focus (simp only [AV.lims, AV.lim, lims_append, lims_encF, lims_encS, lims_encI, lims_encB, Bool.and_self, Bool.and_true, Bool.true_and]; (try rfl); done)))) | (apply View.whole; rfl) | (apply View.wholeP; rfl) | apply View.agg | (intro h; first | rfl | exact flat0 h | exact absurd h (by decide)))); done)); rfl; rfl) | exact hd)); rfl; rfl; rfl)
    | (apply Wops.skip; rfl; rfl; rfl)
    | (apply Wops.gs; rfl; (intro h; try rw [h]; try replace h := of_decide_eq_true h); rotate_left; (intro h; try rw [h]; try replace h := of_decide_eq_false h); rotate_left)
    | (exfalso; omega)
    | (apply RetQ.pure (Or.inr rfl); rfl; (first | rfl | (focus (simp [AV.lim, AV.lims]; done))); (first | exact Sub.refl _ | (refine Sub.bool ?_; first | rfl | (focus (simp [*]; done)) | skip) | (refine Sub.int ?_; first | rfl | skip) | (refine Sub.flt ?_; first | rfl | skip) | skip))
    | (apply RetQ.cutE (Or.inr rfl); rfl; rfl; (first | rfl | (focus (simp only [AV.lims, AV.lim, lims_append, lims_encF, lims_encS, lims_encI, lims_encB, Bool.and_self, Bool.and_true, Bool.true_and]; (try rfl); done))); (first | rfl | (focus (simp only [hlims, AV.lims, AV.lim, lims_append, lims_encF, lims_encS, lims_encI, lims_encB, Bool.and_self, Bool.and_true, Bool.true_and]; (try rfl); done)) | (focus (simp [hlims, AV.lims, AV.lim, lims_append, lims_encF, lims_encS, lims_encI, lims_encB, Bool.and_self, Bool.and_true, Bool.true_and]; done))); (first | exact Sub.refl _ | (refine Sub.bool ?_; first | rfl | (focus (simp [*]; done)) | skip) | (refine Sub.int ?_; first | rfl | skip) | (refine Sub.flt ?_; first | rfl | skip) | skip); (first | rfl | skip)))
  exact Sub.of_eq (by simp [tupOf])
theorem readWhole_dec (hG : GOk G) (n : Nat) (h : n < 1000000) : ACall Tryz.prog G 118 [.s (str (Lib.decDigits n))] [] (.tup [.i n, .b true]) [] := by
  have hl := nDigits_le 5 n h
  rw [← Lib.decDigits_length] at hl
  have hp := readDecimal_dec hG n (by omega)
  refine ACall.intro T Tryz.func118 (by kernel_rfl) rfl rfl rfl rfl ?_
  repeat' (first
    | refine W.seq ?_
    | refine W.region ?_
    | refine Wops.nilS ?_
    | (refine Wops.nil ?_; dsimp only [thenP, inBlockP])
    | (refine W.ret ?_; try dsimp only [thenP, inBlockP])
    | (refine W.skip ?_; try dsimp only [thenP, inBlockP])
    | (apply Wops.cons; (first | (apply XOp.assign; rfl) | (apply XOp.move; rfl) | (apply XOp.extract; rfl; rfl) | (apply XOp.cmp; rfl; rfl; rfl) | (apply XOp.pick; rfl; rfl) | (apply XOp.lenL T; rfl; rfl; rfl) | (apply XOp.lenO T; rfl; rfl; rfl) | (apply XOp.lenS T; rfl; rfl; rfl) | (apply XOp.lenE T; rfl; rfl; rfl) | (apply XOp.lenNil T; rfl; rfl; rfl) | (apply XOp.call; rfl; first | (apply ACall.pure (hp); (first | rfl | (focus (simp only [AV.lims, AV.lim, lims_append, lims_encF, lims_encS, lims_encI, lims_encB, Bool.and_self, Bool.and_true, Bool.true_and]; (try rfl); done)))) | (apply ACall.borrow (hp); (focus ((repeat (first | exact Views.nil | (apply Views.same; (first | rfl | (focus (simp only [AV.lims, AV.lim, lims_append, lims_encF, lims_encS, lims_encI, lims_encB, Bool.and_self, Bool.and_true, Bool.true_and]; (try rfl); done)))) | apply Views.cons | (apply View.same; (first | rfl | (focus (simp only [AV.lims, AV.lim, lims_append, lims_encF, lims_encS, lims_encI, lims_encB, Bool.and_self, Bool.and_true, Bool.true_and]; (try rfl); done)))) | (apply View.whole; rfl) | (apply View.wholeP; rfl) | apply View.agg | (intro h; first | rfl | exact flat0 h | exact absurd h (by decide)))); done)); rfl; rfl) | exact hp)); rfl; rfl; rfl)
    | (apply Wops.skip; rfl; rfl; rfl)
    | (apply Wops.gs; rfl; (intro h; try rw [h]; try replace h := of_decide_eq_true h); rotate_left; (intro h; try rw [h]; try replace h := of_decide_eq_false h); rotate_left)
    | (exfalso; omega)
    | (apply RetQ.pure (Or.inr rfl); rfl; (first | rfl | (focus (simp [AV.lim, AV.lims]; done))); (first | exact Sub.refl _ | (refine Sub.bool ?_; first | rfl | (focus (simp [*]; done)) | skip) | (refine Sub.int ?_; first | rfl | skip) | (refine Sub.flt ?_; first | rfl | skip) | skip))
    | (apply RetQ.cutE (Or.inr rfl); rfl; rfl; (first | rfl | (focus (simp only [AV.lims, AV.lim, lims_append, lims_encF, lims_encS, lims_encI, lims_encB, Bool.and_self, Bool.and_true, Bool.true_and]; (try rfl); done))); (first | rfl | (focus (simp only [hlims, AV.lims, AV.lim, lims_append, lims_encF, lims_encS, lims_encI, lims_encB, Bool.and_self, Bool.and_true, Bool.true_and]; (try rfl); done)) | (focus (simp [hlims, AV.lims, AV.lim, lims_append, lims_encF, lims_encS, lims_encI, lims_encB, Bool.and_self, Bool.and_true, Bool.true_and]; done))); (first | exact Sub.refl _ | (refine Sub.bool ?_; first | rfl | (focus (simp [*]; done)) | skip) | (refine Sub.int ?_; first | rfl | skip) | (refine Sub.flt ?_; first | rfl | skip) | skip); (first | rfl | skip)))
  exact Sub.of_eq (by simp only [tupOf, str_size]; rw [decide_eq_true (by omega)])
theorem pre_no {l : List UInt8} (h : (45 : UInt8) ∉ l) : Lib.trimPrefix l [45] = l ∧ Lib.hasPrefix l [45] = false := by
  have : Lib.hasPrefix l [45] = false := by
    unfold Lib.hasPrefix
    cases l with
    | nil => rfl
    | cons x l => simp only [List.isPrefixOf, Bool.and_eq_false_iff]; left; simp only [beq_eq_false_iff_ne]; rintro rfl; exact h (by simp)
  exact ⟨by unfold Lib.trimPrefix; rw [this]; rfl, this⟩
theorem pre_yes (l : List UInt8) : Lib.trimPrefix (45 :: l) [45] = l ∧ Lib.hasPrefix (45 :: l) [45] = true := by
  have : Lib.hasPrefix (45 :: l) [45] = true := by simp [Lib.hasPrefix]
  exact ⟨by unfold Lib.trimPrefix; rw [this]; rfl, this⟩
theorem readSigned_dec (hG : GOk G) (n : Nat) (h : n < 1000000) : ACall Tryz.prog G 117 [.s (str (Lib.decDigits n))] [] (.tup [.i n, .b true]) [] := by
  obtain ⟨p1, p2⟩ := pre_no (dec_not (n := n) (c := 45) (by decide))
  have hc := CutPrefix_ac (G := G) (Lib.decDigits n) [45]
  rw [p1, p2] at hc
  have hp := readWhole_dec hG n h
  refine ACall.intro T Tryz.func117 (by kernel_rfl) rfl rfl rfl rfl ?_
  repeat' (first
    | refine W.seq ?_
    | refine W.region ?_
    | refine Wops.nilS ?_
    | (refine Wops.nil ?_; dsimp only [thenP, inBlockP])
    | (refine W.ret ?_; try dsimp only [thenP, inBlockP])
    | (refine W.skip ?_; try dsimp only [thenP, inBlockP])
    | (apply W.condT; rfl)
    | (apply W.condF; rfl)
    | (apply Wops.cons; (first | (apply XOp.assign; rfl) | (apply XOp.move; rfl) | (apply XOp.extract; rfl; rfl) | (apply XOp.ineg; rfl; rfl) | (apply XOp.call; rfl; first | (apply ACall.pure (hc); (first | rfl | (focus (simp only [AV.lims, AV.lim, lims_append, lims_encF, lims_encS, lims_encI, lims_encB, Bool.and_self, Bool.and_true, Bool.true_and]; (try rfl); done)))) | (apply ACall.borrow (hc); (focus ((repeat (first | exact Views.nil | (apply Views.same; (first | rfl | (focus (simp only [AV.lims, AV.lim, lims_append, lims_encF, lims_encS, lims_encI, lims_encB, Bool.and_self, Bool.and_true, Bool.true_and]; (try rfl); done)))) | apply Views.cons | (apply View.same; (first | rfl | (focus (simp only [AV.lims, AV.lim, lims_append, lims_encF, lims_encS, lims_encI, lims_encB, Bool.and_self, Bool.and_true, Bool.true_and]; (try rfl); done)))) | (apply View.whole; rfl) | (apply View.wholeP; rfl) | apply View.agg | (intro h; first | rfl | exact flat0 h | exact absurd h (by decide)))); done)); rfl; rfl) | exact hc) | (apply XOp.call; rfl; first | (apply ACall.pure (hp); (first | rfl | (focus (simp only [AV.lims, AV.lim, lims_append, lims_encF, lims_encS, lims_encI, lims_encB, Bool.and_self, Bool.and_true, Bool.true_and]; (try rfl); done)))) | (apply ACall.borrow (hp); (focus ((repeat (first | exact Views.nil | (apply Views.same; (first | rfl | (focus (simp only [AV.lims, AV.lim, lims_append, lims_encF, lims_encS, lims_encI, lims_encB, Bool.and_self, Bool.and_true, Bool.true_and]; (try rfl); done)))) | apply Views.cons | (apply View.same; (first | rfl | (focus (simp only [AV.lims, AV.lim, lims_append, lims_encF, lims_encS, lims_encI, lims_encB, Bool.and_self, Bool.and_true, Bool.true_and]; (try rfl); done)))) | (apply View.whole; rfl) | (apply View.wholeP; rfl) | apply View.agg | (intro h; first | rfl | exact flat0 h | exact absurd h (by decide)))); done)); rfl; rfl) | exact hp)); rfl; rfl; rfl)
    | (apply W.condP; rfl; intro h; rotate_left; intro h; rotate_left)
    | (apply W.cond; rfl; intro h; rotate_left; intro h; rotate_left)
    | (exfalso; omega)
    | (apply RetQ.pure (Or.inr rfl); rfl; (first | rfl | (focus (simp [AV.lim, AV.lims]; done))); (first | exact Sub.refl _ | (refine Sub.bool ?_; first | rfl | (focus (simp [*]; done)) | skip) | (refine Sub.int ?_; first | rfl | skip) | (refine Sub.flt ?_; first | rfl | skip) | skip))
    | (apply RetQ.cutE (Or.inr rfl); rfl; rfl; (first | rfl | (focus (simp only [AV.lims, AV.lim, lims_append, lims_encF, lims_encS, lims_encI, lims_encB, Bool.and_self, Bool.and_true, Bool.true_and]; (try rfl); done))); (first | rfl | (focus (simp only [hlims, AV.lims, AV.lim, lims_append, lims_encF, lims_encS, lims_encI, lims_encB, Bool.and_self, Bool.and_true, Bool.true_and]; (try rfl); done)) | (focus (simp [hlims, AV.lims, AV.lim, lims_append, lims_encF, lims_encS, lims_encI, lims_encB, Bool.and_self, Bool.and_true, Bool.true_and]; done))); (first | exact Sub.refl _ | (refine Sub.bool ?_; first | rfl | (focus (simp [*]; done)) | skip) | (refine Sub.int ?_; first | rfl | skip) | (refine Sub.flt ?_; first | rfl | skip) | skip); (first | rfl | skip)))
theorem readSigned_neg (hG : GOk G) (n : Nat) (h : n < 1000000) : ACall Tryz.prog G 117 [.s (str (45 :: Lib.decDigits n))] [] (.tup [.i (-n), .b true]) [] := by
  obtain ⟨p1, p2⟩ := pre_yes (Lib.decDigits n)
  have hc := CutPrefix_ac (G := G) (45 :: Lib.decDigits n) [45]
  rw [p1, p2] at hc
  have hp := readWhole_dec hG n h
  refine ACall.intro T Tryz.func117 (by kernel_rfl) rfl rfl rfl rfl ?_
  repeat' (first
    | refine W.seq ?_
    | refine W.region ?_
    | refine Wops.nilS ?_
    | (refine Wops.nil ?_; dsimp only [thenP, inBlockP])
    | (refine W.ret ?_; try dsimp only [thenP, inBlockP])
    | (refine W.skip ?_; try dsimp only [thenP, inBlockP])
    | (apply W.condT; rfl)
    | (apply W.condF; rfl)
    | (apply Wops.cons; (first | (apply XOp.assign; rfl) | (apply XOp.move; rfl) | (apply XOp.extract; rfl; rfl) | (apply XOp.ineg; rfl; rfl) | (apply XOp.call; rfl; first | (apply ACall.pure (hc); (first | rfl | (focus (simp only [AV.lims, AV.lim, lims_append, lims_encF, lims_encS, lims_encI, lims_encB, Bool.and_self, Bool.and_true, Bool.true_and]; (try rfl); done)))) | (apply ACall.borrow (hc); (focus ((repeat (first | exact Views.nil | (apply Views.same; (first | rfl | (focus (simp only [AV.lims, AV.lim, lims_append, lims_encF, lims_encS, lims_encI, lims_encB, Bool.and_self, Bool.and_true, Bool.true_and]; (try rfl); done)))) | apply Views.cons | (apply View.same; (first | rfl | (focus (simp only [AV.lims, AV.lim, lims_append, lims_encF, lims_encS, lims_encI, lims_encB, Bool.and_self, Bool.and_true, Bool.true_and]; (try rfl); done)))) | (apply View.whole; rfl) | (apply View.wholeP; rfl) | apply View.agg | (intro h; first | rfl | exact flat0 h | exact absurd h (by decide)))); done)); rfl; rfl) | exact hc) | (apply XOp.call; rfl; first | (apply ACall.pure (hp); (first | rfl | (focus (simp only [AV.lims, AV.lim, lims_append, lims_encF, lims_encS, lims_encI, lims_encB, Bool.and_self, Bool.and_true, Bool.true_and]; (try rfl); done)))) | (apply ACall.borrow (hp); (focus ((repeat (first | exact Views.nil | (apply Views.same; (first | rfl | (focus (simp only [AV.lims, AV.lim, lims_append, lims_encF, lims_encS, lims_encI, lims_encB, Bool.and_self, Bool.and_true, Bool.true_and]; (try rfl); done)))) | apply Views.cons | (apply View.same; (first | rfl | (focus (simp only [AV.lims, AV.lim, lims_append, lims_encF, lims_encS, lims_encI, lims_encB, Bool.and_self, Bool.and_true, Bool.true_and]; (try rfl); done)))) | (apply View.whole; rfl) | (apply View.wholeP; rfl) | apply View.agg | (intro h; first | rfl | exact flat0 h | exact absurd h (by decide)))); done)); rfl; rfl) | exact hp)); rfl; rfl; rfl)
    | (apply W.condP; rfl; intro h; rotate_left; intro h; rotate_left)
    | (apply W.cond; rfl; intro h; rotate_left; intro h; rotate_left)
    | (exfalso; omega)
    | (apply RetQ.pure (Or.inr rfl); rfl; (first | rfl | (focus (simp [AV.lim, AV.lims]; done))); (first | exact Sub.refl _ | (refine Sub.bool ?_; first | rfl | (focus (simp [*]; done)) | skip) | (refine Sub.int ?_; first | rfl | skip) | (refine Sub.flt ?_; first | rfl | skip) | skip))
    | (apply RetQ.cutE (Or.inr rfl); rfl; rfl; (first | rfl | (focus (simp only [AV.lims, AV.lim, lims_append, lims_encF, lims_encS, lims_encI, lims_encB, Bool.and_self, Bool.and_true, Bool.true_and]; (try rfl); done))); (first | rfl | (focus (simp only [hlims, AV.lims, AV.lim, lims_append, lims_encF, lims_encS, lims_encI, lims_encB, Bool.and_self, Bool.and_true, Bool.true_and]; (try rfl); done)) | (focus (simp [hlims, AV.lims, AV.lim, lims_append, lims_encF, lims_encS, lims_encI, lims_encB, Bool.and_self, Bool.and_true, Bool.true_and]; done))); (first | exact Sub.refl _ | (refine Sub.bool ?_; first | rfl | (focus (simp [*]; done)) | skip) | (refine Sub.int ?_; first | rfl | skip) | (refine Sub.flt ?_; first | rfl | skip) | skip); (first | rfl | skip)))
  exact Sub.of_eq (by simp only [tupOf]; rw [wrap_in (k := .i64) (n := 0 - (n : Int)) (by simp only [IntKind.InR]; omega), Int.zero_sub])
def fnum (n : Int) : Nat := FloatKind.f32.nearest n
theorem readFraction_whole (hG : GOk G) (n : Nat) (h : n < 1000000) : ACall Tryz.prog G 61 [.s (str (Lib.decDigits n))] [] (.tup [.f (fnum n), .b true]) [] := by
  have hl := dec_len (n := n) (by omega)
  have hc := Cut_ac hG (Lib.decDigits n) 47 (by omega) (cut_no 47 _ (dec_not (by decide)))
  have hp := readSigned_dec hG n h
  refine ACall.intro T Tryz.func61 (by kernel_rfl) rfl rfl rfl rfl ?_
  repeat' (first
    | refine W.seq ?_
    | refine W.region ?_
    | refine Wops.nilS ?_
    | (refine Wops.nil ?_; dsimp only [thenP, inBlockP])
    | (refine W.ret ?_; try dsimp only [thenP, inBlockP])
    | (refine W.skip ?_; try dsimp only [thenP, inBlockP])
    | (apply W.condT; rfl)
    | (apply W.condF; rfl)
    | (apply Wops.cons; (first | (apply XOp.assign; rfl) | (apply XOp.move; rfl) | (apply XOp.extract; rfl; rfl) | (apply XOp.not; rfl; rfl) | (apply XOp.cvtIF T; rfl; rfl; rfl; rfl) | (apply XOp.pick; rfl; rfl) | (apply XOp.arithI; rfl; rfl; rfl; (first | (simp only [IntKind.InR]; omega) | (simp only [IntKind.InR]; decide))) | (apply XOp.arith; rfl; rfl; rfl) | (apply XOp.ibits; rfl; rfl; rfl; rfl) | (apply XOp.cmp; rfl; rfl; rfl) | (apply XOp.farith; rfl; rfl; rfl) | (apply XOp.call; rfl; first | (apply ACall.pure (hc); (first | rfl | (focus (simp only [AV.lims, AV.lim, lims_append, lims_encF, lims_encS, lims_encI, lims_encB, Bool.and_self, Bool.and_true, Bool.true_and]; (try rfl); done)))) | (apply ACall.borrow (hc); (focus ((repeat (first | exact Views.nil | (apply Views.same; (first | rfl | (focus (simp only [AV.lims, AV.lim, lims_append, lims_encF, lims_encS, lims_encI, lims_encB, Bool.and_self, Bool.and_true, Bool.true_and]; (try rfl); done)))) | apply Views.cons | (apply View.same; (first | rfl | (focus (simp only [AV.lims, AV.lim, lims_append, lims_encF, lims_encS, lims_encI, lims_encB, Bool.and_self, Bool.and_true, Bool.true_and]; (try rfl); done)))) | (apply View.whole; rfl) | (apply View.wholeP; rfl) | apply View.agg | (intro h; first | rfl | exact flat0 h | exact absurd h (by decide)))); done)); rfl; rfl) | exact hc) | (apply XOp.call; rfl; first | (apply ACall.pure (hp); (first | rfl | (focus (simp only [AV.lims, AV.lim, lims_append, lims_encF, lims_encS, lims_encI, lims_encB, Bool.and_self, Bool.and_true, Bool.true_and]; (try rfl); done)))) | (apply ACall.borrow (hp); (focus ((repeat (first | exact Views.nil | (apply Views.same; (first | rfl | (focus (simp only [AV.lims, AV.lim, lims_append, lims_encF, lims_encS, lims_encI, lims_encB, Bool.and_self, Bool.and_true, Bool.true_and]; (try rfl); done)))) | apply Views.cons | (apply View.same; (first | rfl | (focus (simp only [AV.lims, AV.lim, lims_append, lims_encF, lims_encS, lims_encI, lims_encB, Bool.and_self, Bool.and_true, Bool.true_and]; (try rfl); done)))) | (apply View.whole; rfl) | (apply View.wholeP; rfl) | apply View.agg | (intro h; first | rfl | exact flat0 h | exact absurd h (by decide)))); done)); rfl; rfl) | exact hp)); rfl; rfl; rfl)
    | (apply Wops.skip; rfl; rfl; rfl)
    | (apply Wops.gs; rfl; (intro h; try rw [h]; try replace h := of_decide_eq_true h); rotate_left; (intro h; try rw [h]; try replace h := of_decide_eq_false h); rotate_left)
    | (apply W.condP; rfl; intro h; rotate_left; intro h; rotate_left)
    | (apply W.cond; rfl; intro h; rotate_left; intro h; rotate_left)
    | (exfalso; omega)
    | (apply RetQ.pure (Or.inr rfl); rfl; (first | rfl | (focus (simp [AV.lim, AV.lims]; done))); (first | exact Sub.refl _ | (refine Sub.bool ?_; first | rfl | (focus (simp [*]; done)) | skip) | (refine Sub.int ?_; first | rfl | skip) | (refine Sub.flt ?_; first | rfl | skip) | skip))
    | (apply RetQ.cutE (Or.inr rfl); rfl; rfl; (first | rfl | (focus (simp only [AV.lims, AV.lim, lims_append, lims_encF, lims_encS, lims_encI, lims_encB, Bool.and_self, Bool.and_true, Bool.true_and]; (try rfl); done))); (first | rfl | (focus (simp only [hlims, AV.lims, AV.lim, lims_append, lims_encF, lims_encS, lims_encI, lims_encB, Bool.and_self, Bool.and_true, Bool.true_and]; (try rfl); done)) | (focus (simp [hlims, AV.lims, AV.lim, lims_append, lims_encF, lims_encS, lims_encI, lims_encB, Bool.and_self, Bool.and_true, Bool.true_and]; done))); (first | exact Sub.refl _ | (refine Sub.bool ?_; first | rfl | (focus (simp [*]; done)) | skip) | (refine Sub.int ?_; first | rfl | skip) | (refine Sub.flt ?_; first | rfl | skip) | skip); (first | rfl | skip)))
theorem readFraction_by (hG : GOk G) (ls : List UInt8) (v : Int) (d : Nat) (hl : ls.length < 100) (h47 : (47 : UInt8) ∉ ls) (hp : ACall Tryz.prog G 117 [.s (str ls)] [] (.tup [.i v, .b true]) []) (h2 : 2 ≤ d) (h3 : d ≤ 1024) (hb : ibits .and .i64 d (d - 1) = 0) :
    ACall Tryz.prog G 61 [.s (str (ls ++ 47 :: Lib.decDigits d))] [] (.tup [.f (fdiv (fnum v) (fnum d)), .b true]) [] := by
  have hd := dec_len (n := d) (by omega)
  have hc := Cut_ac hG (ls ++ 47 :: Lib.decDigits d) 47 (by simp only [List.length_append, List.length_cons]; omega) (cut_at 47 ls _ h47)
  have hw := readWhole_dec hG d (by omega)
  have hi := within_ac (G := G) d 2 1024
  rw [decide_eq_true (by omega)] at hi
  refine ACall.intro T Tryz.func61 (by kernel_rfl) rfl rfl rfl rfl ?_
  repeat' (first
    | refine W.seq ?_
    | refine W.region ?_
    | refine Wops.nilS ?_
    | (refine Wops.nil ?_; dsimp only [thenP, inBlockP])
    | (refine W.ret ?_; try dsimp only [thenP, inBlockP])
    | (refine W.skip ?_; try dsimp only [thenP, inBlockP])
    | (apply W.condT; rfl)
    | (apply W.condF; rfl)
    | (apply Wops.cons; (first | (apply XOp.assign; rfl) | (apply XOp.move; rfl) | (apply XOp.extract; rfl; rfl) | (apply XOp.not; rfl; rfl) | (apply XOp.cvtIF T; rfl; rfl; rfl; rfl) | (apply XOp.pick; rfl; rfl) | (apply XOp.arithI; rfl; rfl; rfl; (first | (simp only [IntKind.InR]; omega) | (simp only [IntKind.InR]; decide))) | (apply XOp.arith; rfl; rfl; rfl) | (apply XOp.ibits; rfl; rfl; rfl; rfl) | (apply XOp.cmp; rfl; rfl; rfl) | (apply XOp.farith; rfl; rfl; rfl) | (apply XOp.call; rfl; first | (apply ACall.pure (hc); (first | rfl | (focus (simp only [AV.lims, AV.lim, lims_append, lims_encF, lims_encS, lims_encI, lims_encB, Bool.and_self, Bool.and_true, Bool.true_and]; (try rfl); done)))) | (apply ACall.borrow (hc); (focus ((repeat (first | exact Views.nil | (apply Views.same; (first | rfl | (focus (simp only [AV.lims, AV.lim, lims_append, lims_encF, lims_encS, lims_encI, lims_encB, Bool.and_self, Bool.and_true, Bool.true_and]; (try rfl); done)))) | apply Views.cons | (apply View.same; (first | rfl | (focus (simp only [AV.lims, AV.lim, lims_append, lims_encF, lims_encS, lims_encI, lims_encB, Bool.and_self, Bool.and_true, Bool.true_and]; (try rfl); done)))) | (apply View.whole; rfl) | (apply View.wholeP; rfl) | apply View.agg | (intro h; first | rfl | exact flat0 h | exact absurd h (by decide)))); done)); rfl; rfl) | exact hc) | (apply XOp.call; rfl; first | (apply ACall.pure (hp); (first | rfl | (focus (simp only [AV.lims, AV.lim, lims_append, lims_encF, lims_encS, lims_encI, lims_encB, Bool.and_self, Bool.and_true, Bool.true_and]; (try rfl); done)))) | (apply ACall.borrow (hp); (focus ((repeat (first | exact Views.nil | (apply Views.same; (first | rfl | (focus (simp only [AV.lims, AV.lim, lims_append, lims_encF, lims_encS, lims_encI, lims_encB, Bool.and_self, Bool.and_true, Bool.true_and]; (try rfl); done)))) | apply Views.cons | (apply View.same; (first | rfl | (focus (simp only [AV.lims, AV.lim, lims_append, lims_encF, lims_encS, lims_encI, lims_encB, Bool.and_self, Bool.and_true, Bool.true_and]; (try rfl); done)))) | (apply View.whole; rfl) | (apply View.wholeP; rfl) | apply View.agg | (intro h; first | rfl | exact flat0 h | exact absurd h (by decide)))); done)); rfl; rfl) | exact hp) | (apply XOp.call; rfl; first | (apply ACall.pure (hw); (first | rfl | (focus (simp only [AV.lims, AV.lim, lims_append, lims_encF, lims_encS, lims_encI, lims_encB, Bool.and_self, Bool.and_true, Bool.true_and]; (try rfl); done)))) | (apply ACall.borrow (hw); (focus ((repeat (first | exact Views.nil | (apply Views.same; (first | rfl | (focus (simp only [AV.lims, AV.lim, lims_append, lims_encF, lims_encS, lims_encI, lims_encB, Bool.and_self, Bool.and_true, Bool.true_and]; (try rfl); done)))) | apply Views.cons | (apply View.same; (first | rfl | (focus (simp only [AV.lims, AV.lim, lims_append, lims_encF, lims_encS, lims_encI, lims_encB, Bool.and_self, Bool.and_true, Bool.true_and]; (try rfl); done)))) | (apply View.whole; rfl) | (apply View.wholeP; rfl) | apply View.agg | (intro h; first | rfl | exact flat0 h | exact absurd h (by decide)))); done)); rfl; rfl) | exact hw) | (apply XOp.call; rfl; first | (apply ACall.pure (hi); (first | rfl | (focus (simp only [AV.lims, AV.lim, lims_append, lims_encF, lims_encS, lims_encI, lims_encB, Bool.and_self, Bool.and_true, Bool.true_and]; (try rfl); done)))) | (apply ACall.borrow (hi); (focus ((repeat (first | exact Views.nil | (apply Views.same; (first | rfl | (focus (simp only [AV.lims, AV.lim, lims_append, lims_encF, lims_encS, lims_encI, lims_encB, Bool.and_self, Bool.and_true, Bool.true_and]; (try rfl); done)))) | apply Views.cons | (apply View.same; (first | rfl | (focus (simp only [AV.lims, AV.lim, lims_append, lims_encF, lims_encS, lims_encI, lims_encB, Bool.and_self, Bool.and_true, Bool.true_and]; (try rfl); done)))) | (apply View.whole; rfl) | (apply View.wholeP; rfl) | apply View.agg | (intro h; first | rfl | exact flat0 h | exact absurd h (by decide)))); done)); rfl; rfl) | exact hi)); rfl; rfl; rfl)
    | (apply Wops.skip; rfl; rfl; rfl)
    | (apply Wops.gs; rfl; (intro h; try rw [h]; try replace h := of_decide_eq_true h); rotate_left; (intro h; try rw [h]; try replace h := of_decide_eq_false h); rotate_left)
    | (apply W.condP; rfl; intro h; rotate_left; intro h; rotate_left)
    | (apply W.cond; rfl; intro h; rotate_left; intro h; rotate_left)
    | (exfalso; omega)
    | (apply RetQ.pure (Or.inr rfl); rfl; (first | rfl | (focus (simp [AV.lim, AV.lims]; done))); (first | exact Sub.refl _ | (refine Sub.bool ?_; first | rfl | (focus (simp [*]; done)) | skip) | (refine Sub.int ?_; first | rfl | skip) | (refine Sub.flt ?_; first | rfl | skip) | skip))
    | (apply RetQ.cutE (Or.inr rfl); rfl; rfl; (first | rfl | (focus (simp only [AV.lims, AV.lim, lims_append, lims_encF, lims_encS, lims_encI, lims_encB, Bool.and_self, Bool.and_true, Bool.true_and]; (try rfl); done))); (first | rfl | (focus (simp only [hlims, AV.lims, AV.lim, lims_append, lims_encF, lims_encS, lims_encI, lims_encB, Bool.and_self, Bool.and_true, Bool.true_and]; (try rfl); done)) | (focus (simp [hlims, AV.lims, AV.lim, lims_append, lims_encF, lims_encS, lims_encI, lims_encB, Bool.and_self, Bool.and_true, Bool.true_and]; done))); (first | exact Sub.refl _ | (refine Sub.bool ?_; first | rfl | (focus (simp [*]; done)) | skip) | (refine Sub.int ?_; first | rfl | skip) | (refine Sub.flt ?_; first | rfl | skip) | skip); (first | rfl | skip)))
  exfalso; simp [hb] at h
theorem readFraction_bad (hG : GOk G) (ls : List UInt8) (v : Int) (d : Nat) (hl : ls.length < 100) (h47 : (47 : UInt8) ∉ ls) (hp : ACall Tryz.prog G 117 [.s (str ls)] [] (.tup [.i v, .b true]) []) (h2 : 2 ≤ d) (h3 : d < 1000000)
    (hb : 1024 < d ∨ ibits .and .i64 d (d - 1) ≠ 0) :
    ACall Tryz.prog G 61 [.s (str (ls ++ 47 :: Lib.decDigits d))] [] (.tup [.f 0, .b false]) [] := by
  have hd := dec_len (n := d) (by omega)
  have hc := Cut_ac hG (ls ++ 47 :: Lib.decDigits d) 47 (by simp only [List.length_append, List.length_cons]; omega) (cut_at 47 ls _ h47)
  have hw := readWhole_dec hG d (by omega)
  have hi := within_ac (G := G) d 2 1024
  by_cases hk : d ≤ 1024
  · have hb' : ibits .and .i64 d (d - 1) ≠ 0 := hb.resolve_left (by omega)
    rw [decide_eq_true (by omega)] at hi
    refine ACall.intro T Tryz.func61 (by kernel_rfl) rfl rfl rfl rfl ?_
    repeat' (first
    | refine W.seq ?_
    | refine W.region ?_
    | refine Wops.nilS ?_
    | (refine Wops.nil ?_; dsimp only [thenP, inBlockP])
    | (refine W.ret ?_; try dsimp only [thenP, inBlockP])
    | (refine W.skip ?_; try dsimp only [thenP, inBlockP])
    | (apply W.condT; rfl)
    | (apply W.condF; rfl)
    | (apply Wops.cons; (first | (apply XOp.assign; rfl) | (apply XOp.move; rfl) | (apply XOp.extract; rfl; rfl) | (apply XOp.not; rfl; rfl) | (apply XOp.cvtIF T; rfl; rfl; rfl; rfl) | (apply XOp.pick; rfl; rfl) | (apply XOp.arithI; rfl; rfl; rfl; (first | (simp only [IntKind.InR]; omega) | (simp only [IntKind.InR]; decide))) | (apply XOp.arith; rfl; rfl; rfl) | (apply XOp.ibits; rfl; rfl; rfl; rfl) | (apply XOp.cmp; rfl; rfl; rfl) | (apply XOp.farith; rfl; rfl; rfl) | (apply XOp.call; rfl; first | (apply ACall.pure (hc); (first | rfl | (focus (simp only [AV.lims, AV.lim, lims_append, lims_encF, lims_encS, lims_encI, lims_encB, Bool.and_self, Bool.and_true, Bool.true_and]; (try rfl); done)))) | (apply ACall.borrow (hc); (focus ((repeat (first | exact Views.nil | (apply Views.same; (first | rfl | (focus (simp only [AV.lims, AV.lim, lims_append, lims_encF, lims_encS, lims_encI, lims_encB, Bool.and_self, Bool.and_true, Bool.true_and]; (try rfl); done)))) | apply Views.cons | (apply View.same; (first | rfl | (focus (simp only [AV.lims, AV.lim, lims_append, lims_encF, lims_encS, lims_encI, lims_encB, Bool.and_self, Bool.and_true, Bool.true_and]; (try rfl); done)))) | (apply View.whole; rfl) | (apply View.wholeP; rfl) | apply View.agg | (intro h; first | rfl | exact flat0 h | exact absurd h (by decide)))); done)); rfl; rfl) | exact hc) | (apply XOp.call; rfl; first | (apply ACall.pure (hp); (first | rfl | (focus (simp only [AV.lims, AV.lim, lims_append, lims_encF, lims_encS, lims_encI, lims_encB, Bool.and_self, Bool.and_true, Bool.true_and]; (try rfl); done)))) | (apply ACall.borrow (hp); (focus ((repeat (first | exact Views.nil | (apply Views.same; (first | rfl | (focus (simp only [AV.lims, AV.lim, lims_append, lims_encF, lims_encS, lims_encI, lims_encB, Bool.and_self, Bool.and_true, Bool.true_and]; (try rfl); done)))) | apply Views.cons | (apply View.same; (first | rfl | (focus (simp only [AV.lims, AV.lim, lims_append, lims_encF, lims_encS, lims_encI, lims_encB, Bool.and_self, Bool.and_true, Bool.true_and]; (try rfl); done)))) | (apply View.whole; rfl) | (apply View.wholeP; rfl) | apply View.agg | (intro h; first | rfl | exact flat0 h | exact absurd h (by decide)))); done)); rfl; rfl) | exact hp) | (apply XOp.call; rfl; first | (apply ACall.pure (hw); (first | rfl | (focus (simp only [AV.lims, AV.lim, lims_append, lims_encF, lims_encS, lims_encI, lims_encB, Bool.and_self, Bool.and_true, Bool.true_and]; (try rfl); done)))) | (apply ACall.borrow (hw); (focus ((repeat (first | exact Views.nil | (apply Views.same; (first | rfl | (focus (simp only [AV.lims, AV.lim, lims_append, lims_encF, lims_encS, lims_encI, lims_encB, Bool.and_self, Bool.and_true, Bool.true_and]; (try rfl); done)))) | apply Views.cons | (apply View.same; (first | rfl | (focus (simp only [AV.lims, AV.lim, lims_append, lims_encF, lims_encS, lims_encI, lims_encB, Bool.and_self, Bool.and_true, Bool.true_and]; (try rfl); done)))) | (apply View.whole; rfl) | (apply View.wholeP; rfl) | apply View.agg | (intro h; first | rfl | exact flat0 h | exact absurd h (by decide)))); done)); rfl; rfl) | exact hw) | (apply XOp.call; rfl; first | (apply ACall.pure (hi); (first | rfl | (focus (simp only [AV.lims, AV.lim, lims_append, lims_encF, lims_encS, lims_encI, lims_encB, Bool.and_self, Bool.and_true, Bool.true_and]; (try rfl); done)))) | (apply ACall.borrow (hi); (focus ((repeat (first | exact Views.nil | (apply Views.same; (first | rfl | (focus (simp only [AV.lims, AV.lim, lims_append, lims_encF, lims_encS, lims_encI, lims_encB, Bool.and_self, Bool.and_true, Bool.true_and]; (try rfl); done)))) | apply Views.cons | (apply View.same; (first | rfl | (focus (simp only [AV.lims, AV.lim, lims_append, lims_encF, lims_encS, lims_encI, lims_encB, Bool.and_self, Bool.and_true, Bool.true_and]; (try rfl); done)))) | (apply View.whole; rfl) | (apply View.wholeP; rfl) | apply View.agg | (intro h; first | rfl | exact flat0 h | exact absurd h (by decide)))); done)); rfl; rfl) | exact hi)); rfl; rfl; rfl)
    | (apply Wops.skip; rfl; rfl; rfl)
    | (apply Wops.gs; rfl; (intro h; try rw [h]; try replace h := of_decide_eq_true h); rotate_left; (intro h; try rw [h]; try replace h := of_decide_eq_false h); rotate_left)
    | (apply W.condP; rfl; intro h; rotate_left; intro h; rotate_left)
    | (apply W.cond; rfl; intro h; rotate_left; intro h; rotate_left)
    | (exfalso; omega)
    | (apply RetQ.pure (Or.inr rfl); rfl; (first | rfl | (focus (simp [AV.lim, AV.lims]; done))); (first | exact Sub.refl _ | (refine Sub.bool ?_; first | rfl | (focus (simp [*]; done)) | skip) | (refine Sub.int ?_; first | rfl | skip) | (refine Sub.flt ?_; first | rfl | skip) | skip))
    | (apply RetQ.cutE (Or.inr rfl); rfl; rfl; (first | rfl | (focus (simp only [AV.lims, AV.lim, lims_append, lims_encF, lims_encS, lims_encI, lims_encB, Bool.and_self, Bool.and_true, Bool.true_and]; (try rfl); done))); (first | rfl | (focus (simp only [hlims, AV.lims, AV.lim, lims_append, lims_encF, lims_encS, lims_encI, lims_encB, Bool.and_self, Bool.and_true, Bool.true_and]; (try rfl); done)) | (focus (simp [hlims, AV.lims, AV.lim, lims_append, lims_encF, lims_encS, lims_encI, lims_encB, Bool.and_self, Bool.and_true, Bool.true_and]; done))); (first | exact Sub.refl _ | (refine Sub.bool ?_; first | rfl | (focus (simp [*]; done)) | skip) | (refine Sub.int ?_; first | rfl | skip) | (refine Sub.flt ?_; first | rfl | skip) | skip); (first | rfl | skip)))
    exfalso; simp [hb'] at h
  · rw [decide_eq_false (by omega)] at hi
    refine ACall.intro T Tryz.func61 (by kernel_rfl) rfl rfl rfl rfl ?_
    repeat' (first
    | refine W.seq ?_
    | refine W.region ?_
    | refine Wops.nilS ?_
    | (refine Wops.nil ?_; dsimp only [thenP, inBlockP])
    | (refine W.ret ?_; try dsimp only [thenP, inBlockP])
    | (refine W.skip ?_; try dsimp only [thenP, inBlockP])
    | (apply W.condT; rfl)
    | (apply W.condF; rfl)
    | (apply Wops.cons; (first | (apply XOp.assign; rfl) | (apply XOp.move; rfl) | (apply XOp.extract; rfl; rfl) | (apply XOp.not; rfl; rfl) | (apply XOp.cvtIF T; rfl; rfl; rfl; rfl) | (apply XOp.pick; rfl; rfl) | (apply XOp.arithI; rfl; rfl; rfl; (first | (simp only [IntKind.InR]; omega) | (simp only [IntKind.InR]; decide))) | (apply XOp.arith; rfl; rfl; rfl) | (apply XOp.ibits; rfl; rfl; rfl; rfl) | (apply XOp.cmp; rfl; rfl; rfl) | (apply XOp.farith; rfl; rfl; rfl) | (apply XOp.call; rfl; first | (apply ACall.pure (hc); (first | rfl | (focus (simp only [AV.lims, AV.lim, lims_append, lims_encF, lims_encS, lims_encI, lims_encB, Bool.and_self, Bool.and_true, Bool.true_and]; (try rfl); done)))) | (apply ACall.borrow (hc); (focus ((repeat (first | exact Views.nil | (apply Views.same; (first | rfl | (focus (simp only [AV.lims, AV.lim, lims_append, lims_encF, lims_encS, lims_encI, lims_encB, Bool.and_self, Bool.and_true, Bool.true_and]; (try rfl); done)))) | apply Views.cons | (apply View.same; (first | rfl | (focus (simp only [AV.lims, AV.lim, lims_append, lims_encF, lims_encS, lims_encI, lims_encB, Bool.and_self, Bool.and_true, Bool.true_and]; (try rfl); done)))) | (apply View.whole; rfl) | (apply View.wholeP; rfl) | apply View.agg | (intro h; first | rfl | exact flat0 h | exact absurd h (by decide)))); done)); rfl; rfl) | exact hc) | (apply XOp.call; rfl; first | (apply ACall.pure (hp); (first | rfl | (focus (simp only [AV.lims, AV.lim, lims_append, lims_encF, lims_encS, lims_encI, lims_encB, Bool.and_self, Bool.and_true, Bool.true_and]; (try rfl); done)))) | (apply ACall.borrow (hp); (focus ((repeat (first | exact Views.nil | (apply Views.same; (first | rfl | (focus (simp only [AV.lims, AV.lim, lims_append, lims_encF, lims_encS, lims_encI, lims_encB, Bool.and_self, Bool.and_true, Bool.true_and]; (try rfl); done)))) | apply Views.cons | (apply View.same; (first | rfl | (focus (simp only [AV.lims, AV.lim, lims_append, lims_encF, lims_encS, lims_encI, lims_encB, Bool.and_self, Bool.and_true, Bool.true_and]; (try rfl); done)))) | (apply View.whole; rfl) | (apply View.wholeP; rfl) | apply View.agg | (intro h; first | rfl | exact flat0 h | exact absurd h (by decide)))); done)); rfl; rfl) | exact hp) | (apply XOp.call; rfl; first | (apply ACall.pure (hw); (first | rfl | (focus (simp only [AV.lims, AV.lim, lims_append, lims_encF, lims_encS, lims_encI, lims_encB, Bool.and_self, Bool.and_true, Bool.true_and]; (try rfl); done)))) | (apply ACall.borrow (hw); (focus ((repeat (first | exact Views.nil | (apply Views.same; (first | rfl | (focus (simp only [AV.lims, AV.lim, lims_append, lims_encF, lims_encS, lims_encI, lims_encB, Bool.and_self, Bool.and_true, Bool.true_and]; (try rfl); done)))) | apply Views.cons | (apply View.same; (first | rfl | (focus (simp only [AV.lims, AV.lim, lims_append, lims_encF, lims_encS, lims_encI, lims_encB, Bool.and_self, Bool.and_true, Bool.true_and]; (try rfl); done)))) | (apply View.whole; rfl) | (apply View.wholeP; rfl) | apply View.agg | (intro h; first | rfl | exact flat0 h | exact absurd h (by decide)))); done)); rfl; rfl) | exact hw) | (apply XOp.call; rfl; first | (apply ACall.pure (hi); (first | rfl | (focus (simp only [AV.lims, AV.lim, lims_append, lims_encF, lims_encS, lims_encI, lims_encB, Bool.and_self, Bool.and_true, Bool.true_and]; (try rfl); done)))) | (apply ACall.borrow (hi); (focus ((repeat (first | exact Views.nil | (apply Views.same; (first | rfl | (focus (simp only [AV.lims, AV.lim, lims_append, lims_encF, lims_encS, lims_encI, lims_encB, Bool.and_self, Bool.and_true, Bool.true_and]; (try rfl); done)))) | apply Views.cons | (apply View.same; (first | rfl | (focus (simp only [AV.lims, AV.lim, lims_append, lims_encF, lims_encS, lims_encI, lims_encB, Bool.and_self, Bool.and_true, Bool.true_and]; (try rfl); done)))) | (apply View.whole; rfl) | (apply View.wholeP; rfl) | apply View.agg | (intro h; first | rfl | exact flat0 h | exact absurd h (by decide)))); done)); rfl; rfl) | exact hi)); rfl; rfl; rfl)
    | (apply Wops.skip; rfl; rfl; rfl)
    | (apply Wops.gs; rfl; (intro h; try rw [h]; try replace h := of_decide_eq_true h); rotate_left; (intro h; try rw [h]; try replace h := of_decide_eq_false h); rotate_left)
    | (apply W.condP; rfl; intro h; rotate_left; intro h; rotate_left)
    | (apply W.cond; rfl; intro h; rotate_left; intro h; rotate_left)
    | (exfalso; omega)
    | (apply RetQ.pure (Or.inr rfl); rfl; (first | rfl | (focus (simp [AV.lim, AV.lims]; done))); (first | exact Sub.refl _ | (refine Sub.bool ?_; first | rfl | (focus (simp [*]; done)) | skip) | (refine Sub.int ?_; first | rfl | skip) | (refine Sub.flt ?_; first | rfl | skip) | skip))
    | (apply RetQ.cutE (Or.inr rfl); rfl; rfl; (first | rfl | (focus (simp only [AV.lims, AV.lim, lims_append, lims_encF, lims_encS, lims_encI, lims_encB, Bool.and_self, Bool.and_true, Bool.true_and]; (try rfl); done))); (first | rfl | (focus (simp only [hlims, AV.lims, AV.lim, lims_append, lims_encF, lims_encS, lims_encI, lims_encB, Bool.and_self, Bool.and_true, Bool.true_and]; (try rfl); done)) | (focus (simp [hlims, AV.lims, AV.lim, lims_append, lims_encF, lims_encS, lims_encI, lims_encB, Bool.and_self, Bool.and_true, Bool.true_and]; done))); (first | exact Sub.refl _ | (refine Sub.bool ?_; first | rfl | (focus (simp [*]; done)) | skip) | (refine Sub.int ?_; first | rfl | skip) | (refine Sub.flt ?_; first | rfl | skip) | skip); (first | rfl | skip)))
theorem ReadFraction_ok {s : List UInt8} {x : Nat} (hx : ACall Tryz.prog G 61 [.s (str s)] [] (.tup [.f x, .b true]) []) : ACall Tryz.prog G 21 [.s (str s)] [] (.tup [.f x, .i 0]) [] := by
  refine ACall.intro T Tryz.func21 (by kernel_rfl) rfl rfl rfl rfl ?_
  repeat' (first
    | refine W.seq ?_
    | refine W.region ?_
    | refine Wops.nilS ?_
    | (refine Wops.nil ?_; dsimp only [thenP, inBlockP])
    | (refine W.ret ?_; try dsimp only [thenP, inBlockP])
    | (refine W.skip ?_; try dsimp only [thenP, inBlockP])
    | (apply W.condT; rfl)
    | (apply W.condF; rfl)
    | (apply Wops.cons; (first | (apply XOp.assign; rfl) | (apply XOp.move; rfl) | (apply XOp.extract; rfl; rfl) | (apply XOp.not; rfl; rfl) | (apply XOp.call; rfl; first | (apply ACall.pure (hx); (first | rfl | (focus (simp only [AV.lims, AV.lim, lims_append, lims_encF, lims_encS, lims_encI, lims_encB, Bool.and_self, Bool.and_true, Bool.true_and]; (try rfl); done)))) | (apply ACall.borrow (hx); (focus ((repeat (first | exact Views.nil | (apply Views.same; (first | rfl | (focus (simp only [AV.lims, AV.lim, lims_append, lims_encF, lims_encS, lims_encI, lims_encB, Bool.and_self, Bool.and_true, Bool.true_and]; (try rfl); done)))) | apply Views.cons | (apply View.same; (first | rfl | (focus (simp only [AV.lims, AV.lim, lims_append, lims_encF, lims_encS, lims_encI, lims_encB, Bool.and_self, Bool.and_true, Bool.true_and]; (try rfl); done)))) | (apply View.whole; rfl) | (apply View.wholeP; rfl) | apply View.agg | (intro h; first | rfl | exact flat0 h | exact absurd h (by decide)))); done)); rfl; rfl) | exact hx)); rfl; rfl; rfl)
    | (apply W.condP; rfl; intro h; rotate_left; intro h; rotate_left)
    | (apply W.cond; rfl; intro h; rotate_left; intro h; rotate_left)
    | (exfalso; omega)
    | (apply RetQ.pure (Or.inr rfl); rfl; (first | rfl | (focus (simp [AV.lim, AV.lims]; done))); (first | exact Sub.refl _ | (refine Sub.bool ?_; first | rfl | (focus (simp [*]; done)) | skip) | (refine Sub.int ?_; first | rfl | skip) | (refine Sub.flt ?_; first | rfl | skip) | skip))
    | (apply RetQ.cutE (Or.inr rfl); rfl; rfl; (first | rfl | (focus (simp only [AV.lims, AV.lim, lims_append, lims_encF, lims_encS, lims_encI, lims_encB, Bool.and_self, Bool.and_true, Bool.true_and]; (try rfl); done))); (first | rfl | (focus (simp only [hlims, AV.lims, AV.lim, lims_append, lims_encF, lims_encS, lims_encI, lims_encB, Bool.and_self, Bool.and_true, Bool.true_and]; (try rfl); done)) | (focus (simp [hlims, AV.lims, AV.lim, lims_append, lims_encF, lims_encS, lims_encI, lims_encB, Bool.and_self, Bool.and_true, Bool.true_and]; done))); (first | exact Sub.refl _ | (refine Sub.bool ?_; first | rfl | (focus (simp [*]; done)) | skip) | (refine Sub.int ?_; first | rfl | skip) | (refine Sub.flt ?_; first | rfl | skip) | skip); (first | rfl | skip)))
theorem ReadFraction_no {s : List UInt8} {x : Nat} (hx : ACall Tryz.prog G 61 [.s (str s)] [] (.tup [.f x, .b false]) []) : ACall Tryz.prog G 21 [.s (str s)] [] (.tup [.f 0, .i 5]) [] := by
  refine ACall.intro T Tryz.func21 (by kernel_rfl) rfl rfl rfl rfl ?_
  repeat' (first
    | refine W.seq ?_
    | refine W.region ?_
    | refine Wops.nilS ?_
    | (refine Wops.nil ?_; dsimp only [thenP, inBlockP])
    | (refine W.ret ?_; try dsimp only [thenP, inBlockP])
    | (refine W.skip ?_; try dsimp only [thenP, inBlockP])
    | (apply W.condT; rfl)
    | (apply W.condF; rfl)
    | (apply Wops.cons; (first | (apply XOp.assign; rfl) | (apply XOp.move; rfl) | (apply XOp.extract; rfl; rfl) | (apply XOp.not; rfl; rfl) | (apply XOp.call; rfl; first | (apply ACall.pure (hx); (first | rfl | (focus (simp only [AV.lims, AV.lim, lims_append, lims_encF, lims_encS, lims_encI, lims_encB, Bool.and_self, Bool.and_true, Bool.true_and]; (try rfl); done)))) | (apply ACall.borrow (hx); (focus ((repeat (first | exact Views.nil | (apply Views.same; (first | rfl | (focus (simp only [AV.lims, AV.lim, lims_append, lims_encF, lims_encS, lims_encI, lims_encB, Bool.and_self, Bool.and_true, Bool.true_and]; (try rfl); done)))) | apply Views.cons | (apply View.same; (first | rfl | (focus (simp only [AV.lims, AV.lim, lims_append, lims_encF, lims_encS, lims_encI, lims_encB, Bool.and_self, Bool.and_true, Bool.true_and]; (try rfl); done)))) | (apply View.whole; rfl) | (apply View.wholeP; rfl) | apply View.agg | (intro h; first | rfl | exact flat0 h | exact absurd h (by decide)))); done)); rfl; rfl) | exact hx)); rfl; rfl; rfl)
    | (apply W.condP; rfl; intro h; rotate_left; intro h; rotate_left)
    | (apply W.cond; rfl; intro h; rotate_left; intro h; rotate_left)
    | (exfalso; omega)
    | (apply RetQ.pure (Or.inr rfl); rfl; (first | rfl | (focus (simp [AV.lim, AV.lims]; done))); (first | exact Sub.refl _ | (refine Sub.bool ?_; first | rfl | (focus (simp [*]; done)) | skip) | (refine Sub.int ?_; first | rfl | skip) | (refine Sub.flt ?_; first | rfl | skip) | skip))
    | (apply RetQ.cutE (Or.inr rfl); rfl; rfl; (first | rfl | (focus (simp only [AV.lims, AV.lim, lims_append, lims_encF, lims_encS, lims_encI, lims_encB, Bool.and_self, Bool.and_true, Bool.true_and]; (try rfl); done))); (first | rfl | (focus (simp only [hlims, AV.lims, AV.lim, lims_append, lims_encF, lims_encS, lims_encI, lims_encB, Bool.and_self, Bool.and_true, Bool.true_and]; (try rfl); done)) | (focus (simp [hlims, AV.lims, AV.lim, lims_append, lims_encF, lims_encS, lims_encI, lims_encB, Bool.and_self, Bool.and_true, Bool.true_and]; done))); (first | exact Sub.refl _ | (refine Sub.bool ?_; first | rfl | (focus (simp [*]; done)) | skip) | (refine Sub.int ?_; first | rfl | skip) | (refine Sub.flt ?_; first | rfl | skip) | skip); (first | rfl | skip)))
def az : List UInt8 := [97, 98, 99, 100, 101, 102, 103, 104, 105, 106, 107, 108, 109, 110, 111, 112, 113, 114, 115, 116, 117, 118, 119, 120, 121, 122]
theorem Trim_ac (l cs : List UInt8) (hl : l.length < 1000000) (hc : cs.length < 1000) (h : ∀ b ∈ cs, b.toNat < 128) : ACall Tryz.prog G 195 [.s (str l), .s (str cs)] [] (.s (str (Lib.trimS l cs))) [] := by
  refine ACall.ofBelow ⟨_, Tryz.func195, by kernel_rfl, rfl⟩ rfl fun K ρ w vs g hr => ?_
  simp only [rels, rel] at hr
  obtain ⟨_, _, rfl, rfl, _, _, rfl, rfl, rfl⟩ := hr
  refine (Any.strings_Trim_laid Tryz.lays160 (by kernel_rfl) (str l) (str cs) w (by rw [str_size]; omega) (by rw [str_size]; omega) (fun j b hj => h b (List.mem_of_getElem? hj))).mono ?_
  rintro e w' ⟨rfl, hb⟩
  exact ⟨_, rfl, hb, by simp only [rel]⟩
def nameB (l : List UInt8) : Bool := decide (1 ≤ (l.length : Int) ∧ (l.length : Int) ≤ 12) && decide (str (Lib.trimS l az) = str [])
theorem isName_ac (l : List UInt8) (hl : l.length < 1000000) : ACall Tryz.prog G 155 [.s (str l)] [] (.b (nameB l)) [] := by
  have hw := within_ac (G := G) (str l).size 1 12
  have ht := Trim_ac (G := G) l az hl (by decide) (by decide)
  refine ACall.intro T Tryz.func155 (by kernel_rfl) rfl rfl rfl rfl ?_
  repeat' (first
    | refine W.seq ?_
    | refine W.region ?_
    | refine Wops.nilS ?_
    | (refine Wops.nil ?_; dsimp only [thenP, inBlockP])
    | (refine W.ret ?_; try dsimp only [thenP, inBlockP])
    | (refine W.skip ?_; try dsimp only [thenP, inBlockP])
    | (apply Wops.cons; (first | (apply XOp.assign; rfl) | (apply XOp.move; rfl) | (apply XOp.lenL T; rfl; rfl; rfl) | (apply XOp.lenO T; rfl; rfl; rfl) | (apply XOp.lenS T; rfl; rfl; rfl) | (apply XOp.lenE T; rfl; rfl; rfl) | (apply XOp.lenNil T; rfl; rfl; rfl) | (apply XOp.scmp; rfl; rfl; rfl) | (apply XOp.pick; rfl; rfl) | (apply XOp.call; rfl; first | (apply ACall.pure (hw); (first | rfl | (focus (simp only [AV.lims, AV.lim, lims_append, lims_encF, lims_encS, lims_encI, lims_encB, Bool.and_self, Bool.and_true, Bool.true_and]; (try rfl); done)))) | (apply ACall.borrow (hw); (focus ((repeat (first | exact Views.nil | (apply Views.same; (first | rfl | (focus (simp only [AV.lims, AV.lim, lims_append, lims_encF, lims_encS, lims_encI, lims_encB, Bool.and_self, Bool.and_true, Bool.true_and]; (try rfl); done)))) | apply Views.cons | (apply View.same; (first | rfl | (focus (simp only [AV.lims, AV.lim, lims_append, lims_encF, lims_encS, lims_encI, lims_encB, Bool.and_self, Bool.and_true, Bool.true_and]; (try rfl); done)))) | (apply View.whole; rfl) | (apply View.wholeP; rfl) | apply View.agg | (intro h; first | rfl | exact flat0 h | exact absurd h (by decide)))); done)); rfl; rfl) | exact hw) | (apply XOp.call; rfl; first | (apply ACall.pure (ht); (first | rfl | (focus (simp only [AV.lims, AV.lim, lims_append, lims_encF, lims_encS, lims_encI, lims_encB, Bool.and_self, Bool.and_true, Bool.true_and]; (try rfl); done)))) | (apply ACall.borrow (ht); (focus ((repeat (first | exact Views.nil | (apply Views.same; (first | rfl | (focus (simp only [AV.lims, AV.lim, lims_append, lims_encF, lims_encS, lims_encI, lims_encB, Bool.and_self, Bool.and_true, Bool.true_and]; (try rfl); done)))) | apply Views.cons | (apply View.same; (first | rfl | (focus (simp only [AV.lims, AV.lim, lims_append, lims_encF, lims_encS, lims_encI, lims_encB, Bool.and_self, Bool.and_true, Bool.true_and]; (try rfl); done)))) | (apply View.whole; rfl) | (apply View.wholeP; rfl) | apply View.agg | (intro h; first | rfl | exact flat0 h | exact absurd h (by decide)))); done)); rfl; rfl) | exact ht)); rfl; rfl; rfl)
    | (apply Wops.skip; rfl; rfl; rfl)
    | (apply Wops.gs; rfl; (intro h; try rw [h]; try replace h := of_decide_eq_true h); rotate_left; (intro h; try rw [h]; try replace h := of_decide_eq_false h); rotate_left)
    | (exfalso; omega)
    | (apply RetQ.pure (Or.inr rfl); rfl; (first | rfl | (focus (simp [AV.lim, AV.lims]; done))); (first | exact Sub.refl _ | (refine Sub.bool ?_; first | rfl | (focus (simp [*]; done)) | skip) | (refine Sub.int ?_; first | rfl | skip) | (refine Sub.flt ?_; first | rfl | skip) | skip))
    | (apply RetQ.cutE (Or.inr rfl); rfl; rfl; (first | rfl | (focus (simp only [AV.lims, AV.lim, lims_append, lims_encF, lims_encS, lims_encI, lims_encB, Bool.and_self, Bool.and_true, Bool.true_and]; (try rfl); done))); (first | rfl | (focus (simp only [hlims, AV.lims, AV.lim, lims_append, lims_encF, lims_encS, lims_encI, lims_encB, Bool.and_self, Bool.and_true, Bool.true_and]; (try rfl); done)) | (focus (simp [hlims, AV.lims, AV.lim, lims_append, lims_encF, lims_encS, lims_encI, lims_encB, Bool.and_self, Bool.and_true, Bool.true_and]; done))); (first | exact Sub.refl _ | (refine Sub.bool ?_; first | rfl | (focus (simp [*]; done)) | skip) | (refine Sub.int ?_; first | rfl | skip) | (refine Sub.flt ?_; first | rfl | skip) | skip); (first | rfl | skip)))
  · rw [str_size] at h; unfold nameB; rw [decide_eq_true h, Bool.true_and]
  · rw [str_size] at h; unfold nameB; rw [decide_eq_false h, Bool.false_and]
end Go.Ax
