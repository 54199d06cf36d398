/-
  Plain laws on counting and on fractions, and the law itself, walked over the book.
-/
import Derived.Test.YtomidnkcohkhfaaGreatDoorD12
import Derived.Test.YtomidnkcohkhfaaGreatDoorD13
import Derived.Test.YtomidnkcohkhfaaGreatDoorD14
import Derived.KernelRfl
namespace Go.Ax
open Go.Proofs
variable {G : Mem}
def fracB (n k : Nat) : Bool := fcmp .eql .f32 (fmul (fdiv (fnum (-(n : Int))) (fnum ((2 ^ (k + 1) : Nat) : Int))) (fnum ((2 ^ (k + 1) : Nat) : Int))) (fneg .f32 (fnum (n : Int)))
theorem frac_all : ((List.range 256).all fun n => (List.range 10).all fun k => fracB n k) = true := by kernel_rfl
theorem frac_at {n k : Nat} (hn : n < 256) (hk : k < 10) : fracB n k = true := by
  have := frac_all
  rw [List.all_eq_true] at this
  have h := this n (by simp [hn])
  rw [List.all_eq_true] at h
  exact h k (by simp [hk])
theorem by_all (k : Nat) (hk : k < 10) : IntKind.i64.wrap (1 * 2 ^ (min (1 + (k : Int)).toNat IntKind.i64.bits)) = ((2 ^ (k + 1) : Nat) : Int) ∧ 2 ≤ 2 ^ (k + 1) ∧ 2 ^ (k + 1) ≤ 1024 ∧ ibits .and .i64 ((2 ^ (k + 1) : Nat) : Int) (((2 ^ (k + 1) : Nat) : Int) - 1) = 0 ∧
    (1024 < 2 ^ (k + 1) + 1 ∨ ibits .and .i64 ((2 ^ (k + 1) + 1 : Nat) : Int) (((2 ^ (k + 1) + 1 : Nat) : Int) - 1) ≠ 0) := by
  have : k = 0 ∨ k = 1 ∨ k = 2 ∨ k = 3 ∨ k = 4 ∨ k = 5 ∨ k = 6 ∨ k = 7 ∨ k = 8 ∨ k = 9 := by omega
  rcases this with rfl | rfl | rfl | rfl | rfl | rfl | rfl | rfl | rfl | rfl <;> decide
theorem count_render : ∀ {its : List Item}, (∀ i ∈ its, i.ok) → (render its).count 10 = 2 * its.length
  | [], _ => by simp [render]
  | i :: its, h => by
    have ih := count_render (its := its) (fun j hj => h j (by simp [hj]))
    have e : render (i :: its) = itemT i ++ render its := by simp [render]
    have h1 := List.count_eq_zero.2 (play_no (h i (by simp)))
    have h2 := List.count_eq_zero.2 (wait_no i)
    rw [e, item_lines, List.count_append, List.count_cons_self, List.count_append, List.count_cons_self, h1, h2, ih, List.length_cons]
    omega
theorem count_take (l : List UInt8) (j : Nat) (h : j < l.length) : (l.take (j + 1)).count 10 = (l.take j).count 10 + if l[j] = 10 then 1 else 0 := by
  rw [List.take_succ_eq_append_getElem h, List.count_append]
  congr 1
  rw [List.count_singleton]
  simp
end Go.Ax
namespace Go.Ax
open Go.Proofs
variable {G : Mem}
theorem a2Long_at (code more : List UInt8) : ACall Tryz.prog G 17 [.bs code, .bs more] [] (.b (decide (3000 < code.length ∨ 3000 < more.length))) [] := by
  refine ACall.intro T Tryz.func17 (by kernel_rfl) rfl rfl rfl rfl ?_
  repeat' (first
    | refine W.seq ?_
    | refine W.region ?_
    | refine Wops.nilS ?_
    | (refine Wops.nil ?_; dsimp only [thenP, inBlockP])
    | (refine W.ret ?_; try dsimp only [thenP, inBlockP])
    | (refine W.skip ?_; try dsimp only [thenP, inBlockP])
    | (apply Wops.cons; (first | (apply XOp.assign; rfl) | (apply XOp.move; rfl) | (apply XOp.lenL T; rfl; rfl; rfl) | (apply XOp.lenO T; rfl; rfl; rfl) | (apply XOp.lenS T; rfl; rfl; rfl) | (apply XOp.lenE T; rfl; rfl; rfl) | (apply XOp.lenNil T; rfl; rfl; rfl) | (apply XOp.cmp; rfl; rfl; rfl) | (apply XOp.pick; rfl; rfl)); rfl; rfl; rfl)
    | (apply Wops.skip; rfl; rfl; rfl)
    | (apply Wops.gs; rfl; (intro h; try rw [h]; try replace h := of_decide_eq_true h); rotate_left; (intro h; try rw [h]; try replace h := of_decide_eq_false h); rotate_left)
    | (exfalso; omega)
    | (apply RetQ.pure (Or.inr rfl); rfl; (first | rfl | (focus (simp [AV.lim, AV.lims]; done))); (first | exact Sub.refl _ | (refine Sub.bool ?_; first | rfl | (focus (simp [*]; done)) | skip) | (refine Sub.int ?_; first | rfl | skip) | (refine Sub.flt ?_; first | rfl | skip) | skip))
    | (apply RetQ.cutE (Or.inr rfl); rfl; rfl; (first | rfl | (focus (simp only [AV.lims, AV.lim, lims_append, lims_encF, lims_encS, lims_encI, lims_encB, Bool.and_self, Bool.and_true, Bool.true_and]; (try rfl); done))); (first | rfl | (focus (simp only [hlims, AV.lims, AV.lim, lims_append, lims_encF, lims_encS, lims_encI, lims_encB, Bool.and_self, Bool.and_true, Bool.true_and]; (try rfl); done)) | (focus (simp [hlims, AV.lims, AV.lim, lims_append, lims_encF, lims_encS, lims_encI, lims_encB, Bool.and_self, Bool.and_true, Bool.true_and]; done))); (first | exact Sub.refl _ | (refine Sub.bool ?_; first | rfl | (focus (simp [*]; done)) | skip) | (refine Sub.int ?_; first | rfl | skip) | (refine Sub.flt ?_; first | rfl | skip) | skip); (first | rfl | skip)))
  · exact (decide_eq_true (by omega)).symm
  · exact decide_eq_decide.2 (by omega)
theorem RF_ok (hG : GOk G) (n b : Nat) (hn : n < 256) (h2 : 2 ≤ b) (h3 : b ≤ 1024) (hb : ibits .and .i64 b (b - 1) = 0) : ACall Tryz.prog G 21 [.s (str ([45] ++ Lib.decDigits n ++ [47] ++ Lib.decDigits b))] [] (.tup [.f (fdiv (fnum (-(n : Int))) (fnum b)), .i 0]) [] := by
  have hl := dec_len (n := n) (by omega)
  have h := ReadFraction_ok (readFraction_by hG (45 :: Lib.decDigits n) (-(n : Int)) b (by simp only [List.length_cons]; omega) (by simp only [List.mem_cons, not_or]; exact ⟨by decide, dec_not (by decide)⟩) (readSigned_neg hG n (by omega)) h2 h3 hb)
  have e : [45] ++ Lib.decDigits n ++ [47] ++ Lib.decDigits b = 45 :: Lib.decDigits n ++ 47 :: Lib.decDigits b := by simp
  rwa [e]
theorem RF_no (hG : GOk G) (n b : Nat) (hn : n < 256) (h2 : 2 ≤ b) (h3 : b ≤ 2000) (hb : 1024 < b ∨ ibits .and .i64 b (b - 1) ≠ 0) : ACall Tryz.prog G 21 [.s (str (Lib.decDigits n ++ [47] ++ Lib.decDigits b))] [] (.tup [.f 0, .i 5]) [] := by
  have hl := dec_len (n := n) (by omega)
  have h := ReadFraction_no (readFraction_bad hG (Lib.decDigits n) n b (by omega) (dec_not (by decide)) (readSigned_dec hG n (by omega)) h2 (by omega) hb)
  have e : Lib.decDigits n ++ [47] ++ Lib.decDigits b = Lib.decDigits n ++ 47 :: Lib.decDigits b := by simp
  rwa [e]
set_option maxRecDepth 100000 in
set_option maxHeartbeats 4000000 in
theorem law_ac (hG : GOk G) (code more : List UInt8) : ACall Tryz.prog G 4 [.bs code, .bs more] [] (.b true) [] := by
  have hL := a2Long_at (G := G) code more
  by_cases hlong : 3000 < code.length ∨ 3000 < more.length
  · rw [decide_eq_true hlong] at hL
    refine ACall.intro T Tryz.func4 (by kernel_rfl) rfl rfl rfl rfl ?_
    repeat' (first
    | refine W.seq ?_
    | refine W.block ?_
    | refine W.region ?_
    | refine Wops.nilS ?_
    | (refine Wops.nil ?_; dsimp only [thenP, inBlockP])
    | (refine W.ret ?_; try dsimp only [thenP, inBlockP])
    | (refine W.exit ?_; try dsimp only [thenP, inBlockP, cond, Nat.beq])
    | (refine W.skip ?_; try dsimp only [thenP, inBlockP])
    | (apply W.condT; rfl)
    | (apply W.condF; rfl)
    | (apply Wops.cons; (first | (apply XOp.assign; rfl) | (apply XOp.move; rfl) | (apply XOp.lenL T; rfl; rfl; rfl) | (apply XOp.lenO T; rfl; rfl; rfl) | (apply XOp.lenS T; rfl; rfl; rfl) | (apply XOp.lenE T; rfl; rfl; rfl) | (apply XOp.lenNil T; rfl; rfl; rfl) | (apply XOp.cmp; rfl; rfl; rfl) | (apply XOp.sidx T; rfl; rfl; rfl; rfl; (first | omega | (simp only [Option.getD_some, Option.getD_none] at *; omega) | decide); first | rfl | assumption) | (apply XOp.arithI; rfl; rfl; rfl; (first | (simp only [IntKind.InR]; omega) | (simp only [IntKind.InR]; decide))) | (apply XOp.arith; rfl; rfl; rfl) | (apply XOp.cat; rfl; rfl; (first | omega | (simp only [List.length_append, List.length_map, List.length_cons, List.length_nil]; omega)); rfl) | (apply XOp.extract; rfl; rfl) | (apply XOp.pick; rfl; rfl) | (apply XOp.cvtII T; rfl; rfl; rfl; rfl; first | (apply wrap_in; (first | (simp only [IntKind.InR]; omega) | (simp only [IntKind.InR]; decide))) | rfl) | (apply XOp.shl; rfl; rfl; (first | omega | (simp only [Option.getD_some, Option.getD_none] at *; omega) | decide); (first | assumption | rfl)) | (apply XOp.cvtIF T; rfl; rfl; rfl; rfl) | (apply XOp.farith; rfl; rfl; rfl) | (apply XOp.fneg; rfl) | (apply XOp.fcmp; rfl; rfl; rfl) | (apply XOp.call; rfl; first | (apply ACall.pure (hL); (first | rfl | (focus (simp only [AV.lims, AV.lim, lims_encB, Bool.and_self]; (try rfl); done)))) | (apply ACall.borrow (hL); (focus ((repeat (first | exact Views.nil | (apply Views.same; (first | rfl | (focus (simp only [AV.lims, AV.lim, lims_append, lims_encF, lims_encS, lims_encI, lims_encB, Bool.and_self, Bool.and_true, Bool.true_and]; (try rfl); done)))) | apply Views.cons | (apply View.same; (first | rfl | (focus (simp only [AV.lims, AV.lim, lims_append, lims_encF, lims_encS, lims_encI, lims_encB, Bool.and_self, Bool.and_true, Bool.true_and]; (try rfl); done)))) | (apply View.whole; rfl) | (apply View.wholeP; rfl) | apply View.agg | (intro h; first | rfl | exact flat0 h | exact absurd h (by decide)))); done)); rfl; rfl) | exact hL) | (apply XOp.alloc T; rfl; (simp only [List.length_cons, List.length_nil, Nat.zero_add, Nat.add_zero, Nat.reduceAdd, Nat.reduceMul] <;> rfl); rfl) | (apply XOp.store T; rfl; rfl; rfl) | (apply XOp.storeF T; rfl; rfl; rfl; rfl; rfl; rfl; (first | omega | (simp only [List.length_set]; omega)); rfl)); rfl; rfl; rfl)
    | (apply Wops.consN; (first | (apply XOp.alloc T; rfl; (simp only [List.length_cons, List.length_nil, Nat.zero_add, Nat.add_zero, Nat.reduceAdd, Nat.reduceMul] <;> rfl); rfl) | (apply XOp.store T; rfl; rfl; rfl) | (apply XOp.storeF T; rfl; rfl; rfl; rfl; rfl; rfl; (first | omega | (simp only [List.length_set]; omega)); rfl)); rfl; rfl)
    | (apply Wops.skip; rfl; rfl; rfl)
    | (apply Wops.gs; rfl; (intro h; try rw [h]; try replace h := of_decide_eq_true h); rotate_left; (intro h; try rw [h]; try replace h := of_decide_eq_false h); rotate_left)
    | (apply W.condP; rfl; intro h; rotate_left; intro h; rotate_left)
    | (apply W.cond; rfl; intro h; rotate_left; intro h; rotate_left)
    | (exfalso; omega)
    | (apply RetQ.pure (Or.inr rfl); rfl; (first | rfl | (focus (simp [AV.lim, AV.lims]; done))); (first | exact Sub.refl _ | (refine Sub.bool ?_; first | rfl | (focus (simp [*]; done)) | skip) | (refine Sub.int ?_; first | rfl | skip) | (refine Sub.flt ?_; first | rfl | skip) | skip))
    | (apply RetQ.cutE (Or.inr rfl); rfl; rfl; (first | rfl | (focus (simp only [AV.lims, AV.lim, lims_append, lims_encF, lims_encS, lims_encI, lims_encB, Bool.and_self, Bool.and_true, Bool.true_and]; (try rfl); done))); (first | rfl | (focus (simp only [hlims, AV.lims, AV.lim, lims_append, lims_encF, lims_encS, lims_encI, lims_encB, Bool.and_self, Bool.and_true, Bool.true_and]; (try rfl); done)) | (focus (simp [hlims, AV.lims, AV.lim, lims_append, lims_encF, lims_encS, lims_encI, lims_encB, Bool.and_self, Bool.and_true, Bool.true_and]; done))); (first | exact Sub.refl _ | (refine Sub.bool ?_; first | rfl | (focus (simp [*]; done)) | skip) | (refine Sub.int ?_; first | rfl | skip) | (refine Sub.flt ?_; first | rfl | skip) | skip); (first | rfl | skip)))
  · rw [decide_eq_false hlong] at hL
    obtain ⟨its, hn, hok, hT⟩ := A2Text_ac (G := G) code 4 (by omega) (by omega) (by omega)
    have hn' : its.length ≤ 4 := by omega
    have c1 := T1_ac hG its hok hn'
    have c2 := T2_ac hG its hok hn'
    have c3 := T3_ac hG its hok hn'
    obtain ⟨d1, a1, a2, hA⟩ := A2Digit_ac (G := G) more 0 256 (by omega) (by omega) (by omega)
    obtain ⟨d2, b1, b2, hB⟩ := A2Digit_ac (G := G) more 1 10 (by omega) (by omega) (by omega)
    obtain ⟨n, rfl⟩ : ∃ n : Nat, d1 = n := ⟨d1.toNat, by omega⟩
    obtain ⟨k, rfl⟩ : ∃ k : Nat, d2 = k := ⟨d2.toNat, by omega⟩
    obtain ⟨y1, y2, y3, y4, y5⟩ := by_all k (by omega)
    have y6 := frac_at (n := n) (k := k) (by omega) (by omega)
    unfold fracB at y6
    generalize (2 ^ (k + 1) : Nat) = b at *
    have r1 := RF_ok hG n b (by omega) y2 y3 y4
    have r2 := RF_no hG n (b + 1) (by omega) (by omega) (by omega) y5
    have e1 := Decimal_of (G := G) n (by omega) (by omega)
    have e2 := Decimal_of (G := G) b (by omega) (by omega)
    have e3 := Decimal_of (G := G) (b + 1) (by omega) (by omega)
    rw [show ((n : Int)).toNat = n by omega] at e1
    rw [show ((b : Int)).toNat = b by omega] at e2
    rw [show ((b : Int) + 1).toNat = b + 1 by omega] at e3
    have l1 := dec_len (n := n) (by omega)
    have l2 := dec_len (n := b) (by omega)
    have l3 := dec_len (n := b + 1) (by omega)
    have hcr := count_render hok
    have hlr := render_len hok
    clear y5
    refine ACall.intro T Tryz.func4 (by kernel_rfl) rfl rfl rfl rfl ?_
    repeat' (first
    | refine W.seq ?_
    | refine W.block ?_
    | refine W.region ?_
    | refine Wops.nilS ?_
    | (refine Wops.nil ?_; dsimp only [thenP, inBlockP])
    | (refine W.ret ?_; try dsimp only [thenP, inBlockP])
    | (refine W.exit ?_; try dsimp only [thenP, inBlockP, cond, Nat.beq])
    | (refine W.skip ?_; try dsimp only [thenP, inBlockP])
    | (apply W.condT; rfl)
    | (apply W.condF; rfl)
    | (apply Wops.cons; (first | (apply XOp.assign; rfl) | (apply XOp.move; rfl) | (apply XOp.lenL T; rfl; rfl; rfl) | (apply XOp.lenO T; rfl; rfl; rfl) | (apply XOp.lenS T; rfl; rfl; rfl) | (apply XOp.lenE T; rfl; rfl; rfl) | (apply XOp.lenNil T; rfl; rfl; rfl) | (apply XOp.cmp; rfl; rfl; rfl) | (apply XOp.sidx T; rfl; rfl; rfl; rfl; (first | omega | (simp only [Option.getD_some, Option.getD_none] at *; omega) | decide); first | rfl | assumption) | (apply XOp.arithI; rfl; rfl; rfl; (first | (simp only [IntKind.InR]; omega) | (simp only [IntKind.InR]; decide))) | (apply XOp.arith; rfl; rfl; rfl) | (apply XOp.cat; rfl; rfl; (first | omega | (simp only [List.length_append, List.length_map, List.length_cons, List.length_nil]; omega)); rfl) | (apply XOp.extract; rfl; rfl) | (apply XOp.pick; rfl; rfl) | (apply XOp.cvtII T; rfl; rfl; rfl; rfl; first | (apply wrap_in; (first | (simp only [IntKind.InR]; omega) | (simp only [IntKind.InR]; decide))) | rfl) | (apply XOp.shl; rfl; rfl; (first | omega | (simp only [Option.getD_some, Option.getD_none] at *; omega) | decide); (first | assumption | rfl)) | (apply XOp.cvtIF T; rfl; rfl; rfl; rfl) | (apply XOp.farith; rfl; rfl; rfl) | (apply XOp.fneg; rfl) | (apply XOp.fcmp; rfl; rfl; rfl) | (apply XOp.call; rfl; first | (apply ACall.pure (hL); (first | rfl | (focus (simp only [AV.lims, AV.lim, lims_encB, Bool.and_self]; (try rfl); done)))) | (apply ACall.borrow (hL); (focus ((repeat (first | exact Views.nil | (apply Views.same; (first | rfl | (focus (simp only [AV.lims, AV.lim, lims_append, lims_encF, lims_encS, lims_encI, lims_encB, Bool.and_self, Bool.and_true, Bool.true_and]; (try rfl); done)))) | apply Views.cons | (apply View.same; (first | rfl | (focus (simp only [AV.lims, AV.lim, lims_append, lims_encF, lims_encS, lims_encI, lims_encB, Bool.and_self, Bool.and_true, Bool.true_and]; (try rfl); done)))) | (apply View.whole; rfl) | (apply View.wholeP; rfl) | apply View.agg | (intro h; first | rfl | exact flat0 h | exact absurd h (by decide)))); done)); rfl; rfl) | exact hL) | (apply XOp.call; rfl; first | (apply ACall.pure (hT); (first | rfl | (focus (simp only [AV.lims, AV.lim, lims_encB, Bool.and_self]; (try rfl); done)))) | (apply ACall.borrow (hT); (focus ((repeat (first | exact Views.nil | (apply Views.same; (first | rfl | (focus (simp only [AV.lims, AV.lim, lims_append, lims_encF, lims_encS, lims_encI, lims_encB, Bool.and_self, Bool.and_true, Bool.true_and]; (try rfl); done)))) | apply Views.cons | (apply View.same; (first | rfl | (focus (simp only [AV.lims, AV.lim, lims_append, lims_encF, lims_encS, lims_encI, lims_encB, Bool.and_self, Bool.and_true, Bool.true_and]; (try rfl); done)))) | (apply View.whole; rfl) | (apply View.wholeP; rfl) | apply View.agg | (intro h; first | rfl | exact flat0 h | exact absurd h (by decide)))); done)); rfl; rfl) | exact hT) | (apply XOp.alloc T; rfl; (simp only [List.length_cons, List.length_nil, Nat.zero_add, Nat.add_zero, Nat.reduceAdd, Nat.reduceMul] <;> rfl); rfl) | (apply XOp.store T; rfl; rfl; rfl) | (apply XOp.storeF T; rfl; rfl; rfl; rfl; rfl; rfl; (first | omega | (simp only [List.length_set]; omega)); rfl)); rfl; rfl; rfl)
    | (apply Wops.consN; (first | (apply XOp.alloc T; rfl; (simp only [List.length_cons, List.length_nil, Nat.zero_add, Nat.add_zero, Nat.reduceAdd, Nat.reduceMul] <;> rfl); rfl) | (apply XOp.store T; rfl; rfl; rfl) | (apply XOp.storeF T; rfl; rfl; rfl; rfl; rfl; rfl; (first | omega | (simp only [List.length_set]; omega)); rfl)); rfl; rfl)
    | (apply Wops.skip; rfl; rfl; rfl)
    | (apply Wops.gs; rfl; (intro h; try rw [h]; try replace h := of_decide_eq_true h); rotate_left; (intro h; try rw [h]; try replace h := of_decide_eq_false h); rotate_left)
    | (apply W.condP; rfl; intro h; rotate_left; intro h; rotate_left)
    | (apply W.cond; rfl; intro h; rotate_left; intro h; rotate_left)
    | (exfalso; omega)
    | (apply RetQ.pure (Or.inr rfl); rfl; (first | rfl | (focus (simp [AV.lim, AV.lims]; done))); (first | exact Sub.refl _ | (refine Sub.bool ?_; first | rfl | (focus (simp [*]; done)) | skip) | (refine Sub.int ?_; first | rfl | skip) | (refine Sub.flt ?_; first | rfl | skip) | skip))
    | (apply RetQ.cutE (Or.inr rfl); rfl; rfl; (first | rfl | (focus (simp only [AV.lims, AV.lim, lims_append, lims_encF, lims_encS, lims_encI, lims_encB, Bool.and_self, Bool.and_true, Bool.true_and]; (try rfl); done))); (first | rfl | (focus (simp only [hlims, AV.lims, AV.lim, lims_append, lims_encF, lims_encS, lims_encI, lims_encB, Bool.and_self, Bool.and_true, Bool.true_and]; (try rfl); done)) | (focus (simp [hlims, AV.lims, AV.lim, lims_append, lims_encF, lims_encS, lims_encI, lims_encB, Bool.and_self, Bool.and_true, Bool.true_and]; done))); (first | exact Sub.refl _ | (refine Sub.bool ?_; first | rfl | (focus (simp [*]; done)) | skip) | (refine Sub.int ?_; first | rfl | skip) | (refine Sub.flt ?_; first | rfl | skip) | skip); (first | rfl | skip)))
    refine W.loop (ι := {j : Nat // j ≤ (render its).length}) (fun j => [(1, .bs more), (5, .s (str (render its))), (6, .i (((render its).take j.1).count 10)), (7, .i j.1)]) (fun _ => []) (fun j => (render its).length - j.1) ⟨0, Nat.zero_le _⟩ ?_ (fun _ => Nat.le_refl _) ?_
    · exact Fits.same (EnvLe.cons rfl (EnvLe.cons rfl (EnvLe.cons rfl (EnvLe.cons rfl EnvLe.nil))))
    rintro ⟨j, hj⟩
    dsimp only []
    by_cases hlt : j < (render its).length
    · have hc : (render its)[((j : Nat) : Int).toNat]? = some (render its)[j] := List.getElem?_eq_getElem hlt
      have hct := count_take (render its) j hlt
      have hsz : (str (render its)).size = (render its).length := str_size _
      have hcm : ((render its).take j).count 10 ≤ j := Nat.le_trans List.count_le_length (by rw [List.length_take]; exact Nat.min_le_left _ _)
      clear c1 c2 c3 hT r1 r2 e1 e2 e3
      repeat' (first
    | refine W.seq ?_
    | refine W.block ?_
    | refine W.region ?_
    | refine Wops.nilS ?_
    | (refine Wops.nil ?_; dsimp only [thenP, inBlockP])
    | (refine W.ret ?_; try dsimp only [thenP, inBlockP])
    | (refine W.exit ?_; try dsimp only [thenP, inBlockP, cond, Nat.beq])
    | (refine W.skip ?_; try dsimp only [thenP, inBlockP])
    | (apply W.condT; rfl)
    | (apply W.condF; rfl)
    | (apply Wops.cons; (first | (apply XOp.assign; rfl) | (apply XOp.move; rfl) | (apply XOp.lenL T; rfl; rfl; rfl) | (apply XOp.lenO T; rfl; rfl; rfl) | (apply XOp.lenS T; rfl; rfl; rfl) | (apply XOp.lenE T; rfl; rfl; rfl) | (apply XOp.lenNil T; rfl; rfl; rfl) | (apply XOp.cmp; rfl; rfl; rfl) | (apply XOp.sidx T; rfl; rfl; rfl; rfl; (first | omega | (simp only [Option.getD_some, Option.getD_none] at *; omega) | decide); first | rfl | assumption) | (apply XOp.arithI; rfl; rfl; rfl; (first | (simp only [IntKind.InR]; omega) | (simp only [IntKind.InR]; decide))) | (apply XOp.arith; rfl; rfl; rfl) | (apply XOp.cat; rfl; rfl; (first | omega | (simp only [List.length_append, List.length_map, List.length_cons, List.length_nil]; omega)); rfl) | (apply XOp.extract; rfl; rfl) | (apply XOp.pick; rfl; rfl) | (apply XOp.cvtII T; rfl; rfl; rfl; rfl; first | (apply wrap_in; (first | (simp only [IntKind.InR]; omega) | (simp only [IntKind.InR]; decide))) | rfl) | (apply XOp.shl; rfl; rfl; (first | omega | (simp only [Option.getD_some, Option.getD_none] at *; omega) | decide); (first | assumption | rfl)) | (apply XOp.cvtIF T; rfl; rfl; rfl; rfl) | (apply XOp.farith; rfl; rfl; rfl) | (apply XOp.fneg; rfl) | (apply XOp.fcmp; rfl; rfl; rfl) | (apply XOp.alloc T; rfl; (simp only [List.length_cons, List.length_nil, Nat.zero_add, Nat.add_zero, Nat.reduceAdd, Nat.reduceMul] <;> rfl); rfl) | (apply XOp.store T; rfl; rfl; rfl) | (apply XOp.storeF T; rfl; rfl; rfl; rfl; rfl; rfl; (first | omega | (simp only [List.length_set]; omega)); rfl)); rfl; rfl; rfl)
    | (apply Wops.consN; (first | (apply XOp.alloc T; rfl; (simp only [List.length_cons, List.length_nil, Nat.zero_add, Nat.add_zero, Nat.reduceAdd, Nat.reduceMul] <;> rfl); rfl) | (apply XOp.store T; rfl; rfl; rfl) | (apply XOp.storeF T; rfl; rfl; rfl; rfl; rfl; rfl; (first | omega | (simp only [List.length_set]; omega)); rfl)); rfl; rfl)
    | (apply Wops.skip; rfl; rfl; rfl)
    | (apply Wops.gs; rfl; (intro h; try rw [h]; try replace h := of_decide_eq_true h); rotate_left; (intro h; try rw [h]; try replace h := of_decide_eq_false h); rotate_left)
    | (apply W.condP; rfl; intro h; rotate_left; intro h; rotate_left)
    | (apply W.cond; rfl; intro h; rotate_left; intro h; rotate_left)
    | (exfalso; omega))
      · refine ⟨⟨j + 1, hlt⟩, by simp only []; omega, Fits.same (EnvLe.cons rfl (EnvLe.cons rfl (EnvLe.cons ?_ (EnvLe.cons rfl EnvLe.nil))))⟩
        show AV.i _ = AV.i _
        refine congrArg AV.i ?_
        have : (render its)[j] = 10 := by
          have h8 : ((render its)[j].toNat : Int) = 10 := h
          exact UInt8.toNat_inj.1 (by show (render its)[j].toNat = 10; omega)
        rw [hct, if_pos this]; omega
      · refine ⟨⟨j + 1, hlt⟩, by simp only []; omega, Fits.same (EnvLe.cons rfl (EnvLe.cons rfl (EnvLe.cons ?_ (EnvLe.cons rfl EnvLe.nil))))⟩
        show AV.i _ = AV.i _
        refine congrArg AV.i ?_
        have : (render its)[j] ≠ 10 := fun h8 => h (by rw [h8]; rfl)
        rw [hct, if_neg this]; rfl
    · have hsz : (str (render its)).size = (render its).length := str_size _
      have e0 : ((((render its).take j).count 10 : Nat) : Int) = 2 * (its.length : Int) := by
        rw [List.take_of_length_le (by omega), hcr]; omega
      rw [e0]
      clear hcr hT e0
      by_cases hz0 : its.length = 0
      · rw [if_pos hz0] at c3
        repeat' (first
    | refine W.seq ?_
    | refine W.block ?_
    | refine W.region ?_
    | refine Wops.nilS ?_
    | (refine Wops.nil ?_; dsimp only [thenP, inBlockP])
    | (refine W.ret ?_; try dsimp only [thenP, inBlockP])
    | (refine W.exit ?_; try dsimp only [thenP, inBlockP, cond, Nat.beq])
    | (refine W.skip ?_; try dsimp only [thenP, inBlockP])
    | (apply W.condT; rfl)
    | (apply W.condF; rfl)
    | (apply Wops.cons; (first | (apply XOp.assign; rfl) | (apply XOp.move; rfl) | (apply XOp.lenL T; rfl; rfl; rfl) | (apply XOp.lenO T; rfl; rfl; rfl) | (apply XOp.lenS T; rfl; rfl; rfl) | (apply XOp.lenE T; rfl; rfl; rfl) | (apply XOp.lenNil T; rfl; rfl; rfl) | (apply XOp.cmp; rfl; rfl; rfl) | (apply XOp.sidx T; rfl; rfl; rfl; rfl; (first | omega | (simp only [Option.getD_some, Option.getD_none] at *; omega) | decide); first | rfl | assumption) | (apply XOp.arithI; rfl; rfl; rfl; (first | (simp only [IntKind.InR]; omega) | (simp only [IntKind.InR]; decide))) | (apply XOp.arith; rfl; rfl; rfl) | (apply XOp.cat; rfl; rfl; (first | omega | (simp only [List.length_append, List.length_cons, List.length_nil]; omega)); rfl) | (apply XOp.extract; rfl; rfl) | (apply XOp.pick; rfl; rfl) | (apply XOp.cvtII T; rfl; rfl; rfl; rfl; first | (apply wrap_in; (first | (simp only [IntKind.InR]; omega) | (simp only [IntKind.InR]; decide))) | rfl) | (apply XOp.shl; rfl; rfl; (first | omega | (simp only [Option.getD_some, Option.getD_none] at *; omega) | decide); (first | assumption | rfl)) | (apply XOp.cvtIF T; rfl; rfl; rfl; rfl) | (apply XOp.farith; rfl; rfl; rfl) | (apply XOp.fneg; rfl) | (apply XOp.fcmp; rfl; rfl; rfl) | (apply XOp.call; rfl; apply ACall.pure (c1); (first | rfl | (focus (simp only [AV.lims, AV.lim, lims_append, lims_encF, lims_encS, lims_encI, lims_encB, Bool.and_self, Bool.and_true, Bool.true_and]; (try rfl); done)))) | (apply XOp.call; rfl; apply ACall.pure (c2); (first | rfl | (focus (simp only [AV.lims, AV.lim, lims_append, lims_encF, lims_encS, lims_encI, lims_encB, Bool.and_self, Bool.and_true, Bool.true_and]; (try rfl); done)))) | (apply XOp.call; rfl; apply ACall.pure (c3); (first | rfl | (focus (simp only [AV.lims, AV.lim, lims_append, lims_encF, lims_encS, lims_encI, lims_encB, Bool.and_self, Bool.and_true, Bool.true_and]; (try rfl); done)))) | (apply XOp.call; rfl; first | (apply ACall.pure (hA); (first | rfl | (focus (simp only [AV.lims, AV.lim, lims_encB, Bool.and_self]; (try rfl); done)))) | (apply ACall.borrow (hA); (focus ((repeat (first | exact Views.nil | (apply Views.same; (first | rfl | (focus (simp only [AV.lims, AV.lim, lims_append, lims_encF, lims_encS, lims_encI, lims_encB, Bool.and_self, Bool.and_true, Bool.true_and]; (try rfl); done)))) | apply Views.cons | (apply View.same; (first | rfl | (focus (simp only [AV.lim, lims_encB]; (try rfl); done)))) | (apply View.whole; rfl) | (apply View.wholeP; rfl) | apply View.agg | (intro h; first | rfl | exact flat0 h | exact absurd h (by decide)))); done)); rfl; rfl) | exact hA) | (apply XOp.call; rfl; first | (apply ACall.pure (hB); (first | rfl | (focus (simp only [AV.lims, AV.lim, lims_encB, Bool.and_self]; (try rfl); done)))) | (apply ACall.borrow (hB); (focus ((repeat (first | exact Views.nil | (apply Views.same; (first | rfl | (focus (simp only [AV.lims, AV.lim, lims_append, lims_encF, lims_encS, lims_encI, lims_encB, Bool.and_self, Bool.and_true, Bool.true_and]; (try rfl); done)))) | apply Views.cons | (apply View.same; (first | rfl | (focus (simp only [AV.lims, AV.lim, lims_append, lims_encF, lims_encS, lims_encI, lims_encB, Bool.and_self, Bool.and_true, Bool.true_and]; (try rfl); done)))) | (apply View.whole; rfl) | (apply View.wholeP; rfl) | apply View.agg | (intro h; first | rfl | exact flat0 h | exact absurd h (by decide)))); done)); rfl; rfl) | exact hB) | (apply XOp.call; rfl; apply ACall.pure (r1); (first | rfl | (focus (simp only [AV.lims, AV.lim, lims_append, lims_encF, lims_encS, lims_encI, lims_encB, Bool.and_self, Bool.and_true, Bool.true_and]; (try rfl); done)))) | (apply XOp.call; rfl; apply ACall.pure (r2); (first | rfl | (focus (simp only [AV.lims, AV.lim, lims_append, lims_encF, lims_encS, lims_encI, lims_encB, Bool.and_self, Bool.and_true, Bool.true_and]; (try rfl); done)))) | (apply XOp.call; rfl; apply ACall.pure (e1); (first | rfl | (focus (simp only [AV.lims, AV.lim, lims_append, lims_encF, lims_encS, lims_encI, lims_encB, Bool.and_self, Bool.and_true, Bool.true_and]; (try rfl); done)))) | (apply XOp.call; rfl; apply ACall.pure (e2); (first | rfl | (focus (simp only [AV.lims, AV.lim, lims_append, lims_encF, lims_encS, lims_encI, lims_encB, Bool.and_self, Bool.and_true, Bool.true_and]; (try rfl); done)))) | (apply XOp.call; rfl; apply ACall.pure (e3); (first | rfl | (focus (simp only [AV.lims, AV.lim, lims_append, lims_encF, lims_encS, lims_encI, lims_encB, Bool.and_self, Bool.and_true, Bool.true_and]; (try rfl); done)))) | (apply XOp.alloc T; rfl; (simp only [List.length_cons, List.length_nil, Nat.zero_add, Nat.reduceAdd] <;> rfl); rfl) | (apply XOp.store T; rfl; rfl; rfl) | (apply XOp.storeF T; rfl; rfl; rfl; rfl; rfl; rfl; (first | omega | (simp only [List.length_set]; omega)); rfl)); rfl; rfl; rfl)
    | (apply Wops.consN; (first | (apply XOp.alloc T; rfl; (simp only [List.length_cons, List.length_nil, Nat.zero_add, Nat.add_zero, Nat.reduceAdd, Nat.reduceMul] <;> rfl); rfl) | (apply XOp.store T; rfl; rfl; rfl) | (apply XOp.storeF T; rfl; rfl; rfl; rfl; rfl; rfl; (first | omega | (simp only [List.length_set]; omega)); rfl)); rfl; rfl)
    | (apply Wops.skip; rfl; rfl; rfl)
    | (apply Wops.gs; rfl; (intro h; try rw [h]; try replace h := of_decide_eq_true h); rotate_left; (intro h; try rw [h]; try replace h := of_decide_eq_false h); rotate_left)
    | (apply W.condP; rfl; intro h; rotate_left; intro h; rotate_left)
    | (apply W.cond; rfl; intro h; rotate_left; intro h; rotate_left)
    | (exfalso; omega)
    | (apply RetQ.pure (Or.inr rfl); rfl; (first | rfl | (focus (simp [AV.lim, AV.lims]; done))); (first | exact Sub.refl _ | (refine Sub.bool ?_; first | rfl | (focus (simp [*]; done)) | skip) | (refine Sub.int ?_; first | rfl | skip) | (refine Sub.flt ?_; first | rfl | skip) | skip))
    | (apply RetQ.cutE (Or.inr rfl); rfl; rfl; (first | rfl | (focus (simp only [AV.lims, AV.lim, lims_append, lims_encF, lims_encS, lims_encI, lims_encB, Bool.and_self, Bool.and_true, Bool.true_and]; (try rfl); done))); (first | rfl | (focus (simp only [hlims, AV.lims, AV.lim, lims_append, lims_encF, lims_encS, lims_encI, lims_encB, Bool.and_self, Bool.and_true, Bool.true_and]; (try rfl); done)) | (focus (simp [hlims, AV.lims, AV.lim, lims_append, lims_encF, lims_encS, lims_encI, lims_encB, Bool.and_self, Bool.and_true, Bool.true_and]; done))); (first | exact Sub.refl _ | (refine Sub.bool ?_; first | rfl | (focus (simp [*]; done)) | skip) | (refine Sub.int ?_; first | rfl | skip) | (refine Sub.flt ?_; first | rfl | skip) | skip); (first | rfl | skip)))
        all_goals first
          | exact Bool.noConfusion (h.symm.trans y6)
          | (simp at h; done)
      · rw [if_neg hz0] at c3
        repeat' (first
    | refine W.seq ?_
    | refine W.block ?_
    | refine W.region ?_
    | refine Wops.nilS ?_
    | (refine Wops.nil ?_; dsimp only [thenP, inBlockP])
    | (refine W.ret ?_; try dsimp only [thenP, inBlockP])
    | (refine W.exit ?_; try dsimp only [thenP, inBlockP, cond, Nat.beq])
    | (refine W.skip ?_; try dsimp only [thenP, inBlockP])
    | (apply W.condT; rfl)
    | (apply W.condF; rfl)
    | (apply Wops.cons; (first | (apply XOp.assign; rfl) | (apply XOp.move; rfl) | (apply XOp.lenL T; rfl; rfl; rfl) | (apply XOp.lenO T; rfl; rfl; rfl) | (apply XOp.lenS T; rfl; rfl; rfl) | (apply XOp.lenE T; rfl; rfl; rfl) | (apply XOp.lenNil T; rfl; rfl; rfl) | (apply XOp.cmp; rfl; rfl; rfl) | (apply XOp.sidx T; rfl; rfl; rfl; rfl; (first | omega | (simp only [Option.getD_some, Option.getD_none] at *; omega) | decide); first | rfl | assumption) | (apply XOp.arithI; rfl; rfl; rfl; (first | (simp only [IntKind.InR]; omega) | (simp only [IntKind.InR]; decide))) | (apply XOp.arith; rfl; rfl; rfl) | (apply XOp.cat; rfl; rfl; (first | omega | (simp only [List.length_append, List.length_cons, List.length_nil]; omega)); rfl) | (apply XOp.extract; rfl; rfl) | (apply XOp.pick; rfl; rfl) | (apply XOp.cvtII T; rfl; rfl; rfl; rfl; first | (apply wrap_in; (first | (simp only [IntKind.InR]; omega) | (simp only [IntKind.InR]; decide))) | rfl) | (apply XOp.shl; rfl; rfl; (first | omega | (simp only [Option.getD_some, Option.getD_none] at *; omega) | decide); (first | assumption | rfl)) | (apply XOp.cvtIF T; rfl; rfl; rfl; rfl) | (apply XOp.farith; rfl; rfl; rfl) | (apply XOp.fneg; rfl) | (apply XOp.fcmp; rfl; rfl; rfl) | (apply XOp.call; rfl; apply ACall.pure (c1); (first | rfl | (focus (simp only [AV.lims, AV.lim, lims_append, lims_encF, lims_encS, lims_encI, lims_encB, Bool.and_self, Bool.and_true, Bool.true_and]; (try rfl); done)))) | (apply XOp.call; rfl; apply ACall.pure (c2); (first | rfl | (focus (simp only [AV.lims, AV.lim, lims_append, lims_encF, lims_encS, lims_encI, lims_encB, Bool.and_self, Bool.and_true, Bool.true_and]; (try rfl); done)))) | (apply XOp.call; rfl; apply ACall.pure (c3); (first | rfl | (focus (simp only [AV.lims, AV.lim, lims_append, lims_encF, lims_encS, lims_encI, lims_encB, Bool.and_self, Bool.and_true, Bool.true_and]; (try rfl); done)))) | (apply XOp.call; rfl; first | (apply ACall.pure (hA); (first | rfl | (focus (simp only [AV.lims, AV.lim, lims_encB, Bool.and_self]; (try rfl); done)))) | (apply ACall.borrow (hA); (focus ((repeat (first | exact Views.nil | (apply Views.same; (first | rfl | (focus (simp only [AV.lims, AV.lim, lims_append, lims_encF, lims_encS, lims_encI, lims_encB, Bool.and_self, Bool.and_true, Bool.true_and]; (try rfl); done)))) | apply Views.cons | (apply View.same; (first | rfl | (focus (simp only [AV.lim, lims_encB]; (try rfl); done)))) | (apply View.whole; rfl) | (apply View.wholeP; rfl) | apply View.agg | (intro h; first | rfl | exact flat0 h | exact absurd h (by decide)))); done)); rfl; rfl) | exact hA) | (apply XOp.call; rfl; first | (apply ACall.pure (hB); (first | rfl | (focus (simp only [AV.lims, AV.lim, lims_encB, Bool.and_self]; (try rfl); done)))) | (apply ACall.borrow (hB); (focus ((repeat (first | exact Views.nil | (apply Views.same; (first | rfl | (focus (simp only [AV.lims, AV.lim, lims_append, lims_encF, lims_encS, lims_encI, lims_encB, Bool.and_self, Bool.and_true, Bool.true_and]; (try rfl); done)))) | apply Views.cons | (apply View.same; (first | rfl | (focus (simp only [AV.lims, AV.lim, lims_append, lims_encF, lims_encS, lims_encI, lims_encB, Bool.and_self, Bool.and_true, Bool.true_and]; (try rfl); done)))) | (apply View.whole; rfl) | (apply View.wholeP; rfl) | apply View.agg | (intro h; first | rfl | exact flat0 h | exact absurd h (by decide)))); done)); rfl; rfl) | exact hB) | (apply XOp.call; rfl; apply ACall.pure (r1); (first | rfl | (focus (simp only [AV.lims, AV.lim, lims_append, lims_encF, lims_encS, lims_encI, lims_encB, Bool.and_self, Bool.and_true, Bool.true_and]; (try rfl); done)))) | (apply XOp.call; rfl; apply ACall.pure (r2); (first | rfl | (focus (simp only [AV.lims, AV.lim, lims_append, lims_encF, lims_encS, lims_encI, lims_encB, Bool.and_self, Bool.and_true, Bool.true_and]; (try rfl); done)))) | (apply XOp.call; rfl; apply ACall.pure (e1); (first | rfl | (focus (simp only [AV.lims, AV.lim, lims_append, lims_encF, lims_encS, lims_encI, lims_encB, Bool.and_self, Bool.and_true, Bool.true_and]; (try rfl); done)))) | (apply XOp.call; rfl; apply ACall.pure (e2); (first | rfl | (focus (simp only [AV.lims, AV.lim, lims_append, lims_encF, lims_encS, lims_encI, lims_encB, Bool.and_self, Bool.and_true, Bool.true_and]; (try rfl); done)))) | (apply XOp.call; rfl; apply ACall.pure (e3); (first | rfl | (focus (simp only [AV.lims, AV.lim, lims_append, lims_encF, lims_encS, lims_encI, lims_encB, Bool.and_self, Bool.and_true, Bool.true_and]; (try rfl); done)))) | (apply XOp.alloc T; rfl; (simp only [List.length_cons, List.length_nil, Nat.zero_add, Nat.reduceAdd] <;> rfl); rfl) | (apply XOp.store T; rfl; rfl; rfl) | (apply XOp.storeF T; rfl; rfl; rfl; rfl; rfl; rfl; (first | omega | (simp only [List.length_set]; omega)); rfl)); rfl; rfl; rfl)
    | (apply Wops.consN; (first | (apply XOp.alloc T; rfl; (simp only [List.length_cons, List.length_nil, Nat.zero_add, Nat.add_zero, Nat.reduceAdd, Nat.reduceMul] <;> rfl); rfl) | (apply XOp.store T; rfl; rfl; rfl) | (apply XOp.storeF T; rfl; rfl; rfl; rfl; rfl; rfl; (first | omega | (simp only [List.length_set]; omega)); rfl)); rfl; rfl)
    | (apply Wops.skip; rfl; rfl; rfl)
    | (apply Wops.gs; rfl; (intro h; try rw [h]; try replace h := of_decide_eq_true h); rotate_left; (intro h; try rw [h]; try replace h := of_decide_eq_false h); rotate_left)
    | (apply W.condP; rfl; intro h; rotate_left; intro h; rotate_left)
    | (apply W.cond; rfl; intro h; rotate_left; intro h; rotate_left)
    | (exfalso; omega)
    | (apply RetQ.pure (Or.inr rfl); rfl; (first | rfl | (focus (simp [AV.lim, AV.lims]; done))); (first | exact Sub.refl _ | (refine Sub.bool ?_; first | rfl | (focus (simp [*]; done)) | skip) | (refine Sub.int ?_; first | rfl | skip) | (refine Sub.flt ?_; first | rfl | skip) | skip))
    | (apply RetQ.cutE (Or.inr rfl); rfl; rfl; (first | rfl | (focus (simp only [AV.lims, AV.lim, lims_append, lims_encF, lims_encS, lims_encI, lims_encB, Bool.and_self, Bool.and_true, Bool.true_and]; (try rfl); done))); (first | rfl | (focus (simp only [hlims, AV.lims, AV.lim, lims_append, lims_encF, lims_encS, lims_encI, lims_encB, Bool.and_self, Bool.and_true, Bool.true_and]; (try rfl); done)) | (focus (simp [hlims, AV.lims, AV.lim, lims_append, lims_encF, lims_encS, lims_encI, lims_encB, Bool.and_self, Bool.and_true, Bool.true_and]; done))); (first | exact Sub.refl _ | (refine Sub.bool ?_; first | rfl | (focus (simp [*]; done)) | skip) | (refine Sub.int ?_; first | rfl | skip) | (refine Sub.flt ?_; first | rfl | skip) | skip); (first | rfl | skip)))
        all_goals first
          | exact Bool.noConfusion (h.symm.trans y6)
          | (simp at h; done)
end Go.Ax
