/-
  Names in lists; the shapes that a composition takes.
-/
import Derived.Test.YtomidnkcohkhfaaGreatDoorD5
import Derived.Test.YtomidnkcohkhfaaGreatDoorK13
namespace Go.Ax
open Go.Proofs
variable {G : Mem}
abbrev insC (nm : List UInt8) (kind : Int) (a b c : Nat) : List AV := [.s (str nm), .i kind, .f a, .f b, .f c]
theorem nameIn1_ac (nm name : List UInt8) (kind : Int) (a b c : Nat) : ACall Tryz.prog G 199 [.agg (insC nm kind a b c), .ptr 0 0] [some ⟨[.s (str name)], false⟩] (.b (decide (str nm = str name))) [some ⟨[.s (str name)], false⟩] := by
  refine ACall.intro T Tryz.func199 (by kernel_rfl) rfl rfl rfl rfl ?_
  repeat' (first
    | refine W.seq ?_
    | refine W.region ?_
    | refine Wops.nilS ?_
    | (refine Wops.nil ?_; dsimp only [thenP, inBlockP])
    | (refine W.ret ?_; try dsimp only [thenP, inBlockP])
    | (refine W.skip ?_; try dsimp only [thenP, inBlockP])
    | (apply Wops.cons; (first | (apply XOp.assign; rfl) | (apply XOp.fieldP T; rfl; rfl; (simp only [Nat.add_zero] <;> rfl)) | (apply XOp.fieldF T; rfl; rfl; rfl) | (apply XOp.load T; rfl; rfl) | (apply XOp.loadF T; rfl; rfl; rfl; rfl; rfl; (first | omega | (simp only [List.length_set]; omega))) | (apply XOp.scmp; rfl; rfl; rfl) | (apply XOp.box T; rfl; rfl; rfl; (simp only [List.length_cons, List.length_nil, Nat.zero_add] <;> rfl); rfl)); rfl; rfl; rfl)
    | (exfalso; omega)
    | (apply RetQ.pure (Or.inr rfl); rfl; (first | rfl | (focus (simp [AV.lim, AV.lims]; done))); (first | exact Sub.refl _ | (refine Sub.bool ?_; first | rfl | (focus (simp [*]; done)) | skip) | (refine Sub.int ?_; first | rfl | skip) | (refine Sub.flt ?_; first | rfl | skip) | skip))
    | (apply RetQ.cutE (Or.inr rfl); rfl; rfl; (first | rfl | (focus (simp only [AV.lims, AV.lim, lims_append, lims_encF, lims_encS, lims_encI, lims_encB, Bool.and_self, Bool.and_true, Bool.true_and, lims_encE]; (try rfl); done))); (first | rfl | (focus (simp only [hlims, AV.lims, AV.lim, lims_append, lims_encF, lims_encS, lims_encI, lims_encB, Bool.and_self, Bool.and_true, Bool.true_and, lims_encE]; (try rfl); done)) | (focus (simp [hlims, AV.lims, AV.lim, lims_append, lims_encF, lims_encS, lims_encI, lims_encB, Bool.and_self, Bool.and_true, Bool.true_and, lims_encE]; done))); (first | exact Sub.refl _ | (refine Sub.bool ?_; first | rfl | (focus (simp [*]; done)) | skip) | (refine Sub.int ?_; first | rfl | skip) | (refine Sub.flt ?_; first | rfl | skip) | skip); (first | rfl | skip)))
theorem IndexFunc_0 (name : List UInt8) : ACall Tryz.prog G 198 [.nl, .fn 199 [.ptr 0 0]] [some ⟨[.s (str name)], false⟩] (.i (-1)) [some ⟨[.s (str name)], false⟩] := by
  refine ACall.intro T Tryz.func198 (by kernel_rfl) rfl rfl rfl rfl ?_
  repeat' (first
    | refine W.seq ?_
    | refine W.block ?_
    | refine W.rounds 2 ?_
    | refine RW.step ?_
    | refine W.region ?_
    | refine Wops.nilS ?_
    | (refine Wops.nil ?_; dsimp only [thenP, inBlockP])
    | (refine W.ret ?_; try dsimp only [thenP, inBlockP])
    | (refine W.exit ?_; try dsimp only [thenP, inBlockP, cond, Nat.beq])
    | (refine W.skip ?_; try dsimp only [thenP, inBlockP])
    | (apply W.condT; rfl)
    | (apply W.condF; rfl)
    | (apply Wops.cons; (first | (apply XOp.assign; rfl) | (apply XOp.move; rfl) | (apply XOp.lenL T; rfl; rfl; rfl) | (apply XOp.lenO T; rfl; rfl; rfl) | (apply XOp.lenS T; rfl; rfl; rfl) | (apply XOp.lenE T; rfl; rfl; rfl) | (apply XOp.lenNil T; rfl; rfl; rfl) | (apply XOp.cmp; rfl; rfl; rfl) | (apply XOp.idxC T; rfl; rfl; rfl; rfl; rfl; rfl; (first | omega | (simp only [Option.getD_some, Option.getD_none] at *; omega) | decide); (first | omega | (simp only [Option.getD_some, Option.getD_none] at *; omega) | decide)) | (apply XOp.idxB T; rfl; rfl; rfl; rfl; rfl; rfl; rfl; (first | omega | (simp only [Option.getD_some, Option.getD_none] at *; omega) | decide); (first | omega | (simp only [Option.getD_some, Option.getD_none] at *; omega) | decide)) | (apply XOp.idxF T; rfl; rfl; rfl; rfl; rfl; rfl; rfl; (first | omega | (simp only [Option.getD_some, Option.getD_none] at *; omega) | decide); (first | omega | (simp only [Option.getD_some, Option.getD_none] at *; omega) | decide)) | (apply XOp.idxS T; rfl; rfl; rfl; rfl; rfl; rfl; rfl; (first | omega | (simp only [Option.getD_some, Option.getD_none] at *; omega) | decide); (first | omega | (simp only [Option.getD_some, Option.getD_none] at *; omega) | decide)) | (apply XOp.idxI T; rfl; rfl; rfl; rfl; rfl; rfl; rfl; (first | omega | (simp only [Option.getD_some, Option.getD_none] at *; omega) | decide); (first | omega | (simp only [Option.getD_some, Option.getD_none] at *; omega) | decide)) | (apply XOp.idxO1 T; rfl; rfl; rfl; rfl; rfl; rfl; (first | omega | (simp only [Option.getD_some, Option.getD_none] at *; omega) | decide); (first | omega | (simp only [Option.getD_some, Option.getD_none] at *; omega) | decide)) | (apply XOp.idxO T; rfl; rfl; rfl; rfl; rfl; (first | omega | (simp only [Option.getD_some, Option.getD_none] at *; omega) | decide); (first | omega | (simp only [Option.getD_some, Option.getD_none] at *; omega) | decide); rfl) | (apply XOp.load T; rfl; rfl) | (apply XOp.loadF T; rfl; rfl; rfl; rfl; rfl; (first | omega | (simp only [List.length_set]; omega))) | (apply XOp.arithI; rfl; rfl; rfl; (first | (simp only [IntKind.InR]; omega) | (simp only [IntKind.InR]; decide))) | (apply XOp.arith; rfl; rfl; rfl)); rfl; rfl; rfl)
    | (apply W.condP; rfl; intro h; rotate_left; intro h; rotate_left)
    | (apply W.cond; rfl; intro h; rotate_left; intro h; rotate_left)
    | (exfalso; omega)
    | (apply RetQ.pure (Or.inr rfl); rfl; (first | rfl | (focus (simp [AV.lim, AV.lims]; done))); (first | exact Sub.refl _ | (refine Sub.bool ?_; first | rfl | (focus (simp [*]; done)) | skip) | (refine Sub.int ?_; first | rfl | skip) | (refine Sub.flt ?_; first | rfl | skip) | skip))
    | (apply RetQ.cutE (Or.inr rfl); rfl; rfl; (first | rfl | (focus (simp only [AV.lims, AV.lim, lims_append, lims_encF, lims_encS, lims_encI, lims_encB, Bool.and_self, Bool.and_true, Bool.true_and, lims_encE]; (try rfl); done))); (first | rfl | (focus (simp only [hlims, AV.lims, AV.lim, lims_append, lims_encF, lims_encS, lims_encI, lims_encB, Bool.and_self, Bool.and_true, Bool.true_and, lims_encE]; (try rfl); done)) | (focus (simp [hlims, AV.lims, AV.lim, lims_append, lims_encF, lims_encS, lims_encI, lims_encB, Bool.and_self, Bool.and_true, Bool.true_and, lims_encE]; done))); (first | exact Sub.refl _ | (refine Sub.bool ?_; first | rfl | (focus (simp [*]; done)) | skip) | (refine Sub.int ?_; first | rfl | skip) | (refine Sub.flt ?_; first | rfl | skip) | skip); (first | rfl | skip)))
theorem IndexFunc_1 (nm name : List UInt8) (kind : Int) (a b c : Nat) : ACall Tryz.prog G 198 [.lst 1 (insC nm kind a b c), .fn 199 [.ptr 0 0]] [some ⟨[.s (str name)], false⟩] (.i (bif decide (str nm = str name) then 0 else -1)) [some ⟨[.s (str name)], false⟩] := by
  refine ACall.intro T Tryz.func198 (by kernel_rfl) rfl rfl rfl rfl ?_
  repeat' (first
    | refine W.seq ?_
    | refine W.block ?_
    | refine W.rounds 2 ?_
    | refine RW.step ?_
    | refine W.region ?_
    | refine Wops.nilS ?_
    | (refine Wops.nil ?_; dsimp only [thenP, inBlockP])
    | (refine W.ret ?_; try dsimp only [thenP, inBlockP])
    | (refine W.exit ?_; try dsimp only [thenP, inBlockP, cond, Nat.beq])
    | (refine W.skip ?_; try dsimp only [thenP, inBlockP])
    | (apply W.condT; rfl)
    | (apply W.condF; rfl)
    | (apply Wops.cons; (first | (apply XOp.assign; rfl) | (apply XOp.move; rfl) | (apply XOp.lenL T; rfl; rfl; rfl) | (apply XOp.lenO T; rfl; rfl; rfl) | (apply XOp.lenS T; rfl; rfl; rfl) | (apply XOp.lenE T; rfl; rfl; rfl) | (apply XOp.lenNil T; rfl; rfl; rfl) | (apply XOp.cmp; rfl; rfl; rfl) | (apply XOp.idxC T; rfl; rfl; rfl; rfl; rfl; rfl; (first | omega | (simp only [Option.getD_some, Option.getD_none] at *; omega) | decide); (first | omega | (simp only [Option.getD_some, Option.getD_none] at *; omega) | decide)) | (apply XOp.idxB T; rfl; rfl; rfl; rfl; rfl; rfl; rfl; (first | omega | (simp only [Option.getD_some, Option.getD_none] at *; omega) | decide); (first | omega | (simp only [Option.getD_some, Option.getD_none] at *; omega) | decide)) | (apply XOp.idxF T; rfl; rfl; rfl; rfl; rfl; rfl; rfl; (first | omega | (simp only [Option.getD_some, Option.getD_none] at *; omega) | decide); (first | omega | (simp only [Option.getD_some, Option.getD_none] at *; omega) | decide)) | (apply XOp.idxS T; rfl; rfl; rfl; rfl; rfl; rfl; rfl; (first | omega | (simp only [Option.getD_some, Option.getD_none] at *; omega) | decide); (first | omega | (simp only [Option.getD_some, Option.getD_none] at *; omega) | decide)) | (apply XOp.idxI T; rfl; rfl; rfl; rfl; rfl; rfl; rfl; (first | omega | (simp only [Option.getD_some, Option.getD_none] at *; omega) | decide); (first | omega | (simp only [Option.getD_some, Option.getD_none] at *; omega) | decide)) | (apply XOp.idxO1 T; rfl; rfl; rfl; rfl; rfl; rfl; (first | omega | (simp only [Option.getD_some, Option.getD_none] at *; omega) | decide); (first | omega | (simp only [Option.getD_some, Option.getD_none] at *; omega) | decide)) | (apply XOp.idxO T; rfl; rfl; rfl; rfl; rfl; (first | omega | (simp only [Option.getD_some, Option.getD_none] at *; omega) | decide); (first | omega | (simp only [Option.getD_some, Option.getD_none] at *; omega) | decide); rfl) | (apply XOp.load T; rfl; rfl) | (apply XOp.loadF T; rfl; rfl; rfl; rfl; rfl; (first | omega | (simp only [List.length_set]; omega))) | (apply XOp.arithI; rfl; rfl; rfl; (first | (simp only [IntKind.InR]; omega) | (simp only [IntKind.InR]; decide))) | (apply XOp.arith; rfl; rfl; rfl) | (apply XOp.call; rfl; exact nameIn1_ac nm name kind a b c) | (apply XOp.callC; rfl; rfl; rfl; exact nameIn1_ac nm name kind a b c)); rfl; rfl; rfl)
    | (apply W.condP; rfl; intro h; rotate_left; intro h; rotate_left)
    | (apply W.cond; rfl; intro h; rotate_left; intro h; rotate_left)
    | (exfalso; omega)
    | (apply RetQ.pure (Or.inr rfl); rfl; (first | rfl | (focus (simp [AV.lim, AV.lims]; done))); (first | exact Sub.refl _ | (refine Sub.bool ?_; first | rfl | (focus (simp [*]; done)) | skip) | (refine Sub.int ?_; first | rfl | skip) | (refine Sub.flt ?_; first | rfl | skip) | skip))
    | (apply RetQ.cutE (Or.inr rfl); rfl; rfl; (first | rfl | (focus (simp only [AV.lims, AV.lim, lims_append, lims_encF, lims_encS, lims_encI, lims_encB, Bool.and_self, Bool.and_true, Bool.true_and, lims_encE]; (try rfl); done))); (first | rfl | (focus (simp only [hlims, AV.lims, AV.lim, lims_append, lims_encF, lims_encS, lims_encI, lims_encB, Bool.and_self, Bool.and_true, Bool.true_and, lims_encE]; (try rfl); done)) | (focus (simp [hlims, AV.lims, AV.lim, lims_append, lims_encF, lims_encS, lims_encI, lims_encB, Bool.and_self, Bool.and_true, Bool.true_and, lims_encE]; done))); (first | exact Sub.refl _ | (refine Sub.bool ?_; first | rfl | (focus (simp [*]; done)) | skip) | (refine Sub.int ?_; first | rfl | skip) | (refine Sub.flt ?_; first | rfl | skip) | skip); (first | rfl | skip)))
  all_goals first | rfl | (rw [decide_eq_true h]; rfl) | (rw [decide_eq_false h])
theorem nameIn_0 (name : List UInt8) : ACall Tryz.prog G 157 [.nl, .s (str name)] [] (.i (-1)) [] := by
  refine ACall.intro T Tryz.func157 (by kernel_rfl) rfl rfl rfl rfl ?_
  repeat' (first
    | refine W.seq ?_
    | refine W.region ?_
    | refine Wops.nilS ?_
    | (refine Wops.nil ?_; dsimp only [thenP, inBlockP])
    | (refine W.ret ?_; try dsimp only [thenP, inBlockP])
    | (refine W.skip ?_; try dsimp only [thenP, inBlockP])
    | (apply Wops.cons; (first | (apply XOp.assign; rfl) | (apply XOp.move; rfl) | (apply XOp.makeFunc; rfl) | (apply XOp.box T; rfl; rfl; rfl; (simp only [List.length_nil] <;> rfl); rfl) | (apply XOp.call; rfl; exact IndexFunc_0 name)); rfl; rfl; rfl)
    | (exfalso; omega)
    | (apply RetQ.pure (Or.inr rfl); rfl; (first | rfl | (focus (simp [AV.lim, AV.lims]; done))); (first | exact Sub.refl _ | (refine Sub.bool ?_; first | rfl | (focus (simp [*]; done)) | skip) | (refine Sub.int ?_; first | rfl | skip) | (refine Sub.flt ?_; first | rfl | skip) | skip))
    | (apply RetQ.cutE (Or.inr rfl); rfl; rfl; (first | rfl | (focus (simp only [AV.lims, AV.lim, lims_append, lims_encF, lims_encS, lims_encI, lims_encB, Bool.and_self, Bool.and_true, Bool.true_and, lims_encE]; (try rfl); done))); (first | rfl | (focus (simp only [hlims, AV.lims, AV.lim, lims_append, lims_encF, lims_encS, lims_encI, lims_encB, Bool.and_self, Bool.and_true, Bool.true_and, lims_encE]; (try rfl); done)) | (focus (simp [hlims, AV.lims, AV.lim, lims_append, lims_encF, lims_encS, lims_encI, lims_encB, Bool.and_self, Bool.and_true, Bool.true_and, lims_encE]; done))); (first | exact Sub.refl _ | (refine Sub.bool ?_; first | rfl | (focus (simp [*]; done)) | skip) | (refine Sub.int ?_; first | rfl | skip) | (refine Sub.flt ?_; first | rfl | skip) | skip); (first | rfl | skip)))
theorem nameIn_1 (nm name : List UInt8) (kind : Int) (a b c : Nat) : ACall Tryz.prog G 157 [.lst 1 (insC nm kind a b c), .s (str name)] [] (.i (bif decide (str nm = str name) then 0 else -1)) [] := by
  refine ACall.intro T Tryz.func157 (by kernel_rfl) rfl rfl rfl rfl ?_
  repeat' (first
    | refine W.seq ?_
    | refine W.region ?_
    | refine Wops.nilS ?_
    | (refine Wops.nil ?_; dsimp only [thenP, inBlockP])
    | (refine W.ret ?_; try dsimp only [thenP, inBlockP])
    | (refine W.skip ?_; try dsimp only [thenP, inBlockP])
    | (apply Wops.cons; (first | (apply XOp.assign; rfl) | (apply XOp.move; rfl) | (apply XOp.makeFunc; rfl) | (apply XOp.box T; rfl; rfl; rfl; (simp only [List.length_nil] <;> rfl); rfl) | (apply XOp.call; rfl; exact IndexFunc_1 nm name kind a b c)); rfl; rfl; rfl)
    | (exfalso; omega)
    | (apply RetQ.pure (Or.inr rfl); rfl; (first | rfl | (focus (simp [AV.lim, AV.lims]; done))); (first | exact Sub.refl _ | (refine Sub.bool ?_; first | rfl | (focus (simp [*]; done)) | skip) | (refine Sub.int ?_; first | rfl | skip) | (refine Sub.flt ?_; first | rfl | skip) | skip))
    | (apply RetQ.cutE (Or.inr rfl); rfl; rfl; (first | rfl | (focus (simp only [AV.lims, AV.lim, lims_append, lims_encF, lims_encS, lims_encI, lims_encB, Bool.and_self, Bool.and_true, Bool.true_and, lims_encE]; (try rfl); done))); (first | rfl | (focus (simp only [hlims, AV.lims, AV.lim, lims_append, lims_encF, lims_encS, lims_encI, lims_encB, Bool.and_self, Bool.and_true, Bool.true_and, lims_encE]; (try rfl); done)) | (focus (simp [hlims, AV.lims, AV.lim, lims_append, lims_encF, lims_encS, lims_encI, lims_encB, Bool.and_self, Bool.and_true, Bool.true_and, lims_encE]; done))); (first | exact Sub.refl _ | (refine Sub.bool ?_; first | rfl | (focus (simp [*]; done)) | skip) | (refine Sub.int ?_; first | rfl | skip) | (refine Sub.flt ?_; first | rfl | skip) | skip); (first | rfl | skip)))
abbrev compC (r b o : Nat) (degs : List Nat) (ia ea : AV) (time : Int) (la : AV) (line : Int) : List AV := [.f r, .f b, .f o, .fs degs, ia, ea, .i time, la, .i line]
structure Ev where
  at_ : Int
  kind : Int
  note : Int
  inst : Int
  key : Int
  force : Nat
def encE (e : Ev) : List AV := [.i e.at_, .i e.kind, .i e.note, .i e.inst, .i e.key, .f e.force]
theorem lims_encE {m : Nat} (xs : List Ev) : AV.lims m (xs.flatMap encE) = true := lims_flat (fun _ => rfl) xs
theorem len_encE (xs : List Ev) : (xs.flatMap encE).length = xs.length * 6 := by
  induction xs with
  | nil => rfl
  | cons x xs ih => simp only [List.flatMap_cons, List.length_append, ih, List.length_cons, encE, List.length_nil]; omega


/-- The compiler's memory: nothing yet; an instrument; events; a loop. -/
abbrev hp0 (r b o : Nat) (degs : List Nat) (time line : Int) : Heap := [some ⟨compC r b o degs .nl .nl time .nl line, false⟩]
abbrev hp1 (r b o : Nat) (degs : List Nat) (time line : Int) (I : List AV) : Heap := [some ⟨compC r b o degs (.slc 1 0 1 5) .nl time .nl line, false⟩, some ⟨I, true⟩]
abbrev hp2 (r b o : Nat) (degs : List Nat) (time line : Int) (I : List AV) (evs : List Ev) : Heap := [some ⟨compC r b o degs (.slc 1 0 1 5) (.slc 2 0 evs.length 6) time .nl line, false⟩, some ⟨I, true⟩, some ⟨evs.flatMap encE, true⟩]
abbrev hq1 (r b o : Nat) (degs : List Nat) (time line : Int) (I L : List AV) : Heap := [some ⟨compC r b o degs (.slc 1 0 1 5) .nl time (.slc 2 0 1 2) line, false⟩, some ⟨I, true⟩, some ⟨L, true⟩]
abbrev hq2 (r b o : Nat) (degs : List Nat) (time line : Int) (I L : List AV) (evs : List Ev) : Heap := [some ⟨compC r b o degs (.slc 1 0 1 5) (.slc 3 0 evs.length 6) time (.slc 2 0 1 2) line, false⟩, some ⟨I, true⟩, some ⟨L, true⟩, some ⟨evs.flatMap encE, true⟩]
theorem lenE_nil : ACall Tryz.prog G 194 [.nl] [] (.i 0) [] := by
  refine ACall.intro T Tryz.func194 (by kernel_rfl) rfl rfl rfl rfl ?_
  repeat' (first
    | refine W.seq ?_
    | refine W.region ?_
    | refine Wops.nilS ?_
    | (refine Wops.nil ?_; dsimp only [thenP, inBlockP])
    | (refine W.ret ?_; try dsimp only [thenP, inBlockP])
    | (refine W.skip ?_; try dsimp only [thenP, inBlockP])
    | (apply Wops.cons; (first | (apply XOp.assign; rfl) | (apply XOp.move; rfl) | (apply XOp.lenL T; rfl; rfl; rfl) | (apply XOp.lenO T; rfl; rfl; rfl) | (apply XOp.lenS T; rfl; rfl; rfl) | (apply XOp.lenE T; rfl; rfl; rfl) | (apply XOp.lenNil T; rfl; rfl; rfl)); rfl; rfl; rfl)
    | (exfalso; omega)
    | (apply RetQ.pure (Or.inr rfl); rfl; (first | rfl | (focus (simp [AV.lim, AV.lims]; done))); (first | exact Sub.refl _ | (refine Sub.bool ?_; first | rfl | (focus (simp [*]; done)) | skip) | (refine Sub.int ?_; first | rfl | skip) | (refine Sub.flt ?_; first | rfl | skip) | skip))
    | (apply RetQ.cutE (Or.inr rfl); rfl; rfl; (first | rfl | (focus (simp only [AV.lims, AV.lim, lims_append, lims_encF, lims_encS, lims_encI, lims_encB, Bool.and_self, Bool.and_true, Bool.true_and, lims_encE]; (try rfl); done))); (first | rfl | (focus (simp only [hlims, AV.lims, AV.lim, lims_append, lims_encF, lims_encS, lims_encI, lims_encB, Bool.and_self, Bool.and_true, Bool.true_and, lims_encE]; (try rfl); done)) | (focus (simp [hlims, AV.lims, AV.lim, lims_append, lims_encF, lims_encS, lims_encI, lims_encB, Bool.and_self, Bool.and_true, Bool.true_and, lims_encE]; done))); (first | exact Sub.refl _ | (refine Sub.bool ?_; first | rfl | (focus (simp [*]; done)) | skip) | (refine Sub.int ?_; first | rfl | skip) | (refine Sub.flt ?_; first | rfl | skip) | skip); (first | rfl | skip)))
theorem lenE_lst (n : Nat) (cs : List AV) : ACall Tryz.prog G 194 [.lst n cs] [] (.i n) [] := by
  refine ACall.intro T Tryz.func194 (by kernel_rfl) rfl rfl rfl rfl ?_
  repeat' (first
    | refine W.seq ?_
    | refine W.region ?_
    | refine Wops.nilS ?_
    | (refine Wops.nil ?_; dsimp only [thenP, inBlockP])
    | (refine W.ret ?_; try dsimp only [thenP, inBlockP])
    | (refine W.skip ?_; try dsimp only [thenP, inBlockP])
    | (apply Wops.cons; (first | (apply XOp.assign; rfl) | (apply XOp.move; rfl) | (apply XOp.lenL T; rfl; rfl; rfl) | (apply XOp.lenO T; rfl; rfl; rfl) | (apply XOp.lenS T; rfl; rfl; rfl) | (apply XOp.lenE T; rfl; rfl; rfl) | (apply XOp.lenNil T; rfl; rfl; rfl)); rfl; rfl; rfl)
    | (exfalso; omega)
    | (apply RetQ.pure (Or.inr rfl); rfl; (first | rfl | (focus (simp [AV.lim, AV.lims]; done))); (first | exact Sub.refl _ | (refine Sub.bool ?_; first | rfl | (focus (simp [*]; done)) | skip) | (refine Sub.int ?_; first | rfl | skip) | (refine Sub.flt ?_; first | rfl | skip) | skip))
    | (apply RetQ.cutE (Or.inr rfl); rfl; rfl; (first | rfl | (focus (simp only [AV.lims, AV.lim, lims_append, lims_encF, lims_encS, lims_encI, lims_encB, Bool.and_self, Bool.and_true, Bool.true_and, lims_encE]; (try rfl); done))); (first | rfl | (focus (simp only [hlims, AV.lims, AV.lim, lims_append, lims_encF, lims_encS, lims_encI, lims_encB, Bool.and_self, Bool.and_true, Bool.true_and, lims_encE]; (try rfl); done)) | (focus (simp [hlims, AV.lims, AV.lim, lims_append, lims_encF, lims_encS, lims_encI, lims_encB, Bool.and_self, Bool.and_true, Bool.true_and, lims_encE]; done))); (first | exact Sub.refl _ | (refine Sub.bool ?_; first | rfl | (focus (simp [*]; done)) | skip) | (refine Sub.int ?_; first | rfl | skip) | (refine Sub.flt ?_; first | rfl | skip) | skip); (first | rfl | skip)))
abbrev aI : List AV := insC [97] 1 0 0 0
abbrev lO : List AV := [.i 1, .i 0]
theorem notes_p1 (r b o : Nat) (degs : List Nat) (time line : Int) : ACall Tryz.prog G 154 [.ptr 0 0] (hp1 r b o degs time line aI) (.i (0)) (hp1 r b o degs time line aI) := by
  refine ACall.intro T Tryz.func154 (by kernel_rfl) rfl rfl rfl rfl ?_
  repeat' (first
    | refine W.seq ?_
    | refine W.region ?_
    | refine Wops.nilS ?_
    | (refine Wops.nil ?_; dsimp only [thenP, inBlockP])
    | (refine W.ret ?_; try dsimp only [thenP, inBlockP])
    | (refine W.skip ?_; try dsimp only [thenP, inBlockP])
    | (apply Wops.cons; (first | (apply XOp.assign; rfl) | (apply XOp.move; rfl) | (apply XOp.nilCheckP; rfl) | (apply XOp.nilCheckF; rfl) | (apply XOp.fieldP T; rfl; rfl; (simp only [Nat.zero_add, Nat.add_zero] <;> rfl)) | (apply XOp.fieldF T; rfl; rfl; rfl) | (apply XOp.load T; rfl; rfl) | (apply XOp.loadF T; rfl; rfl; rfl; rfl; rfl; (first | omega | (simp only [List.length_set]; omega))) | (apply XOp.quo0; rfl; rfl; (first | omega | (simp only [Option.getD_some, Option.getD_none] at *; omega) | decide); (first | omega | (simp only [Option.getD_some, Option.getD_none] at *; omega) | decide); (first | (simp only [IntKind.InR]; omega) | (simp only [IntKind.InR]; decide))) | (apply XOp.call; rfl; first | (apply ACall.pure (lenE_nil); (first | rfl | (focus (simp only [AV.lims, AV.lim, lims_append, lims_encF, lims_encS, lims_encI, lims_encB, Bool.and_self, Bool.and_true, Bool.true_and, lims_encE]; (try rfl); done)))) | (apply ACall.borrow (lenE_nil); (focus ((repeat (first | exact Views.nil | (apply Views.same; (first | rfl | (focus (simp only [AV.lims, AV.lim, lims_append, lims_encF, lims_encS, lims_encI, lims_encB, Bool.and_self, Bool.and_true, Bool.true_and, lims_encE]; (try rfl); done)))) | apply Views.cons | (apply View.same; (first | rfl | (focus (simp only [AV.lims, AV.lim, lims_append, lims_encF, lims_encS, lims_encI, lims_encB, Bool.and_self, Bool.and_true, Bool.true_and, lims_encE]; (try rfl); done)))) | (apply View.whole; rfl) | (apply View.wholeP; rfl) | apply View.agg | (intro h; first | rfl | exact flat0 h | exact absurd h (by decide)))); done)); rfl; rfl) | exact lenE_nil)); rfl; rfl; rfl)
    | (exfalso; omega)
    | (apply RetQ.pure (Or.inr rfl); rfl; (first | rfl | (focus (simp [AV.lim, AV.lims]; done))); (first | exact Sub.refl _ | (refine Sub.bool ?_; first | rfl | (focus (simp [*]; done)) | skip) | (refine Sub.int ?_; first | rfl | skip) | (refine Sub.flt ?_; first | rfl | skip) | skip))
    | (apply RetQ.cutE (Or.inr rfl); rfl; rfl; (first | rfl | (focus (simp only [AV.lims, AV.lim, lims_append, lims_encF, lims_encS, lims_encI, lims_encB, Bool.and_self, Bool.and_true, Bool.true_and, lims_encE]; (try rfl); done))); (first | rfl | (focus (simp only [hlims, AV.lims, AV.lim, lims_encF, Bool.and_self, Bool.and_true, Bool.true_and]; (try rfl); done)) | (focus (simp [hlims, AV.lims, AV.lim, lims_append, lims_encF, lims_encS, lims_encI, lims_encB, Bool.and_self, Bool.and_true, Bool.true_and, lims_encE]; done))); (first | exact Sub.refl _ | (refine Sub.bool ?_; first | rfl | (focus (simp [*]; done)) | skip) | (refine Sub.int ?_; first | rfl | skip) | (refine Sub.flt ?_; first | rfl | skip) | skip); (first | rfl | skip)))
theorem notes_p2 (r b o : Nat) (degs : List Nat) (time line : Int) (evs : List Ev) (he : evs.length < 100) : ACall Tryz.prog G 154 [.ptr 0 0] (hp2 r b o degs time line aI evs) (.i ((evs.length : Int) / 2)) (hp2 r b o degs time line aI evs) := by
  refine ACall.intro T Tryz.func154 (by kernel_rfl) rfl rfl rfl rfl ?_
  repeat' (first
    | refine W.seq ?_
    | refine W.region ?_
    | refine Wops.nilS ?_
    | (refine Wops.nil ?_; dsimp only [thenP, inBlockP])
    | (refine W.ret ?_; try dsimp only [thenP, inBlockP])
    | (refine W.skip ?_; try dsimp only [thenP, inBlockP])
    | (apply Wops.cons; (first | (apply XOp.assign; rfl) | (apply XOp.move; rfl) | (apply XOp.nilCheckP; rfl) | (apply XOp.nilCheckF; rfl) | (apply XOp.fieldP T; rfl; rfl; (simp only [Nat.zero_add, Nat.add_zero] <;> rfl)) | (apply XOp.fieldF T; rfl; rfl; rfl) | (apply XOp.load T; rfl; rfl) | (apply XOp.loadF T; rfl; rfl; rfl; rfl; rfl; (first | omega | (simp only [List.length_set]; omega))) | (apply XOp.quo0; rfl; rfl; (first | omega | (simp only [Option.getD_some, Option.getD_none] at *; omega) | decide); (first | omega | (simp only [Option.getD_some, Option.getD_none] at *; omega) | decide); (first | (simp only [IntKind.InR]; omega) | (simp only [IntKind.InR]; decide))) | (apply XOp.call; rfl; first | (apply ACall.pure (lenE_lst _ _); (first | rfl | (focus (simp only [AV.lims, AV.lim, lims_append, lims_encF, lims_encS, lims_encI, lims_encB, Bool.and_self, Bool.and_true, Bool.true_and, lims_encE]; (try rfl); done)))) | (apply ACall.borrow (lenE_lst _ _); (focus ((repeat (first | exact Views.nil | (apply Views.same; (first | rfl | (focus (simp only [lims_encE]; (try rfl); done)))) | apply Views.cons | (apply View.same; (first | rfl | (focus (simp only [AV.lims, AV.lim, lims_append, lims_encF, lims_encS, lims_encI, lims_encB, Bool.and_self, Bool.and_true, Bool.true_and, lims_encE]; (try rfl); done)))) | (apply View.whole; rfl) | (apply View.wholeP; rfl) | apply View.agg | (intro h; first | rfl | exact flat0 h | exact absurd h (by decide)))); done)); rfl; rfl) | exact lenE_lst _ _)); rfl; rfl; rfl)
    | (exfalso; omega)
    | (apply RetQ.pure (Or.inr rfl); rfl; (first | rfl | (focus (simp [AV.lim, AV.lims]; done))); (first | exact Sub.refl _ | (refine Sub.bool ?_; first | rfl | (focus (simp [*]; done)) | skip) | (refine Sub.int ?_; first | rfl | skip) | (refine Sub.flt ?_; first | rfl | skip) | skip))
    | (apply RetQ.cutE (Or.inr rfl); rfl; rfl; (first | rfl | (focus (simp only [AV.lims, AV.lim, lims_append, lims_encF, lims_encS, lims_encI, lims_encB, Bool.and_self, Bool.and_true, Bool.true_and, lims_encE]; (try rfl); done))); (first | rfl | (focus (simp only [hlims, AV.lims, AV.lim, lims_encF, Bool.and_self, Bool.and_true, Bool.true_and, lims_encE]; (try rfl); done)) | (focus (simp [hlims, AV.lims, AV.lim, lims_append, lims_encF, lims_encS, lims_encI, lims_encB, Bool.and_self, Bool.and_true, Bool.true_and, lims_encE]; done))); (first | exact Sub.refl _ | (refine Sub.bool ?_; first | rfl | (focus (simp [*]; done)) | skip) | (refine Sub.int ?_; first | rfl | skip) | (refine Sub.flt ?_; first | rfl | skip) | skip); (first | rfl | skip)))
theorem notes_q1 (r b o : Nat) (degs : List Nat) (time line : Int) : ACall Tryz.prog G 154 [.ptr 0 0] (hq1 r b o degs time line aI lO) (.i (0)) (hq1 r b o degs time line aI lO) := by
  refine ACall.intro T Tryz.func154 (by kernel_rfl) rfl rfl rfl rfl ?_
  repeat' (first
    | refine W.seq ?_
    | refine W.region ?_
    | refine Wops.nilS ?_
    | (refine Wops.nil ?_; dsimp only [thenP, inBlockP])
    | (refine W.ret ?_; try dsimp only [thenP, inBlockP])
    | (refine W.skip ?_; try dsimp only [thenP, inBlockP])
    | (apply Wops.cons; (first | (apply XOp.assign; rfl) | (apply XOp.move; rfl) | (apply XOp.nilCheckP; rfl) | (apply XOp.nilCheckF; rfl) | (apply XOp.fieldP T; rfl; rfl; (simp only [Nat.zero_add, Nat.add_zero] <;> rfl)) | (apply XOp.fieldF T; rfl; rfl; rfl) | (apply XOp.load T; rfl; rfl) | (apply XOp.loadF T; rfl; rfl; rfl; rfl; rfl; (first | omega | (simp only [List.length_set]; omega))) | (apply XOp.quo0; rfl; rfl; (first | omega | (simp only [Option.getD_some, Option.getD_none] at *; omega) | decide); (first | omega | (simp only [Option.getD_some, Option.getD_none] at *; omega) | decide); (first | (simp only [IntKind.InR]; omega) | (simp only [IntKind.InR]; decide))) | (apply XOp.call; rfl; first | (apply ACall.pure (lenE_nil); (first | rfl | (focus (simp only [AV.lims, AV.lim, lims_append, lims_encF, lims_encS, lims_encI, lims_encB, Bool.and_self, Bool.and_true, Bool.true_and, lims_encE]; (try rfl); done)))) | (apply ACall.borrow (lenE_nil); (focus ((repeat (first | exact Views.nil | (apply Views.same; (first | rfl | (focus (simp only [AV.lims, AV.lim, lims_append, lims_encF, lims_encS, lims_encI, lims_encB, Bool.and_self, Bool.and_true, Bool.true_and, lims_encE]; (try rfl); done)))) | apply Views.cons | (apply View.same; (first | rfl | (focus (simp only [AV.lims, AV.lim, lims_append, lims_encF, lims_encS, lims_encI, lims_encB, Bool.and_self, Bool.and_true, Bool.true_and, lims_encE]; (try rfl); done)))) | (apply View.whole; rfl) | (apply View.wholeP; rfl) | apply View.agg | (intro h; first | rfl | exact flat0 h | exact absurd h (by decide)))); done)); rfl; rfl) | exact lenE_nil)); rfl; rfl; rfl)
    | (exfalso; omega)
    | (apply RetQ.pure (Or.inr rfl); rfl; (first | rfl | (focus (simp [AV.lim, AV.lims]; done))); (first | exact Sub.refl _ | (refine Sub.bool ?_; first | rfl | (focus (simp [*]; done)) | skip) | (refine Sub.int ?_; first | rfl | skip) | (refine Sub.flt ?_; first | rfl | skip) | skip))
    | (apply RetQ.cutE (Or.inr rfl); rfl; rfl; (first | rfl | (focus (simp only [AV.lims, AV.lim, lims_append, lims_encF, lims_encS, lims_encI, lims_encB, Bool.and_self, Bool.and_true, Bool.true_and, lims_encE]; (try rfl); done))); (first | rfl | (focus (simp only [hlims, AV.lims, AV.lim, lims_encF, Bool.and_self, Bool.and_true, Bool.true_and]; (try rfl); done)) | (focus (simp [hlims, AV.lims, AV.lim, lims_append, lims_encF, lims_encS, lims_encI, lims_encB, Bool.and_self, Bool.and_true, Bool.true_and, lims_encE]; done))); (first | exact Sub.refl _ | (refine Sub.bool ?_; first | rfl | (focus (simp [*]; done)) | skip) | (refine Sub.int ?_; first | rfl | skip) | (refine Sub.flt ?_; first | rfl | skip) | skip); (first | rfl | skip)))
theorem notes_q2 (r b o : Nat) (degs : List Nat) (time line : Int) (evs : List Ev) (he : evs.length < 100) : ACall Tryz.prog G 154 [.ptr 0 0] (hq2 r b o degs time line aI lO evs) (.i ((evs.length : Int) / 2)) (hq2 r b o degs time line aI lO evs) := by
  refine ACall.intro T Tryz.func154 (by kernel_rfl) rfl rfl rfl rfl ?_
  repeat' (first
    | refine W.seq ?_
    | refine W.region ?_
    | refine Wops.nilS ?_
    | (refine Wops.nil ?_; dsimp only [thenP, inBlockP])
    | (refine W.ret ?_; try dsimp only [thenP, inBlockP])
    | (refine W.skip ?_; try dsimp only [thenP, inBlockP])
    | (apply Wops.cons; (first | (apply XOp.assign; rfl) | (apply XOp.move; rfl) | (apply XOp.nilCheckP; rfl) | (apply XOp.nilCheckF; rfl) | (apply XOp.fieldP T; rfl; rfl; (simp only [Nat.zero_add, Nat.add_zero] <;> rfl)) | (apply XOp.fieldF T; rfl; rfl; rfl) | (apply XOp.load T; rfl; rfl) | (apply XOp.loadF T; rfl; rfl; rfl; rfl; rfl; (first | omega | (simp only [List.length_set]; omega))) | (apply XOp.quo0; rfl; rfl; (first | omega | (simp only [Option.getD_some, Option.getD_none] at *; omega) | decide); (first | omega | (simp only [Option.getD_some, Option.getD_none] at *; omega) | decide); (first | (simp only [IntKind.InR]; omega) | (simp only [IntKind.InR]; decide))) | (apply XOp.call; rfl; first | (apply ACall.pure (lenE_lst _ _); (first | rfl | (focus (simp only [AV.lims, AV.lim, lims_append, lims_encF, lims_encS, lims_encI, lims_encB, Bool.and_self, Bool.and_true, Bool.true_and, lims_encE]; (try rfl); done)))) | (apply ACall.borrow (lenE_lst _ _); (focus ((repeat (first | exact Views.nil | (apply Views.same; (first | rfl | (focus (simp only [lims_encE]; (try rfl); done)))) | apply Views.cons | (apply View.same; (first | rfl | (focus (simp only [AV.lims, AV.lim, lims_append, lims_encF, lims_encS, lims_encI, lims_encB, Bool.and_self, Bool.and_true, Bool.true_and, lims_encE]; (try rfl); done)))) | (apply View.whole; rfl) | (apply View.wholeP; rfl) | apply View.agg | (intro h; first | rfl | exact flat0 h | exact absurd h (by decide)))); done)); rfl; rfl) | exact lenE_lst _ _)); rfl; rfl; rfl)
    | (exfalso; omega)
    | (apply RetQ.pure (Or.inr rfl); rfl; (first | rfl | (focus (simp [AV.lim, AV.lims]; done))); (first | exact Sub.refl _ | (refine Sub.bool ?_; first | rfl | (focus (simp [*]; done)) | skip) | (refine Sub.int ?_; first | rfl | skip) | (refine Sub.flt ?_; first | rfl | skip) | skip))
    | (apply RetQ.cutE (Or.inr rfl); rfl; rfl; (first | rfl | (focus (simp only [AV.lims, AV.lim, lims_append, lims_encF, lims_encS, lims_encI, lims_encB, Bool.and_self, Bool.and_true, Bool.true_and, lims_encE]; (try rfl); done))); (first | rfl | (focus (simp only [hlims, AV.lims, AV.lim, lims_encF, Bool.and_self, Bool.and_true, Bool.true_and, lims_encE]; (try rfl); done)) | (focus (simp [hlims, AV.lims, AV.lim, lims_append, lims_encF, lims_encS, lims_encI, lims_encB, Bool.and_self, Bool.and_true, Bool.true_and, lims_encE]; done))); (first | exact Sub.refl _ | (refine Sub.bool ?_; first | rfl | (focus (simp [*]; done)) | skip) | (refine Sub.int ?_; first | rfl | skip) | (refine Sub.flt ?_; first | rfl | skip) | skip); (first | rfl | skip)))
end Go.Ax
