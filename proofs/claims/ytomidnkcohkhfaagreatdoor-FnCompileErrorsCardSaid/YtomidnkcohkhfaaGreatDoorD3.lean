/-
  The source with its draws known.
-/
import Derived.Test.YtomidnkcohkhfaaGreatDoorD2
namespace Go.Ax
open Go.Proofs
variable {G : Mem}
structure Src where
  p : Int
  seed : Int
abbrev srcO (code : List UInt8) (s : Src) : Option AObj := AV.src code s.p s.seed
def nextF (code : List UInt8) (s : Src) : Int × Src :=
  if s.p < code.length then (((code.getD s.p.toNat default).toNat : Int), ⟨s.p + 1, nseed s.seed (code.getD s.p.toNat default).toNat⟩) else (nlate s.seed, ⟨s.p + 1, nseed s.seed 0⟩)
def pickF (code : List UInt8) (n : Int) (s : Src) : Int × Src :=
  if n ≤ 1 then (0, s) else if n ≤ 200 then ((nextF code s).1 % n, (nextF code s).2)
  else (((nextF code s).1 * 256 + (nextF code (nextF code s).2).1) % n, (nextF code (nextF code s).2).2)
theorem nextF_p (code : List UInt8) (s : Src) : (nextF code s).2.p = s.p + 1 := by unfold nextF; split <;> rfl
theorem nextF_bd (code : List UInt8) (s : Src) : 0 ≤ (nextF code s).1 ∧ (nextF code s).1 ≤ 255 := by
  unfold nextF
  split
  · have : (code.getD s.p.toNat default).toNat < 256 := (code.getD s.p.toNat default).toNat_lt
    constructor
    · exact Int.natCast_nonneg _
    · show ((code.getD s.p.toNat default).toNat : Int) ≤ 255
      omega
  · exact nlate_bd s.seed
theorem next_d (code : List UInt8) (s : Src) (h0 : 0 ≤ s.p) (hp : s.p < 1000000) (hb : code.length < 1000000) :
    ACall Tryz.prog G 101 [.ptr 0 0] [srcO code s] (.i (nextF code s).1) [srcO code (nextF code s).2] := by
  unfold nextF
  split
  · rename_i h; exact next_in code s.p s.seed h0 h hb
  · rename_i h; exact next_out code s.p s.seed h0 (by omega) hp
theorem pickF_bd (code : List UInt8) (n : Int) (s : Src) (hn : 1 ≤ n) : 0 ≤ (pickF code n s).1 ∧ (pickF code n s).1 < n := by
  unfold pickF
  split
  · exact ⟨Int.le_refl _, by show (0 : Int) < n; omega⟩
  · split <;> exact ⟨Int.emod_nonneg _ (by omega), Int.emod_lt_of_pos _ (by omega)⟩
theorem pickF_p (code : List UInt8) (n : Int) (s : Src) : s.p ≤ (pickF code n s).2.p ∧ (pickF code n s).2.p ≤ s.p + 2 := by
  unfold pickF
  split
  · exact ⟨Int.le_refl _, by show s.p ≤ _; omega⟩
  · split
    · simp only [nextF_p]; omega
    · simp only [nextF_p]; omega
theorem pick_d (code : List UInt8) (n : Int) (s : Src) (h0 : 0 ≤ s.p) (hp : s.p < 900000) (hb : code.length < 1000000) :
    ACall Tryz.prog G 53 [.ptr 0 0, .i n] [srcO code s] (.i (pickF code n s).1) [srcO code (pickF code n s).2] := by
  have hx := next_d (G := G) code s h0 (by omega) hb
  have b1 := nextF_bd code s
  unfold pickF
  split
  · rename_i h; exact pick_lo code s.p s.seed n h
  · split
    · rename_i h1 h2; exact pick_mid n (by omega) h2 b1.1 b1.2 hx
    · rename_i h1 h2
      have hy := next_d (G := G) code (nextF code s).2 (by rw [nextF_p]; omega) (by rw [nextF_p]; omega) hb
      have b2 := nextF_bd code (nextF code s).2
      exact pick_hi n (by omega) b1.1 b1.2 b2.1 b2.2 hx hy
theorem text_d (code : List UInt8) (xs : List (List UInt8)) (s : Src) (hn : 1 ≤ xs.length) (h0 : 0 ≤ s.p) (hp : s.p < 900000) (hb : code.length < 1000000) :
    ACall Tryz.prog G 54 [.ptr 0 0, .ss (xs.map str)] [srcO code s] (.s (str (xs.getD (pickF code xs.length s).1.toNat []))) [srcO code (pickF code xs.length s).2] := by
  have b := pickF_bd code xs.length s (by omega)
  have := text_of (G := G) (xs.map str) b.1 (by rw [List.length_map]; exact b.2) (by rw [List.length_map]; exact pick_d code _ s h0 hp hb)
  rw [show (xs.map str).getD (pickF code xs.length s).1.toNat default = str (xs.getD (pickF code xs.length s).1.toNat []) by
    have hlt : (pickF code xs.length s).1.toNat < xs.length := by omega
    simp [hlt]] at this
  exact this

/-! ### a text of a score -/
structure Item where
  key : Nat
  d : Nat
  w : Nat
def bPlay : List UInt8 := [112, 108, 97, 121, 32, 97, 32]
def bHalf : List UInt8 := [32, 49, 47, 50, 32]
def bWait : List UInt8 := [10, 119, 97, 105, 116, 32]
def keys : List (List UInt8) := [[48], [55], [45, 49, 50]]
def itemT (i : Item) : List UInt8 := bPlay ++ keys.getD i.key [] ++ bHalf ++ Lib.decDigits i.d ++ bWait ++ Lib.decDigits i.w ++ [10]
def render (l : List Item) : List UInt8 := l.flatMap itemT
def itemF (code : List UInt8) (s : Src) : Item × Src :=
  let a := pickF code 3 s
  let b := pickF code 40 a.2
  let c := pickF code 20 b.2
  (⟨a.1.toNat, b.1.toNat, c.1.toNat⟩, c.2)
def stF (code : List UInt8) (s0 : Src) : Nat → List Item × Src
  | 0 => ([], s0)
  | j + 1 => ((stF code s0 j).1 ++ [(itemF code (stF code s0 j).2).1], (itemF code (stF code s0 j).2).2)
def Item.ok (i : Item) : Prop := i.key < 3 ∧ i.d < 40 ∧ i.w < 20
theorem itemF_ok (code : List UInt8) (s : Src) : (itemF code s).1.ok := by
  have h1 := pickF_bd code 3 s (by omega)
  have h2 := pickF_bd code 40 (pickF code 3 s).2 (by omega)
  have h3 := pickF_bd code 20 (pickF code 40 (pickF code 3 s).2).2 (by omega)
  simp only [itemF, Item.ok]
  omega
theorem itemF_p (code : List UInt8) (s : Src) : s.p ≤ (itemF code s).2.p ∧ (itemF code s).2.p ≤ s.p + 6 := by
  have h1 := pickF_p code 3 s
  have h2 := pickF_p code 40 (pickF code 3 s).2
  have h3 := pickF_p code 20 (pickF code 40 (pickF code 3 s).2).2
  simp only [itemF]
  omega
theorem stF_ok (code : List UInt8) (s0 : Src) : ∀ j, (stF code s0 j).1.length = j ∧ (∀ i ∈ (stF code s0 j).1, i.ok) ∧ s0.p ≤ (stF code s0 j).2.p ∧ (stF code s0 j).2.p ≤ s0.p + 6 * j
  | 0 => ⟨rfl, fun i hi => by simp [stF] at hi, Int.le_refl _, by simp [stF]⟩
  | j + 1 => by
    obtain ⟨h1, h2, h3, h4⟩ := stF_ok code s0 j
    have h5 := itemF_p code (stF code s0 j).2
    refine ⟨by simp [stF, h1], fun i hi => ?_, ?_, ?_⟩
    · simp only [stF, List.mem_append, List.mem_singleton] at hi
      rcases hi with hi | rfl
      · exact h2 i hi
      · exact itemF_ok _ _
    · simp only [stF]; omega
    · simp only [stF]; omega
theorem dec_len2 {n : Nat} (h : n < 100) : (Lib.decDigits n).length ≤ 2 := by rw [Lib.decDigits_length]; exact nDigits_le 1 n h
theorem keys_len {k : Nat} : (keys.getD k []).length ≤ 3 := by
  match k with
  | 0 => decide
  | 1 => decide
  | 2 => decide
  | k + 3 => simp [keys]
theorem itemT_len {i : Item} (h : i.ok) : (itemT i).length ≤ 26 := by
  have h1 := dec_len2 (n := i.d) (by have := h.2.1; omega)
  have h2 := dec_len2 (n := i.w) (by have := h.2.2; omega)
  have h3 := keys_len (k := i.key)
  simp only [itemT, List.length_append, bPlay, bHalf, bWait, List.length_cons, List.length_nil]
  omega
theorem render_len : ∀ {l : List Item}, (∀ i ∈ l, i.ok) → (render l).length ≤ 26 * l.length
  | [], _ => by simp [render]
  | i :: l, h => by
    have h1 := itemT_len (h i (by simp))
    have h2 := render_len (l := l) (fun i hi => h i (by simp [hi]))
    simp only [render, List.flatMap_cons, List.length_append, List.length_cons] at *
    omega

theorem A2Text_ac (code : List UInt8) (most : Int) (h0 : 0 ≤ most) (hm : most < 100) (hb : code.length < 1000000) :
    ∃ its : List Item, its.length ≤ most ∧ (∀ i ∈ its, i.ok) ∧ ACall Tryz.prog G 18 [.bs code, .i most] [] (.s (str (render its))) [] := by
  have c0 := from_ac (G := G) code
  have c1 := pick_d (G := G) code (most + 1) ⟨0, 0⟩ (by simp) (by simp) hb
  have b1 := pickF_bd code (most + 1) ⟨0, 0⟩ (by omega)
  have p1 := pickF_p code (most + 1) ⟨0, 0⟩
  generalize hs0 : pickF code (most + 1) ⟨0, 0⟩ = s0 at *
  obtain ⟨k, s0⟩ := s0
  simp only [] at *
  refine ⟨(stF code s0 k.toNat).1, by rw [(stF_ok code s0 _).1]; omega, (stF_ok code s0 _).2.1, ?_⟩
  refine ACall.intro T Tryz.func18 (by kernel_rfl) rfl rfl rfl rfl ?_
  repeat' (first
    | refine W.seq ?_
    | refine W.block ?_
    | refine W.region ?_
    | refine Wops.nilS ?_
    | (refine Wops.nil ?_; dsimp only [thenP, inBlockP])
    | (refine W.ret ?_; try dsimp only [thenP, inBlockP])
    | (refine W.exit ?_; try dsimp only [thenP, inBlockP, cond, Nat.beq])
    | (refine W.skip ?_; try dsimp only [thenP, inBlockP])
    | (apply W.condT; rfl)
    | (apply W.condF; rfl)
    | (apply Wops.cons; (first | (apply XOp.assign; rfl) | (apply XOp.move; rfl) | (apply XOp.arithI; rfl; rfl; rfl; (first | (simp only [IntKind.InR]; omega) | (simp only [IntKind.InR]; decide))) | (apply XOp.arith; rfl; rfl; rfl) | (apply XOp.cmp; rfl; rfl; rfl) | (apply XOp.buildSliceF T; rfl; rfl; rfl; rfl; rfl; rfl) | (apply XOp.cat; rfl; rfl; (first | omega | (simp only [List.length_append, List.length_map, List.length_cons, List.length_nil]; omega)); rfl) | (apply XOp.call; rfl; exact c0) | (apply XOp.call; rfl; exact c1)); rfl; rfl; rfl)
    | (apply W.condP; rfl; intro h; rotate_left; intro h; rotate_left)
    | (apply W.cond; rfl; intro h; rotate_left; intro h; rotate_left)
    | (exfalso; omega)
    | (apply RetQ.pure (Or.inr rfl); rfl; (first | rfl | (focus (simp [AV.lim, AV.lims]; done))); (first | exact Sub.refl _ | (refine Sub.bool ?_; first | rfl | (focus (simp [*]; done)) | skip) | (refine Sub.int ?_; first | rfl | skip) | (refine Sub.flt ?_; first | rfl | skip) | skip))
    | (apply RetQ.cutE (Or.inr rfl); rfl; rfl; (first | rfl | (focus (simp only [AV.lims, AV.lim, lims_append, lims_encF, lims_encS, lims_encI, lims_encB, Bool.and_self, Bool.and_true, Bool.true_and]; (try rfl); done))); (first | rfl | (focus (simp only [hlims, AV.lims, AV.lim, lims_append, lims_encF, lims_encS, lims_encI, lims_encB, Bool.and_self, Bool.and_true, Bool.true_and]; (try rfl); done)) | (focus (simp [hlims, AV.lims, AV.lim, lims_append, lims_encF, lims_encS, lims_encI, lims_encB, Bool.and_self, Bool.and_true, Bool.true_and]; done))); (first | exact Sub.refl _ | (refine Sub.bool ?_; first | rfl | (focus (simp [*]; done)) | skip) | (refine Sub.int ?_; first | rfl | skip) | (refine Sub.flt ?_; first | rfl | skip) | skip); (first | rfl | skip)))
  refine W.loop (ι := {j : Nat // (j : Int) ≤ k}) (fun j => [(5, .ptr 0 0), (6, .s (str (render (stF code s0 j.1).1))), (7, .i (k - j.1))]) (fun j => [srcO code (stF code s0 j.1).2]) (fun j => (k - j.1).toNat) ⟨0, by simp; omega⟩ ?_ (fun _ => Nat.le_refl _) ?_
  · exact Fits.same (EnvLe.cons rfl (EnvLe.cons rfl (EnvLe.cons (by show AV.i k = _; simp) EnvLe.nil)))
  rintro ⟨j, hj⟩
  obtain ⟨l1, l2, l3, l4⟩ := stF_ok code s0 j
  have e3 : (stF code s0 (j + 1)).1 = (stF code s0 j).1 ++ [(itemF code (stF code s0 j).2).1] := rfl
  have e4 : (stF code s0 (j + 1)).2 = (itemF code (stF code s0 j).2).2 := rfl
  have r1 := render_len l2
  have kk : ∀ n : Nat, (j : Int) = k → n = k.toNat → j = n := fun n h1 h2 => by omega
  dsimp only []
  generalize hst : stF code s0 j = st at *
  obtain ⟨its, s⟩ := st
  simp only [] at *
  by_cases hlt : k - (j : Int) > 0
  · have q1 := pickF_p code 3 s
    have q2 := pickF_p code 40 (pickF code 3 s).2
    have b1 := pickF_bd code 40 (pickF code 3 s).2 (by omega)
    have b2 := pickF_bd code 20 (pickF code 40 (pickF code 3 s).2).2 (by omega)
    have ct : ACall Tryz.prog G 54 [.ptr 0 0, .lst 3 [.s (str [48]), .s (str [55]), .s (str [45, 49, 50])]] [srcO code s] (.s (str (keys.getD (pickF code 3 s).1.toNat []))) [srcO code (pickF code 3 s).2] := text_d code keys s (by decide) (by omega) (by omega) hb
    have cp := pick_d (G := G) code 40 (pickF code 3 s).2 (by omega) (by omega) hb
    have cq := pick_d (G := G) code 20 (pickF code 40 (pickF code 3 s).2).2 (by omega) (by omega) hb
    have cd := Decimal_of (G := G) (pickF code 40 (pickF code 3 s).2).1 (by omega) (by omega)
    have ce := Decimal_of (G := G) (pickF code 20 (pickF code 40 (pickF code 3 s).2).2).1 (by omega) (by omega)
    have d1 := dec_len2 (n := (pickF code 40 (pickF code 3 s).2).1.toNat) (by omega)
    have d2 := dec_len2 (n := (pickF code 20 (pickF code 40 (pickF code 3 s).2).2).1.toNat) (by omega)
    have d3 := keys_len (k := (pickF code 3 s).1.toNat)
    repeat' (first
    | refine W.seq ?_
    | refine W.block ?_
    | refine W.region ?_
    | refine Wops.nilS ?_
    | (refine Wops.nil ?_; dsimp only [thenP, inBlockP])
    | (refine W.ret ?_; try dsimp only [thenP, inBlockP])
    | (refine W.exit ?_; try dsimp only [thenP, inBlockP, cond, Nat.beq])
    | (refine W.skip ?_; try dsimp only [thenP, inBlockP])
    | (apply W.condT; rfl)
    | (apply W.condF; rfl)
    | (apply Wops.cons; (first | (apply XOp.assign; rfl) | (apply XOp.move; rfl) | (apply XOp.arithI; rfl; rfl; rfl; (first | (simp only [IntKind.InR]; omega) | (simp only [IntKind.InR]; decide))) | (apply XOp.arith; rfl; rfl; rfl) | (apply XOp.cmp; rfl; rfl; rfl) | (apply XOp.buildSliceF T; rfl; rfl; rfl; rfl; rfl; rfl) | (apply XOp.cat; rfl; rfl; (first | omega | (simp only [List.length_append, List.length_cons, List.length_nil]; omega)); rfl) | (apply XOp.call; rfl; apply ACall.pure (cd); (first | rfl | (focus (simp only [AV.lims, AV.lim, lims_append, lims_encF, lims_encS, lims_encI, lims_encB, Bool.and_self, Bool.and_true, Bool.true_and]; (try rfl); done)))) | (apply XOp.call; rfl; apply ACall.pure (ce); (first | rfl | (focus (simp only [AV.lims, AV.lim, lims_append, lims_encF, lims_encS, lims_encI, lims_encB, Bool.and_self, Bool.and_true, Bool.true_and]; (try rfl); done)))) | (apply XOp.call; rfl; exact ct) | (apply XOp.call; rfl; exact cp) | (apply XOp.call; rfl; exact cq)); rfl; rfl; rfl)
    | (apply W.condP; rfl; intro h; rotate_left; intro h; rotate_left)
    | (apply W.cond; rfl; intro h; rotate_left; intro h; rotate_left)
    | (exfalso; omega))
    refine ⟨⟨j + 1, by push_cast; omega⟩, by simp only []; push_cast; omega, ?_⟩
    dsimp only []
    rw [e3, e4]
    refine Fits.same (EnvLe.cons rfl (EnvLe.cons ?_ (EnvLe.cons ?_ EnvLe.nil)))
    · show AV.s (str _) = AV.s (str _)
      refine congrArg AV.s (congrArg str ?_)
      have e5 : render (its ++ [(itemF code s).1]) = render its ++ itemT (itemF code s).1 := by simp [render]
      rw [e5]
      rfl
    · show AV.i _ = AV.i _
      refine congrArg AV.i ?_
      push_cast; omega
  · have hjk : j = k.toNat := by omega
    subst hjk
    repeat' (first
    | refine W.seq ?_
    | refine W.block ?_
    | refine W.region ?_
    | refine Wops.nilS ?_
    | (refine Wops.nil ?_; dsimp only [thenP, inBlockP])
    | (refine W.ret ?_; try dsimp only [thenP, inBlockP])
    | (refine W.exit ?_; try dsimp only [thenP, inBlockP, cond, Nat.beq])
    | (refine W.skip ?_; try dsimp only [thenP, inBlockP])
    | (apply W.condT; rfl)
    | (apply W.condF; rfl)
    | (apply Wops.cons; (first | (apply XOp.assign; rfl) | (apply XOp.move; rfl) | (apply XOp.arithI; rfl; rfl; rfl; (first | (simp only [IntKind.InR]; omega) | (simp only [IntKind.InR]; decide))) | (apply XOp.arith; rfl; rfl; rfl) | (apply XOp.cmp; rfl; rfl; rfl) | (apply XOp.buildSliceF T; rfl; rfl; rfl; rfl; rfl; rfl) | (apply XOp.cat; rfl; rfl; (first | omega | (simp only [List.length_append, List.length_map, List.length_cons, List.length_nil]; omega)); rfl)); rfl; rfl; rfl)
    | (apply W.condP; rfl; intro h; rotate_left; intro h; rotate_left)
    | (apply W.cond; rfl; intro h; rotate_left; intro h; rotate_left)
    | (exfalso; omega)
    | (apply RetQ.pure (Or.inr rfl); rfl; (first | rfl | (focus (simp [AV.lim, AV.lims]; done))); (first | exact Sub.refl _ | (refine Sub.bool ?_; first | rfl | (focus (simp [*]; done)) | skip) | (refine Sub.int ?_; first | rfl | skip) | (refine Sub.flt ?_; first | rfl | skip) | skip))
    | (apply RetQ.cutE (Or.inr rfl); rfl; rfl; (first | rfl | (focus (simp only [AV.lims, AV.lim, lims_append, lims_encF, lims_encS, lims_encI, lims_encB, Bool.and_self, Bool.and_true, Bool.true_and]; (try rfl); done))); (first | rfl | (focus (simp only [hlims, AV.lims, AV.lim, lims_append, lims_encF, lims_encS, lims_encI, lims_encB, Bool.and_self, Bool.and_true, Bool.true_and]; (try rfl); done)) | (focus (simp [hlims, AV.lims, AV.lim, lims_append, lims_encF, lims_encS, lims_encI, lims_encB, Bool.and_self, Bool.and_true, Bool.true_and]; done))); (first | exact Sub.refl _ | (refine Sub.bool ?_; first | rfl | (focus (simp [*]; done)) | skip) | (refine Sub.int ?_; first | rfl | skip) | (refine Sub.flt ?_; first | rfl | skip) | skip); (first | rfl | skip)))
    rw [hst]
    exact Sub.refl _
end Go.Ax
