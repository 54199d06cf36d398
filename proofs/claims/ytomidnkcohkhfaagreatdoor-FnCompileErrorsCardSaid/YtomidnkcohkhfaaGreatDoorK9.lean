/-
  Closures and copies in the book.
-/
import Derived.Test.YtomidnkcohkhfaaGreatDoorK8
namespace Go.Ax
variable {P : Program} {G : Mem} {H H0 H0' H' H1 L : Heap} {env : Env} {a : Act} {n : Nat}

def shiftF (l off : Nat) (k : Nat) : Nat × Nat := bif Nat.beq k l then (l, off) else (k, 0)
def shiftW (l : Nat) (k : Nat) : Bool := !(Nat.beq k l)

structure PartC (l off : Nat) (cells seg seg' : List AV) (b : Bool) (H H0 H0' H' : Heap) : Prop where
  len0 : H0.length = H.length
  big : H.get l = some ⟨cells, b⟩
  small : H0.get l = some ⟨seg, false⟩
  small' : H0'.get l = some ⟨seg', false⟩
  pos : 0 < seg.length
  fits : off + seg.length ≤ cells.length
  same : ∀ (i : Nat) c, seg[i]? = some c → cells[off + i]? = some c
  slen : seg'.length = seg.length
  noid : Rens (shiftF l off) (shiftW l) seg seg
  noid' : Rens (shiftF l off) (shiftW l) seg' seg'
  others : ∀ k o, k ≠ l → H0.get k = some o → H.get k = some o ∧ Rens (shiftF l off) (shiftW l) o.cells o.cells
  len' : H'.length = H0'.length
  post : ∀ k o', H'.get k = some o' → (k = l ∧ o' = ⟨splice cells off seg', b⟩) ∨ (k ≠ l ∧ H0'.get k = some o' ∧ Rens (shiftF l off) (shiftW l) o'.cells o'.cells) ∨ (k ≠ l ∧ k < H.length ∧ H0.get k = none ∧ H.get k = some o')

theorem ACall.part {f : FuncId} {args args0 : List AV} {res : AV} {l off : Nat} {cells seg seg' : List AV} {b : Bool} (h : ACall P G f args0 H0 res H0') (hP : PartC l off cells seg seg' b H H0 H0' H') (hv : Rens (shiftF l off) (shiftW l) args0 args) (hargs : AV.lims H0.length args0 = true)
    (hres : Ren (shiftF l off) (shiftW l) res res) : ACall P G f args H res H' := by
  refine ⟨h.fn, fun K ρ w vs g hl hr => ?_⟩
  have hll : l < H.length := Heap.get_lt hP.big
  have hlen := hP.fits
  have hpos := hP.pos
  obtain ⟨row, t, fr, b1, b2, b3, b4, b5, b6, b7, b8⟩ : Lies K ρ H.length w ⟨cells, b⟩ (ρ l) := by
    rcases g.obj l _ hP.big with hL | ⟨h0, _, _⟩
    · exact hL
    · simp only [] at h0; rw [h0] at hlen; simp only [List.length_nil] at hlen; omega
  simp only [] at b4 b6 b7
  let ρ0 : Place := fun k => if k = l then ⟨(ρ l).b, (ρ l).o + off, seg.length⟩ else ρ k
  have e0l : ρ0 l = ⟨(ρ l).b, (ρ l).o + off, seg.length⟩ := by simp [ρ0]
  have e0n : ∀ k, k ≠ l → ρ0 k = ρ k := fun k hk => by simp [ρ0, hk]
  have hA0 : Along (shiftF l off) (shiftW l) ρ0 ρ := fun k => by
    by_cases hk : k = l
    · subst hk
      simp only [shiftF, shiftW, e0l]
      simp
    · have : Nat.beq k l = false := by rw [Bool.eq_false_iff]; intro h; exact hk (Nat.eq_of_beq_eq_true h)
      simp only [shiftF, shiftW, this, cond_false, e0n k hk]
      simp
  have g0 : Good G K ρ0 H0 w := by
    refine ⟨g.glob, g.froz, fun k o ho => ?_, fun k k' o o' ho ho' hne => ?_⟩
    · by_cases hk : k = l
      · subst hk
        rw [hP.small] at ho
        cases ho
        rw [e0l]
        refine .inl ⟨row, t, fr, b1, b2, b3, Nat.le_refl _, (by simp only []; omega), (fun h => by cases h), fun _ => rfl, fun i c hc => ?_⟩
        simp only [] at hc
        obtain ⟨d1, v, d2, d3, d4⟩ := b8 (off + i) c (hP.same i c hc)
        obtain ⟨c', j1, j2⟩ := hP.noid.get hc
        rw [hc] at j1
        cases j1
        exact ⟨by rw [hP.len0]; exact d1, v, by rw [← d2]; simp only [Nat.add_assoc], d3, (ren_iff hA0 j2 v).2 d4⟩
      · obtain ⟨q1, q2⟩ := hP.others k o hk ho
        rw [e0n k hk]
        refine (g.obj k o q1).imp (fun hL => ?_) id
        obtain ⟨row', t', fr', c1, c2, c3, c4, c5, c6, c7, c8⟩ := hL
        refine ⟨row', t', fr', c1, c2, c3, c4, c5, c6, c7, fun i c hc => ?_⟩
        obtain ⟨d1, v, d2, d3, d4⟩ := c8 i c hc
        obtain ⟨c', j1, j2⟩ := q2.get hc
        rw [hc] at j1
        cases j1
        exact ⟨by rw [hP.len0]; exact d1, v, d2, d3, (ren_iff hA0 j2 v).2 d4⟩
    · have key : ∀ k' o', k' ≠ l → H0.get k' = some o' → Apart ⟨seg, false⟩ (ρ0 l) o' (ρ0 k') := fun k' o' hk' ho' => by
        obtain ⟨q1, _⟩ := hP.others k' o' hk' ho'
        rw [e0l, e0n k' hk']
        rcases g.apart l k' _ o' hP.big q1 (Ne.symm hk') with ⟨z1, z2⟩ | z | z | ⟨z1, z2, z3⟩
        · omega
        · exact .inr (.inl z)
        · exact .inr (.inr (.inl z))
        · refine .inr (.inr (.inr ⟨rfl, z2, ?_⟩))
          have := b7 z1
          simp only []
          omega
      by_cases hk : k = l <;> by_cases hk' : k' = l
      · exact absurd (hk.trans hk'.symm) hne
      · subst hk; rw [hP.small] at ho; cases ho; exact key k' o' hk' ho'
      · subst hk'; rw [hP.small] at ho'; cases ho'; exact (key k o hk ho).symm
      · rw [e0n k hk, e0n k' hk']; exact g.apart k k' o o' (hP.others k o hk ho).1 (hP.others k' o' hk' ho').1 hne
  refine (h.run K ρ0 w vs g0 hargs ((rens_iff hA0 hv vs).2 hr)).mono ?_
  rintro e w' ⟨v, rfl, K', ρ0', g', x', hr', hl'⟩
  have hle := x'.le g0
  have hll0 : l < H0.length := by rw [hP.len0]; exact hll
  let ρ2 : Place := fun k => if k = l then ρ l else ρ0' k
  have e2l : ρ2 l = ρ l := by simp [ρ2]
  have e2n : ∀ k, k ≠ l → ρ2 k = ρ0' k := fun k hk => by simp [ρ2, hk]
  have e2o : ∀ k, k < H.length → ρ2 k = ρ k := fun k hk => by
    by_cases h : k = l
    · subst h; exact e2l
    · rw [e2n k h, x'.plc k (by rw [hP.len0]; exact hk), e0n k h]
  have hA : Along (shiftF l off) (shiftW l) ρ0' ρ2 := fun k => by
    by_cases hk : k = l
    · subst hk
      simp only [shiftF, shiftW, x'.plc _ hll0, e0l]
      simp [e2l]
    · have : Nat.beq k l = false := by rw [Bool.eq_false_iff]; intro h; exact hk (Nat.eq_of_beq_eq_true h)
      simp only [shiftF, shiftW, this, cond_false, e2n k hk]
      simp
  have hmono : H.length ≤ H'.length := by rw [hP.len', ← hP.len0]; exact x'.len

  have hold : ∀ k o', k < H.length → H'.get k = some o' → ∃ o, H.get k = some o ∧ o.arr = o'.arr := fun k o' hk ho' => by
    rcases hP.post k o' ho' with ⟨rfl, rfl⟩ | ⟨q1, q2, _⟩ | ⟨_, _, _, q⟩
    · exact ⟨_, hP.big, rfl⟩
    · obtain ⟨o, r1, r2⟩ := x'.live k o' (by rw [hP.len0]; exact hk) q2
      exact ⟨o, (hP.others k o q1 r1).1, r2⟩
    · exact ⟨o', q, rfl⟩
  have hnotown : ∀ k o i, H.get k = some o → H0.get k = none → (ρ k).o ≤ i → i < (ρ k).o + (ρ k).e → ¬ own ρ0 H0 (ρ k).b i := by
    rintro k o i ho hn h1 h2 ⟨k0, o0, q1, q2, q3, q4⟩
    have hne : k0 ≠ k := fun e => by rw [e, hn] at q1; cases q1
    by_cases hk0 : k0 = l
    · subst hk0
      rw [e0l] at q2 q3 q4
      simp only [] at q2 q3 q4
      rcases g.apart k0 k _ o hP.big ho hne with ⟨z1, z2⟩ | ⟨z1, z2⟩ | z | ⟨z1, _, z⟩
      · omega
      · omega
      · exact z q2
      · have := b7 z1; omega
    · rw [e0n k0 hk0] at q2 q3 q4
      rcases g.apart k0 k o0 o (hP.others k0 o0 hk0 q1).1 ho hne with ⟨z1, z2⟩ | ⟨z1, z2⟩ | z | ⟨z1, _, z⟩
      · omega
      · omega
      · exact z q2
      · omega
  have hKold : ∀ k o, H.get k = some o → Lies K ρ H.length w o (ρ k) → H0.get k = none → K' (ρ k).b = none := by
    intro k o ho hL hn
    have hbs := hL.lt
    obtain ⟨row1, t1, fr1, c1, c2, c3, c4, c5, c6, c7, c8⟩ := hL
    rcases x'.old _ hbs with q | ⟨_, l0, o0, q1, q2, q3, q4, q5⟩
    · rw [q]; exact c3
    · exfalso
      have hne : l0 ≠ k := fun e => by rw [e, hn] at q1; cases q1
      by_cases hk0 : l0 = l
      · subst hk0; rw [hP.small] at q1; cases q1; cases q2
      · rw [e0n l0 hk0] at q3 q4
        have hH := (hP.others l0 o0 hk0 q1).1
        rcases g.apart l0 k o0 o hH ho hne with ⟨z1, z2⟩ | ⟨z1, z2⟩ | z | ⟨z1, _, z⟩
        · omega
        · obtain ⟨row2, _, _, d1, _, _, _, _, d6, _⟩ := g.lies hH q4
          rw [q3, c1] at d1
          simp only [Option.some.injEq, Obj.cells.injEq] at d1
          obtain ⟨_, f1⟩ := c6 z1
          obtain ⟨_, f2⟩ := d6 q2
          rw [← d1.1] at f2
          omega
        · exact z q3
        · rw [q2] at z1; cases z1
  have hgood : Good G K' ρ2 H' w' := by
    refine ⟨g'.glob, g'.froz, fun k o' ho' => ?_, fun k k' o o' ho ho' hne => ?_⟩
    · rcases hP.post k o' ho' with ⟨rfl, rfl⟩ | ⟨q1, q2, q3⟩ | ⟨q1, q2, q3, q4⟩
      ·
        rw [e2l]
        obtain ⟨row', p1, p2, p3⟩ := x'.fr.part _ _ _ _ b1
        have hS : Lies K' ρ0' H0'.length w' ⟨seg', false⟩ (ρ0' k) := by
          rcases g'.obj k _ hP.small' with hL | ⟨_, h0, _⟩
          · exact hL
          · cases h0
        obtain ⟨rowS, tS, frS, s1, s2, s3, s4, s5, s6, s7, s8⟩ := hS
        rw [x'.plc k hll0, e0l] at s1 s3 s8
        simp only [] at s1 s3 s8
        rw [p1] at s1
        simp only [Option.some.injEq, Obj.cells.injEq] at s1
        obtain ⟨f1, f2, f3⟩ := s1
        subst f1
        have hsl := hP.slen
        have hk2 : off + seg'.length ≤ cells.length := by omega
        refine .inl ⟨row', t, fr, p1, by intro i hi; rw [p2] at hi; exact b2 i hi, s3, by simp only []; rw [splice_length hk2]; exact b4, by rw [p2]; exact b5, by rw [p2]; exact b6, by simp only []; rw [splice_length hk2]; exact b7, fun i c hc => ?_⟩
        rcases splice_get hk2 hc with ⟨i1, i2, i3⟩ | ⟨i1, i2⟩
        · obtain ⟨d1, v, d2, d3, d4⟩ := s8 (i - off) c i3
          obtain ⟨c', j1, j2⟩ := hP.noid'.get i3
          rw [i3] at j1
          cases j1
          exact ⟨by rw [hP.len']; exact d1, v, by rw [← d2]; congr 1; omega, d3, (ren_iff hA j2 v).1 d4⟩
        · obtain ⟨d1, v, d2, d3, d4⟩ := b8 i c i2
          have hi : i < cells.length := (List.getElem?_eq_some_iff.1 i2).1
          refine ⟨AV.lim_mono hmono c d1, v, ?_, d3, rel_mono hle e2o c v d1 d4⟩
          rw [p3 _ ?_]; exact d2
          rintro ⟨k0, o0, q1, q2, q3, q4⟩
          by_cases hk0 : k0 = k
          · subst hk0
            rw [e0l] at q3 q4
            simp only [] at q3 q4
            omega
          · rw [e0n k0 hk0] at q2 q3 q4
            rcases g.apart k k0 _ o0 hP.big (hP.others k0 o0 hk0 q1).1 (Ne.symm hk0) with ⟨z1, z2⟩ | ⟨z1, z2⟩ | z | ⟨z1, _, z⟩
            · omega
            · omega
            · exact z q2.symm
            · have := b7 z1; omega
      · rw [e2n k q1]
        refine (g'.obj k o' q2).imp (fun hL => ?_) id
        obtain ⟨row', t', fr', c1, c2, c3, c4, c5, c6, c7, c8⟩ := hL
        refine ⟨row', t', fr', c1, c2, c3, c4, c5, c6, c7, fun i c hc => ?_⟩
        obtain ⟨d1, v, d2, d3, d4⟩ := c8 i c hc
        obtain ⟨c', j1, j2⟩ := q3.get hc
        rw [hc] at j1
        cases j1
        exact ⟨by rw [hP.len']; exact d1, v, d2, d3, (ren_iff hA j2 v).1 d4⟩
      · rw [e2o k q2]
        refine (g.obj k o' q4).imp (fun hL => ?_) id
        have hK := hKold k o' q4 hL q3
        obtain ⟨row1, t1, fr1, c1, c2, c3, c4, c5, c6, c7, c8⟩ := hL
        obtain ⟨row', p1, p2, p3⟩ := x'.fr.part _ _ _ _ c1
        refine ⟨row', t1, fr1, p1, by intro i hi; rw [p2] at hi; exact c2 i hi, hK, c4, by rw [p2]; exact c5, by rw [p2]; exact c6, c7, fun i c hc => ?_⟩
        obtain ⟨d1, v, d2, d3, d4⟩ := c8 i c hc
        have hi : i < o'.cells.length := (List.getElem?_eq_some_iff.1 hc).1
        refine ⟨AV.lim_mono hmono c d1, v, ?_, d3, rel_mono hle e2o c v d1 d4⟩
        rw [p3 _ (hnotown k o' _ q4 q3 (by omega) (by omega))]; exact d2
    · have new : ∀ k k' o o', k < H.length → ¬ k' < H.length → H'.get k = some o → H'.get k' = some o' → Apart o (ρ2 k) o' (ρ2 k') := by
        intro k k' o o' hk hk' ho ho'
        obtain ⟨oo, r1, r2⟩ := hold k o hk ho
        have q2 : H0'.get k' = some o' := by
          rcases hP.post k' o' ho' with ⟨rfl, _⟩ | ⟨_, q, _⟩ | ⟨_, q, _⟩
          · exact absurd hll hk'
          · exact q
          · exact absurd q hk'
        have hkl : k' ≠ l := fun e => hk' (by rw [e]; exact hll)
        rw [e2o k hk, e2n k' hkl]
        rcases x'.fresh k' o' (by rw [hP.len0]; omega) q2 with z | ⟨z1, z2⟩ | ⟨z1, l1, o1, z2, z3, z4, z5, z6⟩
        · rcases g.obj k oo r1 with hL | ⟨_, y1, y2⟩
          · have := hL.lt
            exact .inr (.inr (.inl (by omega)))
          · exact .inl ⟨by rw [← r2]; exact y1, y2⟩
        · exact .inr (.inl ⟨z1, z2⟩)
        · by_cases hl1 : l1 = l
          · subst hl1; rw [hP.small] at z2; cases z2; cases z3
          · rw [e0n l1 hl1] at z5 z6
            have hH := (hP.others l1 o1 hl1 z2).1
            have hne : l1 ≠ k := fun e => by
              subst e
              rcases hP.post l1 o ho with ⟨e, _⟩ | ⟨_, q, _⟩ | ⟨_, _, q, _⟩
              · exact hl1 e
              · rw [z4] at q; cases q
              · rw [z2] at q; cases q
            rcases g.apart k l1 oo o1 r1 hH (Ne.symm hne) with ⟨y1, y2⟩ | ⟨_, y⟩ | y | ⟨_, y, _⟩
            · exact .inl ⟨by rw [← r2]; exact y1, y2⟩
            · omega
            · exact .inr (.inr (.inl (by rw [← z5]; exact y)))
            · rw [z3] at y; cases y
      by_cases hk : k < H.length <;> by_cases hk' : k' < H.length
      · obtain ⟨o1, r1, r2⟩ := hold k o hk ho
        obtain ⟨o2, s1, s2⟩ := hold k' o' hk' ho'
        have := g.apart k k' o1 o2 r1 s1 hne
        rw [e2o k hk, e2o k' hk']
        unfold Apart at this ⊢
        rw [← r2, ← s2]; exact this
      · exact new k k' o o' hk hk' ho ho'
      · exact (new k' k o' o hk' hk ho' ho).symm
      · have get0 : ∀ k o, ¬ k < H.length → H'.get k = some o → H0'.get k = some o := fun k o hk ho => by
          rcases hP.post k o ho with ⟨rfl, _⟩ | ⟨_, q, _⟩ | ⟨_, q, _⟩
          · exact absurd hll hk
          · exact q
          · exact absurd q hk
        rw [e2n k (fun e => hk (by rw [e]; exact hll)), e2n k' (fun e => hk' (by rw [e]; exact hll))]
        exact g'.apart k k' o o' (get0 k o hk ho) (get0 k' o' hk' ho') hne
  have hdead : ∀ l0 o0, H0.get l0 = some o0 → o0.arr = true → H0'.get l0 = none → H'.get l0 = none := fun l0 o0 h1 h2 h3 => by
    cases hx : H'.get l0 with
    | none => rfl
    | some o' =>
      rcases hP.post l0 o' hx with ⟨rfl, _⟩ | ⟨_, q, _⟩ | ⟨_, _, q, _⟩
      · rw [hP.small] at h1; cases h1; cases h2
      · rw [h3] at q; cases q
      · rw [h1] at q; cases q
  have hownle : ∀ b i, own ρ0 H0 b i → own ρ H b i := by
    rintro b i ⟨k0, o0, q1, q2, q3, q4⟩
    by_cases hk0 : k0 = l
    · subst hk0
      rw [e0l] at q2 q3 q4
      simp only [] at q2 q3 q4
      exact ⟨k0, _, hP.big, q2, by omega, by omega⟩
    · rw [e0n k0 hk0] at q2 q3 q4
      exact ⟨k0, o0, (hP.others k0 o0 hk0 q1).1, q2, q3, q4⟩
  have hext : Ext K ρ H w K' ρ2 H' w' := by
    refine ⟨x'.fr.weaken (fun b i _ hh => hownle b i hh), fun bb hb => ?_, e2o, hmono, fun k o' hk ho' => hold k o' hk ho', fun k o' hk ho' => ?_⟩
    · rcases x'.old bb hb with q | ⟨q0, l0, o0, q1, q2, q3, q4, q5⟩
      · exact .inl q
      · have hk0 : l0 ≠ l := fun e => by subst e; rw [hP.small] at q1; cases q1; cases q2
        rw [e0n l0 hk0] at q3 q4
        exact .inr ⟨q0, l0, o0, (hP.others l0 o0 hk0 q1).1, q2, q3, q4, hdead l0 o0 q1 q2 q5⟩
    · have q2 : H0'.get k = some o' := by
        rcases hP.post k o' ho' with ⟨rfl, _⟩ | ⟨_, q, _⟩ | ⟨_, q, _⟩
        · omega
        · exact q
        · omega
      rw [e2n k (fun e => by omega)]
      rcases x'.fresh k o' (by rw [hP.len0]; exact hk) q2 with z | z | ⟨z1, l1, o1, z2, z3, z4, z5, z6⟩
      · exact .inl z
      · exact .inr (.inl z)
      · have hk0 : l1 ≠ l := fun e => by subst e; rw [hP.small] at z2; cases z2; cases z3
        rw [e0n l1 hk0] at z5 z6
        exact .inr (.inr ⟨z1, l1, o1, (hP.others l1 o1 hk0 z2).1, z3, hdead l1 o1 z2 z3 z4, z5, z6⟩)
  exact ⟨v, rfl, K', ρ2, hgood, hext, (ren_iff hA hres v).1 hr', by rw [hP.len']; exact hl'⟩
end Go.Ax
namespace Go.Ax
variable {P : Program} {G : Mem} {H H0 H0' H' H1 L : Heap} {env : Env} {a : Act} {n : Nat}

theorem get_rep (n k : Nat) : Heap.get (List.replicate n (none : Option AObj)) k = none := by
  rw [Heap.get_eq]
  cases hx : (List.replicate n (none : Option AObj))[k]? with
  | none => rfl
  | some y => rw [List.getElem?_replicate] at hx; split at hx <;> simp at hx; subst hx; rfl

/-- The frame rule, in the order in which it is tried. -/
theorem ACall.frameN' {f : FuncId} {args args0 : List AV} {res res0 : AV} (fs : List Nat) (h : ACall P G f args0 H0 res0 H0') (hk : fs.length = H0.length)
    (hv : Rens (fun l => (natAt fs l, 0)) (fun _ => true) args0 args) (hp : FPre (natAt fs) H0.length H 0 H0) (hn : nodupN fs = true) (ha : allLt H.length fs = true) (hargs : AV.lims H0.length args0 = true)
    (hu : FUp (natAt fs) H0.length H.length 0 H0 H0' H H') (hres : Ren (fun l => (numF (natAt fs) H0.length H.length l, 0)) (fun _ => true) res0 res) : ACall P G f args H res H' :=
  h.frameN fs hk hn ha hv hargs hp hu hres
theorem ACall.frameL' {f : FuncId} {args args0 : List AV} {res res0 : AV} (fs : List Nat) (h : ACall P G f args0 H0 res0 H0') (hk : fs.length = H0.length) (L : Heap) (_ : lentO [] 0 H = L)
    (_ : WViews L (natAt fs) args args0) (hp : FPre (natAt fs) H0.length H 0 H0) (hn : nodupN fs = true) (ha : allLt H.length fs = true) (hargs : AV.lims H0.length args0 = true)
    {L' : Heap} (hL : lentO fs 0 H = L') (hv' : WViews L' (natAt fs) args args0)
    (hu : FUp (natAt fs) H0.length H.length 0 H0 H0' H H') (hres : Ren (fun l => (numF (natAt fs) H0.length H.length l, 0)) (fun _ => true) res0 res)
    (hkf : res0.kfree = true) (hkh : hkfree H0' = true) : ACall P G f args H res H' :=
  h.frameL fs hk hn ha hL hv' hargs hp hu hres hkf hkh

/-- The caller's heap as the callee's frame has it: the window, the named ones. -/
def maskW (fs : List Nat) (l : Nat) (seg : List AV) : Nat → Heap → Heap
  | _, [] => []
  | i, o :: H => (bif Nat.beq i l then some ⟨seg, false⟩ else bif memN i fs then o else none) :: maskW fs l seg (i + 1) H
theorem maskW_length {fs : List Nat} {l : Nat} {seg : List AV} : ∀ {H : Heap} {i : Nat}, (maskW fs l seg i H).length = H.length
  | [], _ => rfl
  | o :: H, i => by simp [maskW, maskW_length]
theorem maskW_get {fs : List Nat} {l : Nat} {seg : List AV} : ∀ {H : Heap} {i k : Nat}, k < H.length → Heap.get (maskW fs l seg i H) k = (if i + k = l then some ⟨seg, false⟩ else if memN (i + k) fs = true then H.get k else none)
  | [], _, _, h => by simp at h
  | o :: H, i, 0, _ => by
    simp only [maskW, Heap.get, Nat.add_zero]
    by_cases h : i = l
    · subst h; simp
    · have hb : Nat.beq i l = false := by rw [Bool.eq_false_iff]; intro e; exact h (Nat.eq_of_beq_eq_true e)
      rw [hb, if_neg h]
      cases memN i fs <;> simp
  | o :: H, i, k + 1, h => by
    simp only [maskW, Heap.get]
    rw [maskW_get (by simpa using h), show i + 1 + k = i + (k + 1) by omega]

/-- Of the result: what the frame speaks of. -/
def maskR (fs : List Nat) (h : Nat) : Nat → Heap → Heap
  | _, [] => []
  | i, o :: H => (bif Nat.ble h i || memN i fs then o else none) :: maskR fs h (i + 1) H
theorem maskR_length {fs : List Nat} {h : Nat} : ∀ {H : Heap} {i : Nat}, (maskR fs h i H).length = H.length
  | [], _ => rfl
  | o :: H, i => by simp [maskR, maskR_length]
theorem maskR_get {fs : List Nat} {h : Nat} : ∀ {H : Heap} {i k : Nat} {o : AObj}, Heap.get (maskR fs h i H) k = some o → H.get k = some o ∧ (h ≤ i + k ∨ memN (i + k) fs = true)
  | [], _, _, _, hh => by simp [maskR, Heap.get] at hh
  | x :: H, i, 0, o, hh => by
    simp only [maskR, Heap.get] at hh ⊢
    cases hb : (Nat.ble h i || memN i fs) with
    | false => rw [hb] at hh; simp at hh
    | true =>
      rw [hb] at hh
      refine ⟨by simpa using hh, ?_⟩
      simp only [Bool.or_eq_true, Nat.ble_eq] at hb
      simpa using hb
  | x :: H, i, k + 1, o, hh => by
    have := maskR_get (H := H) (i := i + 1) (k := k) (by simpa [maskR, Heap.get] using hh)
    rwa [show i + 1 + k = i + (k + 1) by omega] at this
theorem maskR_get' {fs : List Nat} {h : Nat} : ∀ {H : Heap} {i k : Nat} {o : AObj}, H.get k = some o → (h ≤ i + k ∨ memN (i + k) fs = true) → Heap.get (maskR fs h i H) k = some o
  | [], _, _, _, hh, _ => by simp [Heap.get] at hh
  | x :: H, i, 0, o, hh, hm => by
    simp only [maskR, Heap.get] at hh ⊢
    have hb : (Nat.ble h i || memN i fs) = true := by simp only [Bool.or_eq_true, Nat.ble_eq]; simpa using hm
    rw [hb]; simpa using hh
  | x :: H, i, k + 1, o, hh, hm => by
    simp only [maskR, Heap.get] at hh ⊢
    exact maskR_get' (H := H) (i := i + 1) (k := k) hh (by rwa [show i + 1 + k = i + (k + 1) by omega])

/-- The named objects without the window speak nothing of the big one. -/
inductive NoIds (l off : Nat) : Heap → List Nat → Prop
  | nil {H : Heap} : NoIds l off H []
  | cons {H : Heap} {k : Nat} {ks : List Nat} : (∀ o, H.get k = some o → Rens (shiftF l off) (shiftW l) o.cells o.cells) → NoIds l off H ks → NoIds l off H (k :: ks)
theorem NoIds.get {l off : Nat} {H : Heap} : ∀ {ks : List Nat} {k : Nat}, NoIds l off H ks → memN k ks = true → ∀ o, H.get k = some o → Rens (shiftF l off) (shiftW l) o.cells o.cells
  | _, _, .nil, h => by simp [memN] at h
  | k0 :: ks, k, .cons h1 h2, h => by
    simp only [memN, Bool.or_eq_true] at h
    rcases h with h | h
    · have : k = k0 := by simpa using h
      subst this; exact h1
    · exact NoIds.get h2 h
theorem NoIds.some {l off k : Nat} {H : Heap} {ks : List Nat} {cs : List AV} {b : Bool} (h : H.get k = Option.some ⟨cs, b⟩) (hr : Rens (shiftF l off) (shiftW l) cs cs) (ht : NoIds l off H ks) : NoIds l off H (k :: ks) :=
  .cons (fun o ho => by rw [h] at ho; cases ho; exact hr) ht
theorem NoIds.none {l off k : Nat} {H : Heap} {ks : List Nat} (h : H.get k = Option.none) (ht : NoIds l off H ks) : NoIds l off H (k :: ks) :=
  .cons (fun o ho => by rw [h] at ho; cases ho) ht

/-- From h on. -/
def upTo : Nat → Nat → List Nat
  | 0, _ => []
  | m + 1, h => h :: upTo m (h + 1)
theorem upTo_mem : ∀ {m h k : Nat}, h ≤ k → k < h + m → memN k (upTo m h) = true
  | 0, h, k, h1, h2 => by omega
  | m + 1, h, k, h1, h2 => by
    simp only [upTo, memN, Bool.or_eq_true]
    by_cases hk : k = h
    · subst hk; exact .inl (by simp)
    · exact .inr (upTo_mem (by omega) (by omega))

/-- The receiver is a pointer into the caller's object l, at off; the callee's first object is the window. -/
theorem ACall.frameP {f : FuncId} {args args0 : List AV} {res res0 : AV} {l off : Nat} {cells seg cs0 cs0' seg' : List AV} {b : Bool} {H0r H0r' : Heap} (fs : List Nat)
    (h : ACall P G f (.ptr 0 0 :: args0) (some ⟨cs0, false⟩ :: H0r) res0 (some ⟨cs0', false⟩ :: H0r')) (hk : fs.length = H0r.length)
    (hb : H.get l = some ⟨cells, b⟩) {c1 : List AV} (hc1 : dropO cells off = some c1) (hseg : takeO c1 cs0.length = some seg) (hpos : Nat.blt 0 cs0.length = true)
    (hr0 : Rens (fun k => (natAt (l :: fs) k, 0)) (fun _ => true) cs0 seg) (hl0 : AV.lims (H0r.length + 1) cs0 = true)
    (hv : Rens (fun k => (natAt (l :: fs) k, 0)) (fun _ => true) args0 args)
    (hp : FPre (natAt (l :: fs)) (H0r.length + 1) H 1 H0r)
    (hn : nodupN (l :: fs) = true) (ha : allLt H.length (l :: fs) = true) (hargs : AV.lims (H0r.length + 1) args0 = true)
    (hr0' : Rens (fun k => (numF (natAt (l :: fs)) (H0r.length + 1) H.length k, 0)) (fun _ => true) cs0' seg') (hlen' : cs0'.length = cs0.length)
    (hu : FUp (natAt (l :: fs)) (H0r.length + 1) H.length 1 H0r H0r' H H1)
    (hres : Ren (fun k => (numF (natAt (l :: fs)) (H0r.length + 1) H.length k, 0)) (fun _ => true) res0 res)
    (hna : Rens (shiftF l off) (shiftW l) args args) (hnr : Ren (shiftF l off) (shiftW l) res res) (hns : Rens (shiftF l off) (shiftW l) seg seg) (hns' : Rens (shiftF l off) (shiftW l) seg' seg')
    (hn0 : NoIds l off H fs) {up : List Nat} (hup : upTo (H1.length - H.length) H.length = up) (hn1 : NoIds l off H1 fs) (hn2 : NoIds l off H1 up)
    {cells' : List AV} (hsp : spliceO cells off seg' = some cells') (hH : setO H1 l (some ⟨cells', b⟩) = some H') : ACall P G f (.ptr l off :: args) H res H' := by
  obtain ⟨e1, hoff⟩ := dropO_eq hc1
  obtain ⟨e2, hlen⟩ := takeO_eq hseg
  have hsl : seg.length = cs0.length := by rw [e2, List.length_take]; omega
  have hfit : off + seg.length ≤ cells.length := by rw [e1, List.length_drop] at hlen; omega
  have hpos' : 0 < seg.length := by rw [hsl]; simpa using hpos
  have hsl' : seg'.length = seg.length := by rw [← hr0'.length, hlen', hsl]
  have hll := Heap.get_lt hb
  obtain ⟨esp, _⟩ := spliceO_eq hsp
  have eH := setO_eq hH

  have hs := FUp.spec hu (fun _ => by omega) (fun he => by subst he; simp at hk; subst hk; exact ⟨by simp, by simp⟩) (fun _ => rfl)
  obtain ⟨s1, s2, s3⟩ := hs
  have hl1 : H.length ≤ H1.length := by omega
  have hnl : memN l fs = false := by simp only [nodupN, Bool.and_eq_true, Bool.not_eq_true'] at hn; exact hn.1

  let Hm := maskW fs l seg 0 H
  let Hm' := maskR (l :: fs) H.length 0 (H1.set l (some ⟨seg', false⟩))
  have hmlen : Hm.length = H.length := maskW_length
  have hmlen' : Hm'.length = H1.length := by simp [Hm', maskR_length]
  have hmget : ∀ k, k < H.length → Hm.get k = (if k = l then some ⟨seg, false⟩ else if memN k fs = true then H.get k else none) := fun k hk => by
    have := maskW_get (fs := fs) (l := l) (seg := seg) (H := H) (i := 0) hk
    rwa [Nat.zero_add] at this
  have hml : Hm.get l = some ⟨seg, false⟩ := by rw [hmget l hll, if_pos rfl]
  have hmf : ∀ k, k < H.length → k ≠ l → memN k fs = true → Hm.get k = H.get k := fun k h1 h2 h3 => by rw [hmget k h1, if_neg h2, if_pos h3]
  have h0len : (some (⟨cs0, false⟩ : AObj) :: H0r).length = H0r.length + 1 := rfl
  have hat1 : ∀ i, i < fs.length → memN (natAt fs i) fs = true := fun i hi => memN_at hi
  have hatl : ∀ i, i < fs.length → natAt fs i ≠ l := fun i hi e => by have := hat1 i hi; rw [e, hnl] at this; cases this
  have hinj := nodupN_inj hn
  have hlt := allLt_at ha
  have hF : Frame (natAt (l :: fs)) (List.replicate H.length none) Hm (some ⟨cs0, false⟩ :: H0r) (some ⟨cs0', false⟩ :: H0r') Hm' := by
    refine ⟨fun i j hi hj => hinj i j (by simp at hi ⊢; omega) (by simp at hj ⊢; omega), fun i hi => by rw [hmlen]; exact hlt i (by simp at hi ⊢; omega), fun i o ho => ?_, fun k o ho => ?_, by rw [hmlen]; simp, fun p o' hp' => ?_, ?_, by simp; omega⟩
    · cases i with
      | zero =>
        simp only [Heap.get, Option.some.injEq] at ho
        subst ho
        exact ⟨_, hml, rfl, hl0, hr0⟩
      | succ i =>
        simp only [Heap.get] at ho
        have hi : i < fs.length := by have := Heap.get_lt ho; omega
        obtain ⟨o', q1, q2, q3, q4⟩ := hp.get ho
        rw [show 1 + i = i + 1 by omega] at q1
        refine ⟨o', ?_, q2, q3, q4⟩
        simp only [natAt] at q1 ⊢
        rw [hmf _ (Heap.get_lt q1) (hatl i hi) (hat1 i hi)]; exact q1
    · rw [get_rep] at ho; cases ho
    · obtain ⟨q1, q2⟩ := maskR_get hp'
      rw [Nat.zero_add] at q2
      rw [hmlen]
      rcases get_set_cases q1 with ⟨r1, r2⟩ | ⟨r1, r2⟩
      · cases r2
        refine .inr ⟨0, ⟨cs0', false⟩, by simp, ?_, rfl, rfl, hr0'⟩
        unfold numF
        rw [if_pos (by simp)]
        exact r1.symm
      · rcases s3 p o' r2 with ⟨t1, t2⟩ | ⟨i, o0', t1, t2, t3, t4⟩
        · have hpl := Heap.get_lt t1
          refine .inl ⟨hpl, ?_, fun i o0 hi => ?_⟩
          · rcases q2 with q2 | q2
            · omega
            · simp only [memN, Bool.or_eq_true] at q2
              rcases q2 with q2 | q2
              · exact absurd (by simpa using q2) r1
              · rw [hmf p hpl r1 q2]; exact t1
          · cases i with
            | zero => exact fun e => r1 e.symm
            | succ i => have := t2 i o0 (by simpa [Heap.get] using hi); rwa [show 1 + i = i + 1 by omega] at this
        · refine .inr ⟨i + 1, o0', by have := Heap.get_lt t1; simp; omega, ?_, by simpa [Heap.get] using t1, t3, t4⟩
          rw [show i + 1 = 1 + i by omega]; exact t2
    · rw [hmlen', hmlen]; simp only [List.length_cons]; omega
  have hw : ∀ {cs cs' : List AV}, Rens (fun k => (natAt (l :: fs) k, 0)) (fun _ => true) cs' cs → WViews (List.replicate H.length none) (natAt (l :: fs)) cs cs' := by
    intro cs
    induction cs with
    | nil => intro cs' h; cases h <;> exact .nil
    | cons c cs ih => intro cs' h; cases h with
      | same hs => exact .same hs
      | cons h1 h2 => exact .cons (.ren h1) (ih h2)
  have hnone : ∀ k, Heap.get (List.replicate H.length (none : Option AObj)) k = none := fun k => by
    rw [Heap.get_eq]
    cases hx : (List.replicate H.length (none : Option AObj))[k]? with
    | none => rfl
    | some y => rw [List.getElem?_replicate] at hx; split at hx <;> simp at hx; subst hx; rfl
  have hc : ACall P G f (.ptr l 0 :: args) Hm res Hm' :=
    h.frame (natAt (l :: fs)) _ hF (.cons (.ren (.ptr rfl rfl)) (hw hv)) (by simp only [AV.lims, AV.lim, Bool.and_eq_true]; exact ⟨by simp, hargs⟩) (by rw [hmlen]; exact hres) (.inl hnone)
  have hP : PartC l off cells seg seg' b H Hm Hm' H' := by
    refine ⟨hmlen, hb, hml, ?_, hpos', hfit, fun i c hc => ?_, hsl', hns, hns', fun k o hk ho => ?_, ?_, fun k o' ho => ?_⟩
    · refine maskR_get' (Heap.get_set_same (by omega)) (.inr ?_)
      simp [memN]
    · rw [e2, List.getElem?_take] at hc
      split at hc
      · rw [e1, List.getElem?_drop] at hc; exact hc
      · cases hc
    · have hkl : k < H.length := by have := Heap.get_lt ho; rwa [hmlen] at this
      rw [hmget k hkl, if_neg hk] at ho
      split at ho
      · rename_i hm; exact ⟨ho, hn0.get hm o ho⟩
      · cases ho
    · rw [eH, hmlen', List.length_set]
    · rw [eH] at ho
      rcases get_set_cases ho with ⟨r1, r2⟩ | ⟨r1, r2⟩
      · cases r2; exact .inl ⟨r1, by rw [esp]⟩
      · by_cases hin : H.length ≤ k ∨ memN k (l :: fs) = true
        · refine .inr (.inl ⟨r1, ?_, ?_⟩)
          · exact maskR_get' (by rw [Heap.get_set_ne (Ne.symm r1)]; exact r2) (by rwa [Nat.zero_add])
          · rcases hin with hin | hin
            · refine hn2.get ?_ o' r2
              rw [← hup]
              exact upTo_mem hin (by have := Heap.get_lt r2; omega)
            · simp only [memN, Bool.or_eq_true] at hin
              rcases hin with hin | hin
              · exact absurd (by simpa using hin) r1
              · exact hn1.get hin o' r2
        · have hkl : k < H.length := by
            rcases Nat.lt_or_ge k H.length with h | h
            · exact h
            · exact absurd (.inl h) hin
          have hkm : memN k fs = false := by
            cases hm : memN k fs with
            | false => rfl
            | true => exact absurd (.inr (by simp [memN, hm])) hin
          refine .inr (.inr ⟨r1, hkl, ?_, ?_⟩)
          · rw [hmget k hkl, if_neg r1, if_neg (by rw [hkm]; simp)]
          · rcases s3 k o' r2 with ⟨t1, _⟩ | ⟨i, o0', t1, t2, _⟩
            · exact t1
            · exfalso
              have hi := Heap.get_lt t1
              unfold numF at t2
              split at t2
              · rename_i hlt2
                have hi2 : i < fs.length := by omega
                rw [show 1 + i = i + 1 by omega] at t2
                simp only [natAt] at t2
                have := hat1 i hi2
                rw [t2, hkm] at this; cases this
              · omega
  refine hc.part hP (.cons (.ptr ?_ (Nat.add_zero _)) hna) (by
    rw [hmlen]
    simp only [AV.lims, AV.lim, Bool.and_eq_true]
    refine ⟨by simpa using hll, ?_⟩
    exact rens_lim (fun k hk => hlt k (by simp; omega)) hv hargs) hnr
  simp [shiftF]
end Go.Ax
namespace Go.Ax
variable {P : Program} {G K : Mem} {ρ : Place} {H H0 H0' H' H1 H2 L : Heap} {env : Env} {a : Act} {n : Nat}

/-- All objects are handed back. -/
theorem RetQ.full {T : Tab P} {rs : List ResultVar} {avs : List AV} {res : AV} {H2 : Heap} {e : Exit} (h0 : e = .normal ∨ e = .ret) (h1 : resAll T env H2 rs = some avs)
    (h2 : Sub (tupOf avs) res) (h4 : res.lim H2.length = true) (h5 : hlims H2.length H2 = true) : RetQ T rs res H2 e env H2 :=
  ⟨h0, avs, H2.length, h1, h2, by simp, Nat.le_refl _, h4, fun l o h => hlims_get h5 h⟩

theorem RetQ.fullE {T : Tab P} {rs : List ResultVar} {avs : List AV} {res : AV} {e : Exit} (h0 : e = .normal ∨ e = .ret) (h1 : resAll T env H2 rs = some avs)
    (h4 : res.lim H2.length = true) (h5 : hlims H2.length H2 = true) (h2 : Sub (tupOf avs) res) (he : H2 = H') : RetQ T rs res H' e env H2 := by
  subst he
  exact RetQ.full h0 h1 h2 h4 h5

/-- The first objects are handed back. -/
theorem RetQ.cutE {T : Tab P} {rs : List ResultVar} {avs : List AV} {res : AV} {e : Exit} (h0 : e = .normal ∨ e = .ret) (h1 : resAll T env H2 rs = some avs)
    (hm : Nat.ble H'.length H2.length = true) (h4 : res.lim H'.length = true) (h5 : hlims H'.length H' = true) (h2 : Sub (tupOf avs) res) (he : H2.take H'.length = H') : RetQ T rs res H' e env H2 :=
  ⟨h0, avs, H'.length, h1, h2, he, by simpa using hm, h4, fun l o h => hlims_get h5 h⟩

/-- The heap under other numbers: the object number i of H0 is the object fs[i] of H. -/
inductive HRen (f : Nat → Nat) (m : Nat) (H : Heap) : Nat → Heap → Prop
  | nil {l : Nat} : HRen f m H l []
  | none {l : Nat} {H0 : Heap} : HRen f m H (l + 1) H0 → HRen f m H l (none :: H0)
  | some {l : Nat} {cs cells : List AV} {b : Bool} {H0 : Heap} : H.get (f l) = Option.some ⟨cells, b⟩ → Rens (fun l => (f l, 0)) (fun _ => true) cs cells → AV.lims m cs = true → HRen f m H (l + 1) H0 → HRen f m H l (some ⟨cs, b⟩ :: H0)
theorem HRen.get {f : Nat → Nat} {m : Nat} {H : Heap} : ∀ {l i : Nat} {H0 : Heap} {o : AObj}, HRen f m H l H0 → H0.get i = Option.some o → ∃ o', H.get (f (l + i)) = Option.some o' ∧ o'.arr = o.arr ∧ AV.lims m o.cells = true ∧ Rens (fun l => (f l, 0)) (fun _ => true) o.cells o'.cells
  | _, _, _, _, .nil, h => by simp [Heap.get] at h
  | _, 0, _, _, .none _, h => by simp [Heap.get] at h
  | l, i + 1, _, _, .none hh, h => by
    have := HRen.get hh (i := i) (by simpa [Heap.get] using h)
    rwa [show l + 1 + i = l + (i + 1) by omega] at this
  | _, 0, _, _, .some h1 h2 h3 _, h => by
    simp only [Heap.get, Option.some.injEq] at h
    subst h
    exact ⟨_, h1, rfl, h3, h2⟩
  | l, i + 1, _, _, .some _ _ _ hh, h => by
    have := HRen.get hh (i := i) (by simpa [Heap.get] using h)
    rwa [show l + 1 + i = l + (i + 1) by omega] at this

def idUpto : Nat → Nat → List Nat → Bool
  | _, 0, _ => true
  | _, _ + 1, [] => false
  | i, b + 1, x :: xs => Nat.beq x i && idUpto (i + 1) b xs
theorem idUpto_at : ∀ {b i : Nat} {fs : List Nat}, idUpto i b fs = true → b ≤ fs.length ∧ ∀ l, l < b → natAt fs l = i + l
  | 0, i, fs, _ => ⟨Nat.zero_le _, fun l h => by omega⟩
  | b + 1, i, [], h => by simp [idUpto] at h
  | b + 1, i, x :: xs, h => by
    simp only [idUpto, Bool.and_eq_true] at h
    obtain ⟨h1, h2⟩ := idUpto_at h.2
    refine ⟨by simp; omega, fun l hl => ?_⟩
    cases l with
    | zero => simp only [natAt]; simpa using h.1
    | succ l => simp only [natAt]; rw [h2 l (by omega)]; omega

/-- The state's names: what E says is, under other numbers, in env. -/
inductive ERen (f : Nat → Nat) (m : Nat) (env : Env) : Env → Prop
  | nil : ERen f m env []
  | cons {t : Nat} {av av' : AV} {E : Env} : lookO env t = some av' → Ren (fun l => (f l, 0)) (fun _ => true) av av' → av.lim m = true → ERen f m env E → ERen f m env ((t, av) :: E)
theorem ERen.look {f : Nat → Nat} {m : Nat} {env : Env} : ∀ {E : Env}, ERen f m env E → ∀ t, look E t = .any ∨ ((look E t).lim m = true ∧ Ren (fun l => (f l, 0)) (fun _ => true) (look E t) (look env t))
  | _, .nil, t => .inl rfl
  | _, .cons (t := s) h1 h2 h3 h4, t => by
    simp only [Go.Ax.look]
    cases hb : Nat.beq s t with
    | true =>
      have : s = t := by simpa using hb
      subst this
      rw [lookO_eq h1]
      exact .inr ⟨h3, h2⟩
    | false => exact ERen.look h4 t

theorem FitsR.of {b : Nat} {E : Env} (fs : List Nat) (he : ERen (natAt fs) H0.length env E) (hh : HRen (natAt fs) H0.length H 0 H0) (hk : fs.length = H0.length) (hi : idUpto 0 b fs = true) (hn : nodupN fs = true) (ha : allLt H.length fs = true) : FitsR b E H0 env H := by
  obtain ⟨i1, i2⟩ := idUpto_at hi
  refine ⟨natAt fs, fun l hl => by rw [i2 l hl]; omega, fun l l' h h' => nodupN_inj hn l l' (by omega) (by omega), by omega, fun l hl => allLt_at ha l (by omega), he.look, fun l o ho => ?_⟩
  have := hh.get ho
  rw [Nat.zero_add] at this
  exact this

theorem ACall.renum {f : FuncId} {args : List AV} {res res0 : AV} (fs : List Nat) (h : ACall P G f args H res0 H2) (hi : idUpto 0 H.length fs = true) (hk : fs.length = H'.length) (hr : Ren (fun l => (natAt fs l, 0)) (fun _ => true) res res0) (hh : HRen (natAt fs) H'.length H2 0 H')
    (hn : nodupN fs = true) (ha : allLt H2.length fs = true) (hl : res.lim H'.length = true) : ACall P G f args H res H' := by
  refine ⟨h.fn, fun K ρ w vs g hl0 hrel => (h.run K ρ w vs g hl0 hrel).mono ?_⟩
  rintro e w' ⟨v, rfl, K', ρ', g', x', hr', hl'⟩
  obtain ⟨i1, i2⟩ := idUpto_at hi

  have hA : Along (fun l => (natAt fs l, 0)) (fun _ => true) (fun l => ρ' (natAt fs l)) ρ' := fun l => ⟨rfl, rfl, fun _ => rfl⟩
  have hfit : FitsR H.length [] H' [] H2 := FitsR.of fs .nil hh hk hi hn ha
  refine ⟨v, rfl, K', fun l => ρ' (natAt fs l), ?_, ?_, (ren_iff hA hr v).2 hr', hl⟩
  · refine ⟨g'.glob, g'.froz, fun l o ho => ?_, fun l l' o o' ho ho' hne => ?_⟩
    · obtain ⟨o', k1, k2, k3, k4⟩ := hh.get ho
      rw [Nat.zero_add] at k1
      rcases g'.obj _ o' k1 with hL | ⟨q1, q2, q3⟩
      · refine .inl ?_
        obtain ⟨row, t, fr, b1, b2, b3, b4, b5, b6, b7, b8⟩ := hL
        refine ⟨row, t, fr, b1, b2, b3, by rw [k4.length]; exact b4, b5, by rw [← k2]; exact b6, by rw [← k2, k4.length]; exact b7, fun i c hc => ?_⟩
        obtain ⟨c', j1, j2⟩ := k4.get hc
        obtain ⟨_, v, d2, d3, d4⟩ := b8 i c' j1
        exact ⟨lims_get k3 hc, v, d2, d3, (ren_iff hA j2 v).2 d4⟩
      · exact .inr ⟨by have := k4.length; rw [q1] at this; exact List.length_eq_zero_iff.1 this, by rw [← k2]; exact q2, q3⟩
    · obtain ⟨o1, k1, k2, _⟩ := hh.get ho
      obtain ⟨o2, j1, j2, _⟩ := hh.get ho'
      rw [Nat.zero_add] at k1 j1
      have := g'.apart _ _ o1 o2 k1 j1 (fun e => hne (nodupN_inj hn l l' (by have := Heap.get_lt ho; omega) (by have := Heap.get_lt ho'; omega) e))
      unfold Apart at this ⊢
      rw [← k2, ← j2]; exact this
  · have hf1 : ∀ l, l < H.length → natAt fs l = l := fun l hl => by rw [i2 l hl]; omega
    refine ⟨x'.fr, fun b hb => ?_, fun l hl => ?_, by omega, fun l o hl ho => ?_, fun l o hl ho => ?_⟩
    · rcases x'.old b hb with q | ⟨q0, l0, o0, q1, q2, q3, q4, q5⟩
      · exact .inl q
      · refine .inr ⟨q0, l0, o0, q1, q2, q3, q4, ?_⟩
        cases hx : H'.get l0 with
        | none => rfl
        | some o' =>
          obtain ⟨o1, k1, _⟩ := hh.get hx
          rw [Nat.zero_add, hf1 l0 (Heap.get_lt q1), q5] at k1; cases k1
    · show ρ' (natAt fs l) = ρ l
      rw [hf1 l hl]; exact x'.plc l hl
    · obtain ⟨o', k1, k2, _⟩ := hh.get ho
      rw [Nat.zero_add, hf1 l hl] at k1
      obtain ⟨o0, j1, j2⟩ := x'.live l o' hl k1
      exact ⟨o0, j1, j2.trans k2⟩
    · obtain ⟨o', k1, k2, _⟩ := hh.get ho
      rw [Nat.zero_add] at k1
      have hll := Heap.get_lt ho
      by_cases hlow : natAt fs l < H.length
      · have e1 := hf1 _ hlow
        have := nodupN_inj hn (natAt fs l) l (by omega) (by omega) e1
        omega
      · rcases x'.fresh _ o' (by omega) k1 with z | ⟨z1, z2⟩ | ⟨z1, l1, o1, z2, z3, z4, z5, z6⟩
        · exact .inl z
        · exact .inr (.inl ⟨by rw [← k2]; exact z1, z2⟩)
        · refine .inr (.inr ⟨by rw [← k2]; exact z1, l1, o1, z2, z3, ?_, z5, z6⟩)
          cases hx : H'.get l1 with
          | none => rfl
          | some o'' =>
            obtain ⟨o3, j1, _⟩ := hh.get hx
            rw [Nat.zero_add, hf1 l1 (Heap.get_lt z2), z4] at j1; cases j1
end Go.Ax
