/-
  The walk's simplifier: the laws of the book in the form in which a walk uses them.
-/
import Derived.Test.YtomidnkcohkhfaaGreatDoorK3
namespace Go.Ax

variable {P : Program} {G K : Mem} {ρ : Place} {H H' : Heap} {w w' : World} {env : Env} {a : Act} {n : Nat}

def tmpsOf : List Operand → List Nat
  | [] => []
  | .tmp t :: xs => t :: tmpsOf xs
  | _ :: xs => tmpsOf xs
/-- The temporaries that an operation looks at. -/
def readsOf (ops : List Oper) (o : Oper) : List Nat :=
  match o.guard with
  | some (j, _) => match opAt ops j with
    | some p => match p.dst with
      | some g => g :: tmpsOf o.op.operands.toList
      | none => tmpsOf o.op.operands.toList
    | none => tmpsOf o.op.operands.toList
  | none => tmpsOf o.op.operands.toList

/-- Of the environment only these. -/
def restr (env : Env) : List Nat → Env
  | [] => []
  | t :: ts => match lookO env t with
    | some v => (t, v) :: restr env ts
    | none => restr env ts

theorem look_any {env : Env} {t : Nat} (h : lookO env t = none) : look env t = .any := by
  induction env with
  | nil => rfl
  | cons p e ih =>
    obtain ⟨k, v⟩ := p
    simp only [lookO, look] at h ⊢
    cases hb : Nat.beq k t with
    | true => rw [hb] at h; simp at h
    | false => rw [hb] at h; exact ih h
theorem restr_look {env : Env} (t : Nat) : ∀ (ts : List Nat), look (restr env ts) t = .any ∨ (t ∈ ts ∧ look (restr env ts) t = look env t)
  | [] => .inl rfl
  | s :: ts => by
    simp only [restr]
    cases h : lookO env s with
    | none =>
      rcases restr_look t ts with h1 | ⟨h1, h2⟩
      · exact .inl h1
      · exact .inr ⟨by simp [h1], h2⟩
    | some v =>
      simp only [look]
      cases hb : Nat.beq s t with
      | true =>
        have : s = t := Nat.eq_of_beq_eq_true hb
        subst this
        exact .inr ⟨by simp, (lookO_eq h).symm⟩
      | false =>
        rcases restr_look t ts with h1 | ⟨h1, h2⟩
        · exact .inl h1
        · exact .inr ⟨by simp [h1], h2⟩
theorem EnvOk.restr {m : Nat} {ts : List Nat} (h : ∀ t ∈ ts, (look env t).lim m = true ∧ rel K ρ (look env t) (a.tmps.getD t undef)) : EnvOk K ρ m (restr env ts) a := fun t => by
  rcases restr_look (env := env) t ts with h1 | ⟨h1, h2⟩
  · rw [h1]; exact ⟨rfl, by simp [rel]⟩
  · rw [h2]; exact h t h1

def putE (d : Option Nat) (av : AV) (e : Env) : Env := match d with
  | some d => (d, av) :: e
  | none => e

/-- One result: is the heap as it was, the value, the heap behind it. -/
structure Res1 where
  quiet : Bool
  /-- quiet: new objects do not trouble it; loud: it makes new objects only -/
  flex : Bool
  /-- quiet, whatever the heap -/
  free : Bool
  av : AV
  heap : Heap

/-- The lexical run. -/
inductive Runs (P : Program) (G : Mem) (n : Nat) (ops : List Oper) : List Oper → Env → Heap → List Res1 → Env → Heap → Prop
  | nil {env : Env} {H : Heap} : Runs P G n ops [] env H [] env H
  | run {o : Oper} {rest : List Oper} {env env' : Env} {H H1 H' : Heap} {av : AV} {rs : List Res1} {q fx fr : Bool} :
      wantedB ops (restr env (readsOf ops o)) o.guard = some true → XOp P G (restr env (readsOf ops o)) H o av H1 → (∀ d, o.dst = some d → d < n) → (q = true → H1 = H) →
      (fx = true → (q = true → ∀ X, XOp P G (restr env (readsOf ops o)) (H ++ X) o av (H ++ X)) ∧ (q = false → ∃ X, H1 = H ++ X)) →
      (fr = true → q = true ∧ ∀ X, XOp P G (restr env (readsOf ops o)) X o av X) →
      Runs P G n ops rest (putE o.dst av env) H1 rs env' H' → Runs P G n ops (o :: rest) env H (⟨q, fx, fr, av, H1⟩ :: rs) env' H'
  | skip {o : Oper} {rest : List Oper} {env env' : Env} {H H' : Heap} {rs : List Res1} :
      wantedB ops (restr env (readsOf ops o)) o.guard = some false → (∀ d, o.dst = some d → d < n) →
      Runs P G n ops rest (putE o.dst (.val undef) env) H rs env' H' → Runs P G n ops (o :: rest) env H (⟨true, true, true, .val undef, H⟩ :: rs) env' H'

/-- What is in the temporaries when these have come. -/
def envS (L : Nat → Bool) : List Oper → List Res1 → Nat → Env → Env
  | o :: ops, r :: rs, i, e => envS L ops rs (i + 1) (if L i then putE o.dst r.av e else e)
  | _, _, _, e => e
/-- The heap when all before number h have come. -/
def heapS (h : Nat) : List Res1 → Nat → Heap → Heap
  | r :: rs, i, H => heapS h rs (i + 1) (if i < h then r.heap else H)
  | [], _, H => H

theorem look_putE {o : Option Nat} {av : AV} {e : Env} {t : Nat} : look (putE o av e) t = if o = some t then av else look e t := by
  cases o with
  | none => rfl
  | some d =>
    simp only [putE, look]
    cases hb : Nat.beq d t with
    | true => have := Nat.eq_of_beq_eq_true hb; subst this; simp
    | false => have := Nat.ne_of_beq_eq_false hb; simp [this]

theorem envS_congr {L L' : Nat → Bool} {t : Nat} : ∀ (ops : List Oper) (rs : List Res1) (i : Nat) (e e' : Env), look e t = look e' t →
    (∀ (j : Nat) o, ops[j]? = some o → o.dst = some t → L (i + j) = L' (i + j)) → look (envS L ops rs i e) t = look (envS L' ops rs i e') t
  | [], rs, i, e, e', h, _ => by simp [envS, h]
  | o :: ops, [], i, e, e', h, _ => by simp [envS, h]
  | o :: ops, r :: rs, i, e, e', h, hl => by
    simp only [envS]
    refine envS_congr ops rs (i + 1) _ _ ?_ (fun j o' hj hd => by
      have := hl (j + 1) o' (by simpa using hj) hd
      rwa [show i + (j + 1) = i + 1 + j by omega] at this)
    by_cases hd : o.dst = some t
    · have := hl 0 o rfl hd
      simp only [Nat.add_zero] at this
      rw [← this]
      split
      · rw [look_putE, look_putE, if_pos hd, if_pos hd]
      · exact h
    · split <;> split <;> first | exact h | (simp only [look_putE, if_neg hd]; exact h)

theorem envS_last {L : Nat → Bool} {t : Nat} : ∀ (ops : List Oper) (rs : List Res1) (i k : Nat) (e : Env) (o : Oper) (r : Res1), ops[k]? = some o → rs[k]? = some r → o.dst = some t → L (i + k) = true →
    (∀ (j : Nat) o', ops[j]? = some o' → k < j → o'.dst = some t → L (i + j) = false) → look (envS L ops rs i e) t = r.av
  | [], rs, i, k, e, o, r, h, _, _, _, _ => by simp at h
  | _ :: _, [], i, k, e, o, r, _, h, _, _, _ => by simp at h
  | o0 :: ops, r0 :: rs, i, 0, e, o, r, ho, hr, hd, hL, hn => by
    simp only [List.getElem?_cons_zero, Option.some.injEq] at ho hr
    subst ho hr
    simp only [envS]
    simp only [Nat.add_zero] at hL
    rw [if_pos hL]
    have := envS_congr (L := L) (L' := fun _ => false) ops rs (i + 1) (putE o0.dst r0.av e) (putE o0.dst r0.av e) (t := t) rfl (fun j o' hj hd' => by
      have := hn (j + 1) o' (by simpa using hj) (by omega) hd'
      rwa [show i + (j + 1) = i + 1 + j by omega] at this)
    rw [this]
    have hno : ∀ (ops : List Oper) (rs : List Res1) (i : Nat) (e : Env), envS (fun _ => false) ops rs i e = e := by
      intro ops
      induction ops with
      | nil => intro rs i e; simp [envS]
      | cons o ops ih => intro rs i e; cases rs with
        | nil => simp [envS]
        | cons r rs => simp [envS, ih]
    rw [hno, look_putE, if_pos hd]
  | o0 :: ops, r0 :: rs, i, k + 1, e, o, r, ho, hr, hd, hL, hn => by
    simp only [envS]
    exact envS_last ops rs (i + 1) k _ o r (by simpa using ho) (by simpa using hr) hd (by rwa [show i + 1 + k = i + (k + 1) by omega]) (fun j o' hj hkj hd' => by
      have := hn (j + 1) o' (by simpa using hj) (by omega) hd'
      rwa [show i + (j + 1) = i + 1 + j by omega] at this)

theorem envS_all {L : Nat → Bool} {os ops : List Oper} {rs : List Res1} {e e' : Env} {H H' : Heap} (hR : Runs P G n os ops e H rs e' H') : ∀ (i : Nat), (∀ (j : Nat), j < ops.length → L (i + j) = true) → envS L ops rs i e = e' := by
  induction hR with
  | nil => intro i _; simp [envS]
  | run _ _ _ _ _ _ _ ih =>
    intro i hL
    simp only [envS]
    have h0 := hL 0 (by simp)
    simp only [Nat.add_zero] at h0
    rw [if_pos h0]
    exact ih (i + 1) (fun j hj => by have := hL (j + 1) (by simp; omega); rwa [show i + (j + 1) = i + 1 + j by omega] at this)
  | skip _ _ _ ih =>
    intro i hL
    simp only [envS]
    have h0 := hL 0 (by simp)
    simp only [Nat.add_zero] at h0
    rw [if_pos h0]
    exact ih (i + 1) (fun j hj => by have := hL (j + 1) (by simp; omega); rwa [show i + (j + 1) = i + 1 + j by omega] at this)

theorem heapS_all {h : Nat} {os ops : List Oper} {rs : List Res1} {e e' : Env} {H H' : Heap} (hR : Runs P G n os ops e H rs e' H') : ∀ (i : Nat), i + ops.length ≤ h → heapS h rs i H = H' := by
  induction hR with
  | nil => intro i _; simp [heapS]
  | run _ _ _ _ _ _ _ ih =>
    intro i hL
    simp only [heapS]
    simp only [List.length_cons] at hL
    rw [if_pos (by omega)]
    exact ih (i + 1) (by omega)
  | skip _ _ _ ih =>
    intro i hL
    simp only [heapS]
    simp only [List.length_cons] at hL
    rw [if_pos (by omega)]
    exact ih (i + 1) (by omega)

theorem heapS_ge {h : Nat} : ∀ (rs : List Res1) (i : Nat) (H : Heap), h ≤ i → heapS h rs i H = H
  | [], _, _, _ => rfl
  | r :: rs, i, H, hi => by
    simp only [heapS]
    rw [if_neg (by omega)]
    exact heapS_ge rs (i + 1) H (by omega)

theorem envS_none {m : Nat} : ∀ (ops : List Oper) (rs : List Res1) (i : Nat) (e : Env), m ≤ i → envS (fun j => decide (j < m)) ops rs i e = e := by
  intro ops
  induction ops with
  | nil => intro rs i e _; simp [envS]
  | cons o ops ih => intro rs i e hm; cases rs with
    | nil => simp [envS]
    | cons r rs =>
      simp only [envS]
      rw [if_neg (by simp; omega)]
      exact ih rs (i + 1) e (by omega)

/-- What the run says of operation number k. -/
theorem Runs.at {os ops : List Oper} {rs : List Res1} {e e' : Env} {H H' : Heap} (hR : Runs P G n os ops e H rs e' H') : ∀ (i k : Nat) (o : Oper), ops[k]? = some o →
    ∃ r, rs[k]? = some r ∧ (∀ d, o.dst = some d → d < n) ∧ (r.quiet = true → r.heap = heapS (i + k) rs i H) ∧ heapS (i + k + 1) rs i H = r.heap ∧
      ((wantedB os (restr (envS (fun j => decide (j < i + k)) ops rs i e) (readsOf os o)) o.guard = some true ∧ XOp P G (restr (envS (fun j => decide (j < i + k)) ops rs i e) (readsOf os o)) (heapS (i + k) rs i H) o r.av r.heap) ∨
       (wantedB os (restr (envS (fun j => decide (j < i + k)) ops rs i e) (readsOf os o)) o.guard = some false ∧ r.av = .val undef ∧ r.heap = heapS (i + k) rs i H)) := by
  induction hR with
  | nil => intro i k o ho; simp at ho
  | @run o0 rest env env' H H1 H' av rs q fx fr h1 h2 h3 h4 hfx hfr h5 ih =>
    intro i k o ho
    cases k with
    | zero =>
      simp only [List.getElem?_cons_zero, Option.some.injEq] at ho
      subst ho
      have e0 : envS (fun j => decide (j < i + 0)) (o0 :: rest) (⟨q, fx, fr, av, H1⟩ :: rs) i env = env := envS_none _ _ _ _ (by omega)
      have hh : heapS (i + 0) (⟨q, fx, fr, av, H1⟩ :: rs) i H = H := heapS_ge _ _ _ (by omega)
      have hh1 : heapS (i + 0 + 1) (⟨q, fx, fr, av, H1⟩ :: rs) i H = H1 := by
        simp only [heapS]
        rw [if_pos (by omega)]
        exact heapS_ge _ _ _ (by omega)
      rw [e0, hh, hh1]
      exact ⟨_, rfl, h3, h4, rfl, .inl ⟨h1, h2⟩⟩
    | succ k =>
      obtain ⟨r, k1, k2, k3, k4, k5⟩ := ih (i + 1) k o (by simpa using ho)
      have ea : i + (k + 1) = i + 1 + k := by omega
      have e0 : envS (fun j => decide (j < i + (k + 1))) (o0 :: rest) (⟨q, fx, fr, av, H1⟩ :: rs) i env = envS (fun j => decide (j < i + 1 + k)) rest rs (i + 1) (putE o0.dst av env) := by
        simp only [envS]
        rw [if_pos (by simp), ea]
      have hh : ∀ m, heapS (i + 1 + m) (⟨q, fx, fr, av, H1⟩ :: rs) i H = heapS (i + 1 + m) rs (i + 1) H1 := fun m => by
        simp only [heapS]
        rw [if_pos (by omega)]
      refine ⟨r, by simpa using k1, k2, ?_, ?_, ?_⟩
      · rw [ea, hh]; exact k3
      · rw [ea, show i + 1 + k + 1 = i + 1 + (k + 1) by omega, hh]; exact k4
      · rw [e0, ea, hh]; exact k5
  | @skip o0 rest env env' H H' rs h1 h2 h3 ih =>
    intro i k o ho
    cases k with
    | zero =>
      simp only [List.getElem?_cons_zero, Option.some.injEq] at ho
      subst ho
      have e0 : envS (fun j => decide (j < i + 0)) (o0 :: rest) (⟨true, true, true, .val undef, H⟩ :: rs) i env = env := envS_none _ _ _ _ (by omega)
      have hh : heapS (i + 0) (⟨true, true, true, .val undef, H⟩ :: rs) i H = H := heapS_ge _ _ _ (by omega)
      have hh1 : heapS (i + 0 + 1) (⟨true, true, true, .val undef, H⟩ :: rs) i H = H := by
        simp only [heapS]
        rw [if_pos (by omega)]
        exact heapS_ge _ _ _ (by omega)
      rw [e0, hh, hh1]
      exact ⟨_, rfl, h2, fun _ => rfl, rfl, .inr ⟨h1, rfl, rfl⟩⟩
    | succ k =>
      obtain ⟨r, k1, k2, k3, k4, k5⟩ := ih (i + 1) k o (by simpa using ho)
      have ea : i + (k + 1) = i + 1 + k := by omega
      have e0 : envS (fun j => decide (j < i + (k + 1))) (o0 :: rest) (⟨true, true, true, .val undef, H⟩ :: rs) i env = envS (fun j => decide (j < i + 1 + k)) rest rs (i + 1) (putE o0.dst (.val undef) env) := by
        simp only [envS]
        rw [if_pos (by simp), ea]
      have hh : ∀ m, heapS (i + 1 + m) (⟨true, true, true, .val undef, H⟩ :: rs) i H = heapS (i + 1 + m) rs (i + 1) H := fun m => by
        simp only [heapS]
        rw [if_pos (by omega)]
      refine ⟨r, by simpa using k1, k2, ?_, ?_, ?_⟩
      · rw [ea, hh]; exact k3
      · rw [ea, show i + 1 + k + 1 = i + 1 + (k + 1) by omega, hh]; exact k4
      · rw [e0, ea, hh]; exact k5

/-- .. and of new objects. -/
theorem Runs.atX {os ops : List Oper} {rs : List Res1} {e e' : Env} {H H' : Heap} (hR : Runs P G n os ops e H rs e' H') : ∀ (i k : Nat) (o : Oper) (r : Res1), ops[k]? = some o → rs[k]? = some r → r.flex = true →
    (r.quiet = true → wantedB os (restr (envS (fun j => decide (j < i + k)) ops rs i e) (readsOf os o)) o.guard = some true → ∀ X, XOp P G (restr (envS (fun j => decide (j < i + k)) ops rs i e) (readsOf os o)) (heapS (i + k) rs i H ++ X) o r.av (heapS (i + k) rs i H ++ X)) ∧
    (r.quiet = false → ∃ X, r.heap = heapS (i + k) rs i H ++ X) := by
  induction hR with
  | nil => intro i k o r ho; simp at ho
  | @run o0 rest env env' H H1 H' av rs q fx fr h1 h2 h3 h4 hfx hfr h5 ih =>
    intro i k o r ho hr hf
    cases k with
    | zero =>
      simp only [List.getElem?_cons_zero, Option.some.injEq] at ho hr
      subst ho hr
      have e0 : envS (fun j => decide (j < i + 0)) (o0 :: rest) (⟨q, fx, fr, av, H1⟩ :: rs) i env = env := envS_none _ _ _ _ (by omega)
      have hh : heapS (i + 0) (⟨q, fx, fr, av, H1⟩ :: rs) i H = H := heapS_ge _ _ _ (by omega)
      rw [e0, hh]
      exact ⟨fun hq _ => (hfx hf).1 hq, (hfx hf).2⟩
    | succ k =>
      have ea : i + (k + 1) = i + 1 + k := by omega
      have e0 : envS (fun j => decide (j < i + (k + 1))) (o0 :: rest) (⟨q, fx, fr, av, H1⟩ :: rs) i env = envS (fun j => decide (j < i + 1 + k)) rest rs (i + 1) (putE o0.dst av env) := by
        simp only [envS]
        rw [if_pos (by simp), ea]
      have hh : ∀ m, heapS (i + 1 + m) (⟨q, fx, fr, av, H1⟩ :: rs) i H = heapS (i + 1 + m) rs (i + 1) H1 := fun m => by
        simp only [heapS]
        rw [if_pos (by omega)]
      rw [e0, ea, hh]
      exact ih (i + 1) k o r (by simpa using ho) (by simpa using hr) hf
  | @skip o0 rest env env' H H' rs h1 h2 h3 ih =>
    intro i k o r ho hr hf
    cases k with
    | zero =>
      simp only [List.getElem?_cons_zero, Option.some.injEq] at ho hr
      subst ho hr
      have e0 : envS (fun j => decide (j < i + 0)) (o0 :: rest) (⟨true, true, true, .val undef, H⟩ :: rs) i env = env := envS_none _ _ _ _ (by omega)
      rw [e0]
      exact ⟨fun _ hw => by (rw [h1] at hw; cases hw), fun h => by cases h⟩
    | succ k =>
      have ea : i + (k + 1) = i + 1 + k := by omega
      have e0 : envS (fun j => decide (j < i + (k + 1))) (o0 :: rest) (⟨true, true, true, .val undef, H⟩ :: rs) i env = envS (fun j => decide (j < i + 1 + k)) rest rs (i + 1) (putE o0.dst (.val undef) env) := by
        simp only [envS]
        rw [if_pos (by simp), ea]
      have hh : ∀ m, heapS (i + 1 + m) (⟨true, true, true, .val undef, H⟩ :: rs) i H = heapS (i + 1 + m) rs (i + 1) H := fun m => by
        simp only [heapS]
        rw [if_pos (by omega)]
      rw [e0, ea, hh]
      exact ih (i + 1) k o r (by simpa using ho) (by simpa using hr) hf

/-- .. and of every heap. -/
theorem Runs.atF {os ops : List Oper} {rs : List Res1} {e e' : Env} {H H' : Heap} (hR : Runs P G n os ops e H rs e' H') : ∀ (i k : Nat) (o : Oper) (r : Res1), ops[k]? = some o → rs[k]? = some r → r.free = true →
    wantedB os (restr (envS (fun j => decide (j < i + k)) ops rs i e) (readsOf os o)) o.guard = some true → ∀ X, XOp P G (restr (envS (fun j => decide (j < i + k)) ops rs i e) (readsOf os o)) X o r.av X := by
  induction hR with
  | nil => intro i k o r ho; simp at ho
  | @run o0 rest env env' H H1 H' av rs q fx fr h1 h2 h3 h4 hfx hfr h5 ih =>
    intro i k o r ho hr hf
    cases k with
    | zero =>
      simp only [List.getElem?_cons_zero, Option.some.injEq] at ho hr
      subst ho hr
      have e0 : envS (fun j => decide (j < i + 0)) (o0 :: rest) (⟨q, fx, fr, av, H1⟩ :: rs) i env = env := envS_none _ _ _ _ (by omega)
      rw [e0]
      exact fun _ => (hfr hf).2
    | succ k =>
      have ea : i + (k + 1) = i + 1 + k := by omega
      have e0 : envS (fun j => decide (j < i + (k + 1))) (o0 :: rest) (⟨q, fx, fr, av, H1⟩ :: rs) i env = envS (fun j => decide (j < i + 1 + k)) rest rs (i + 1) (putE o0.dst av env) := by
        simp only [envS]
        rw [if_pos (by simp), ea]
      rw [e0]
      exact ih (i + 1) k o r (by simpa using ho) (by simpa using hr) hf
  | @skip o0 rest env env' H H' rs h1 h2 h3 ih =>
    intro i k o r ho hr hf
    cases k with
    | zero =>
      simp only [List.getElem?_cons_zero, Option.some.injEq] at ho hr
      subst ho hr
      have e0 : envS (fun j => decide (j < i + 0)) (o0 :: rest) (⟨true, true, true, .val undef, H⟩ :: rs) i env = env := envS_none _ _ _ _ (by omega)
      rw [e0]
      exact fun hw => by rw [h1] at hw; cases hw
    | succ k =>
      have ea : i + (k + 1) = i + 1 + k := by omega
      have e0 : envS (fun j => decide (j < i + (k + 1))) (o0 :: rest) (⟨true, true, true, .val undef, H⟩ :: rs) i env = envS (fun j => decide (j < i + 1 + k)) rest rs (i + 1) (putE o0.dst (.val undef) env) := by
        simp only [envS]
        rw [if_pos (by simp), ea]
      rw [e0]
      exact ih (i + 1) k o r (by simpa using ho) (by simpa using hr) hf

theorem heapS_congr {h h' : Nat} : ∀ (rs : List Res1) (k : Nat) (X : Heap), (∀ j, j < rs.length → (k + j < h ↔ k + j < h')) → heapS h rs k X = heapS h' rs k X
  | [], _, _, _ => rfl
  | r :: rs, k, X, hq => by
    simp only [heapS]
    have h0 := hq 0 (by simp)
    simp only [Nat.add_zero] at h0
    have : (if k < h then r.heap else X) = (if k < h' then r.heap else X) := by
      by_cases hk : k < h'
      · rw [if_pos hk, if_pos (h0.2 hk)]
      · rw [if_neg hk, if_neg (fun hh => hk (h0.1 hh))]
    rw [this]
    exact heapS_congr rs (k + 1) _ (fun j hj => by have := hq (j + 1) (by simp; omega); rwa [show k + (j + 1) = k + 1 + j by omega] at this)

theorem Runs.len {os ops : List Oper} {rs : List Res1} {e e' : Env} {H H' : Heap} (hR : Runs P G n os ops e H rs e' H') : rs.length = ops.length := by
  induction hR with
  | nil => rfl
  | run _ _ _ _ _ _ _ ih => simp [ih]
  | skip _ _ _ ih => simp [ih]

theorem heapS_run {os ops : List Oper} {rs : List Res1} {e e' : Env} {H H' : Heap} (hR : Runs P G n os ops e H rs e' H') (p : Nat) : ∀ (q : Nat), p ≤ q → q ≤ ops.length → (∀ (j : Nat) r, p ≤ j → j < q → rs[j]? = some r → r.quiet = true) → heapS q rs 0 H = heapS p rs 0 H := by
  intro q
  induction q with
  | zero => intro h1 _ _; rw [show p = 0 by omega]
  | succ q ih =>
    intro h1 h2 h3
    by_cases hpq : p = q + 1
    · rw [hpq]
    · obtain ⟨r, k1, _, k3, k4, _⟩ := hR.at 0 q ops[q] (List.getElem?_eq_getElem (by omega))
      simp only [Nat.zero_add] at k3 k4
      rw [k4, k3 (h3 q r (by omega) (by omega) k1)]
      exact ih (by omega) (by omega) (fun j r hj hj2 hr => h3 j r hj (by omega) hr)

theorem heapS_quiet {os ops : List Oper} {rs : List Res1} {e e' : Env} {H H' : Heap} (hR : Runs P G n os ops e H rs e' H') {p q : Nat} (h : ∀ (j : Nat) r, rs[j]? = some r → r.quiet = false → (j < p ↔ j < q)) : heapS p rs 0 H = heapS q rs 0 H := by
  have hl := hR.len
  have hmin : ∀ m, heapS m rs 0 H = heapS (min m ops.length) rs 0 H := fun m => heapS_congr rs 0 H (fun j hj => by rw [Nat.zero_add]; omega)
  have hall : ∀ (j : Nat) r, rs[j]? = some r → (j < p ∧ q ≤ j) ∨ (j < q ∧ p ≤ j) → r.quiet = true := fun j r hr hj => by
    cases hq : r.quiet with
    | true => rfl
    | false => have := h j r hr hq; omega
  rw [hmin p, hmin q]
  rcases Nat.le_total (min p ops.length) (min q ops.length) with hle | hle
  · exact (heapS_run hR _ _ hle (Nat.min_le_right _ _) (fun j r hj1 hj2 hr => hall j r hr (by have := (List.getElem?_eq_some_iff.1 hr).1; omega))).symm
  · exact heapS_run hR _ _ hle (Nat.min_le_right _ _) (fun j r hj1 hj2 hr => hall j r hr (by have := (List.getElem?_eq_some_iff.1 hr).1; omega))

theorem heapS_ext {os ops : List Oper} {rs : List Res1} {e e' : Env} {H H' : Heap} (hR : Runs P G n os ops e H rs e' H') (p : Nat) : ∀ (q : Nat), p ≤ q → (∀ (j : Nat) r, p ≤ j → j < q → rs[j]? = some r → r.quiet = false → r.flex = true) → ∃ X, heapS q rs 0 H = heapS p rs 0 H ++ X := by
  intro q
  induction q with
  | zero => intro h _; have : p = 0 := by omega
            subst this; exact ⟨[], by simp⟩
  | succ q ih =>
    intro h hf
    by_cases hpq : p = q + 1
    · subst hpq; exact ⟨[], by simp⟩
    · obtain ⟨X, hX⟩ := ih (by omega) (fun j r h1 h2 h3 h4 => hf j r h1 (by omega) h3 h4)
      by_cases hq : q < ops.length
      · obtain ⟨r, k1, _, k3, k4, _⟩ := hR.at 0 q ops[q] (List.getElem?_eq_getElem hq)
        simp only [Nat.zero_add] at k3 k4
        cases hqr : r.quiet with
        | true => exact ⟨X, by rw [k4, k3 hqr, hX]⟩
        | false =>
          obtain ⟨Y, hY⟩ := (hR.atX 0 q ops[q] r (List.getElem?_eq_getElem hq) k1 (hf q r (by omega) (by omega) k1 hqr)).2 hqr
          simp only [Nat.zero_add] at hY
          exact ⟨X ++ Y, by rw [k4, hY, hX, List.append_assoc]⟩
      · refine ⟨X, ?_⟩
        rw [← hX]
        exact heapS_congr rs 0 H (fun j hj => by have := hR.len; omega)

/-! ## the check of the edges -/
def dep (o : Oper) (j : Nat) : Bool := o.after.toList.any fun e => Region.binds .any e && Nat.beq e.on j
/-- Number i comes before o, by some steps. -/
def befB (ops : List Oper) : Nat → Oper → Nat → Bool
  | 0, _, _ => false
  | f + 1, o, i => dep o i || o.after.toList.any fun e => Region.binds .any e && (match opAt ops e.on with | some p => befB ops f p i | none => false)
def memB (t : Nat) : List Nat → Bool
  | [] => false
  | s :: ts => Nat.beq s t || memB t ts
def dstIn (o : Oper) (ts : List Nat) : Bool := match o.dst with
  | some d => memB d ts
  | none => false
def sameDst (o p : Oper) : Bool := match o.dst, p.dst with
  | some d, some e => Nat.beq d e
  | _, _ => false
/-- Pairs i < j. -/
def pairB (ops : List Oper) (o p : Oper) (i : Nat) (qo qp : Bool × Bool × Bool) : Bool :=
  (!(dstIn o (readsOf ops p)) || dep p i) && (!(dstIn p (readsOf ops o)) || dep p i) && (!(sameDst o p) || dep p i) && ((qo.1 && qp.1) || (qo.1 && qo.2.1 && !qp.1 && qp.2.1) || (qo.1 && qo.2.2) || befB ops ops.length p i)
def edgesB (o : Oper) (j : Nat) : Bool := o.after.toList.all fun e => !(Region.binds .any e) || Nat.blt e.on j
def rowB (ops : List Oper) (p : Oper) (qp : Bool × Bool × Bool) : List Oper → List (Bool × Bool × Bool) → Nat → Nat → Bool
  | _, _, _, 0 => true
  | o :: l, q :: qs, i, k + 1 => pairB ops o p i q qp && rowB ops p qp l qs (i + 1) k
  | _, _, _, _ + 1 => false
def chkB (ops : List Oper) (qs : List (Bool × Bool × Bool)) : List Oper → List (Bool × Bool × Bool) → Nat → Bool
  | [], [], _ => true
  | p :: l, qp :: ql, j => edgesB p j && rowB ops p qp ops qs 0 j && chkB ops qs l ql (j + 1)
  | _, _, _ => false


theorem memB_iff {t : Nat} : ∀ {ts : List Nat}, memB t ts = true ↔ t ∈ ts
  | [] => by simp [memB]
  | s :: ts => by
    simp only [memB, Bool.or_eq_true, List.mem_cons, memB_iff (ts := ts)]
    constructor
    · rintro (h | h)
      · exact .inl (Nat.eq_of_beq_eq_true h).symm
      · exact .inr h
    · rintro (h | h)
      · subst h; exact .inl (by simp)
      · exact .inr h

theorem rowB_spec {ops : List Oper} {p : Oper} {qp : Bool × Bool × Bool} : ∀ {l : List Oper} {qs : List (Bool × Bool × Bool)} {i k : Nat}, rowB ops p qp l qs i k = true → ∀ (m : Nat), m < k → ∃ o q, l[m]? = some o ∧ qs[m]? = some q ∧ pairB ops o p (i + m) q qp = true
  | _, _, _, 0, _, m, hm => by omega
  | [], qs, i, k + 1, h, m, _ => by simp [rowB] at h
  | o :: l, [], i, k + 1, h, m, _ => by simp [rowB] at h
  | o :: l, q :: qs, i, k + 1, h, m, hm => by
    simp only [rowB, Bool.and_eq_true] at h
    cases m with
    | zero => exact ⟨o, q, rfl, rfl, by simpa using h.1⟩
    | succ m =>
      obtain ⟨o', q', h1, h2, h3⟩ := rowB_spec h.2 m (by omega)
      exact ⟨o', q', by simpa using h1, by simpa using h2, by rwa [show i + (m + 1) = i + 1 + m by omega]⟩

theorem chkB_spec {ops : List Oper} {qs : List (Bool × Bool × Bool)} : ∀ {l : List Oper} {ql : List (Bool × Bool × Bool)} {j : Nat}, chkB ops qs l ql j = true → ∀ (m : Nat) p q, l[m]? = some p → ql[m]? = some q → edgesB p (j + m) = true ∧ rowB ops p q ops qs 0 (j + m) = true
  | [], [], _, _, m, p, q, h, _ => by simp at h
  | [], _ :: _, _, h, _, _, _, _, _ => by simp [chkB] at h
  | _ :: _, [], _, h, _, _, _, _, _ => by simp [chkB] at h
  | p :: l, qp :: ql, j, h, m, p', q', hp, hq => by
    simp only [chkB, Bool.and_eq_true] at h
    cases m with
    | zero =>
      simp only [List.getElem?_cons_zero, Option.some.injEq] at hp hq
      subst hp hq
      exact h.1
    | succ m =>
      have := chkB_spec h.2 m p' q' (by simpa using hp) (by simpa using hq)
      rwa [show j + 1 + m = j + (m + 1) by omega] at this

/-- i < j : what the check says. -/
theorem chk_pair {ops : List Oper} {qs : List (Bool × Bool × Bool)} (h : chkB ops qs ops qs 0 = true) {i j : Nat} (hij : i < j) {o p : Oper} {qo qp : Bool × Bool × Bool} (ho : ops[i]? = some o) (hp : ops[j]? = some p) (hqo : qs[i]? = some qo) (hqp : qs[j]? = some qp) : pairB ops o p i qo qp = true := by
  obtain ⟨_, h2⟩ := chkB_spec h j p qp hp hqp
  rw [Nat.zero_add] at h2
  obtain ⟨o', q', k1, k2, k3⟩ := rowB_spec h2 i hij
  rw [ho] at k1; rw [hqo] at k2
  cases k1; cases k2
  rwa [Nat.zero_add] at k3
theorem chk_edges {ops : List Oper} {qs : List (Bool × Bool × Bool)} (h : chkB ops qs ops qs 0 = true) {j : Nat} {p : Oper} {qp : Bool × Bool × Bool} (hp : ops[j]? = some p) (hqp : qs[j]? = some qp) : ∀ e ∈ p.after, Region.binds .any e = true → e.on < j := by
  obtain ⟨h1, _⟩ := chkB_spec h j p qp hp hqp
  rw [Nat.zero_add] at h1
  intro e he hb
  have := List.all_eq_true.1 h1 e (by simpa using he)
  simpa [hb] using this

theorem dep_spec {o : Oper} {j : Nat} (h : dep o j = true) : ∃ e ∈ o.after, Region.binds .any e = true ∧ e.on = j := by
  unfold dep at h
  obtain ⟨e, he, hb⟩ := List.any_eq_true.1 h
  simp only [Bool.and_eq_true] at hb
  exact ⟨e, by simpa using he, hb.1, Nat.eq_of_beq_eq_true hb.2⟩

/-- All that has come is closed under the edges. -/
def Closed (ops : List Oper) (listed : Array Bool) : Prop := ∀ (j : Nat) oj, ops[j]? = some oj → listed.getD j false = true → ∀ e ∈ oj.after, Region.binds .any e = true → listed.getD e.on false = true

theorem bef_listed {ops : List Oper} {listed : Array Bool} (hc : Closed ops listed) : ∀ (f : Nat) (o : Oper) (i : Nat), befB ops f o i = true → (∀ e ∈ o.after, Region.binds .any e = true → listed.getD e.on false = true) → listed.getD i false = true
  | 0, _, _, h, _ => by simp [befB] at h
  | f + 1, o, i, h, hall => by
    simp only [befB, Bool.or_eq_true] at h
    rcases h with h | h
    · obtain ⟨e, he, hb, hon⟩ := dep_spec h
      rw [← hon]; exact hall e he hb
    · obtain ⟨e, he, hb⟩ := List.any_eq_true.1 h
      simp only [Bool.and_eq_true] at hb
      have he' : e ∈ o.after := by simpa using he
      have hl := hall e he' hb.1
      cases hp : opAt ops e.on with
      | none => rw [hp] at hb; simp at hb
      | some p =>
        rw [hp] at hb
        exact bef_listed hc f p i hb.2 (fun e2 he2 hb2 => hc e.on p (by rw [← opAt_eq]; exact hp) hl e2 he2 hb2)


theorem EnvOk.look_eq {m : Nat} {env' : Env} (h : EnvOk K ρ m env a) (he : ∀ t, look env' t = look env t) : EnvOk K ρ m env' a := fun t => by rw [he]; exact h t

theorem wanted_reads {ops : List Oper} {o : Oper} {m : Nat} {b : Bool} (h : wantedB ops (restr env (readsOf ops o)) o.guard = some b) (he : EnvOk K ρ m (restr env (readsOf ops o)) a) : Region.wanted o (yielded ⟨ops⟩ a.tmps) = b := wanted_of h he

theorem W.draw {id : Nat} {ops : List Oper} {rs : List Res1} {env' : Env} {Q : Post} (hm : P.follows .mixedOrders = true) (hR : Runs P G n ops ops env H rs env' H') (hc : chkB ops (rs.map (fun r => (r.quiet, r.flex, r.free))) ops (rs.map (fun r => (r.quiet, r.flex, r.free))) 0 = true)
    (h : Q .normal env' H') : W P G n (.region id ⟨ops⟩ true) env H Q := by
  refine ⟨fun K ρ w a g he hs hd => ?_⟩
  refine wp_region_any hm ?_
  have hlen := hR.len

  have main : ∀ (fuel : Nat) (listed : Array Bool) (a1 : Act) (w1 : World) (hp : Nat) (K1 : Mem) (ρ1 : Place), listed.size = ops.length → Closed ops listed →
      (∃ U : List Nat, U.length = fuel ∧ ∀ j, j < ops.length → listed.getD j false = false → j ∈ U) →
      (∀ (j : Nat) r, rs[j]? = some r → r.quiet = false → (listed.getD j false = true ↔ j < hp)) →
      Good G K1 ρ1 (heapS hp rs 0 H) w1 → EnvOk K1 ρ1 (heapS hp rs 0 H).length (envS (fun j => listed.getD j false) ops rs 0 env) a1 → a1.tmps.size = n → a1.defers = [] → Ext K ρ H w K1 ρ1 (heapS hp rs 0 H) w1 →
      wpAny P .any ⟨ops⟩ (WPost G K ρ H w n Q) fuel listed a1 w1 := by
    intro fuel

    have fin : ∀ (listed : Array Bool) (a1 : Act) (w1 : World) (hp : Nat) (K1 : Mem) (ρ1 : Place), (∀ j, j < ops.length → listed.getD j false = true) →
        (∀ (j : Nat) r, rs[j]? = some r → r.quiet = false → (listed.getD j false = true ↔ j < hp)) →
        Good G K1 ρ1 (heapS hp rs 0 H) w1 → EnvOk K1 ρ1 (heapS hp rs 0 H).length (envS (fun j => listed.getD j false) ops rs 0 env) a1 → a1.tmps.size = n → a1.defers = [] → Ext K ρ H w K1 ρ1 (heapS hp rs 0 H) w1 → WPost G K ρ H w n Q .normal a1 w1 := by
      intro listed a1 w1 hp K1 ρ1 hall hpt g1 he1 hs1 hd1 x1
      have e1 : envS (fun j => listed.getD j false) ops rs 0 env = env' := envS_all hR 0 (fun j hj => by rw [Nat.zero_add]; exact hall j hj)
      have e2 : heapS hp rs 0 H = H' := by
        rw [← heapS_all hR (h := ops.length) 0 (by omega)]
        have : ∀ (l : List Oper) (rl : List Res1) (e : Env) (X : Heap) (e' : Env) (X' : Heap) (i : Nat), Runs P G n ops l e X rl e' X' → (∀ (j : Nat) r, rl[j]? = some r → r.quiet = false → i + j < hp) → i + rl.length ≤ ops.length → heapS hp rl i X = heapS ops.length rl i X := by
          intro l rl e X e' X' i hR'
          induction hR' generalizing i with
          | nil => intro _ _; rfl
          | @run o0 rest env env' X X1 X' av rl q fx fr h1 h2 h3 h4 hfx hfr h5 ih =>
            intro hq hl
            simp only [List.length_cons] at hl
            simp only [heapS]
            rw [if_pos (show i < ops.length by omega)]
            have : (if i < hp then X1 else X) = X1 := by
              split
              · rfl
              · cases q with
                | true => exact (h4 rfl).symm
                | false =>
                  have := hq 0 ⟨false, fx, fr, av, X1⟩ rfl rfl
                  omega
            rw [this]
            exact ih (i + 1) (fun j r hj hr => by have := hq (j + 1) r (by simpa using hj) hr; omega) (by omega)
          | @skip o0 rest env env' X X' rl h1 h2 h3 ih =>
            intro hq hl
            simp only [List.length_cons] at hl
            simp only [heapS]
            rw [if_pos (show i < ops.length by omega)]
            have : (if i < hp then X else X) = X := by split <;> rfl
            rw [this]
            exact ih (i + 1) (fun j r hj hr => by have := hq (j + 1) r (by simpa using hj) hr; omega) (by omega)
        refine this ops rs env H env' H' 0 hR (fun j r hj hr => ?_) (by omega)
        rw [Nat.zero_add]
        exact (hpt j r hj hr).1 (hall j (by rw [← hlen]; exact (List.getElem?_eq_some_iff.1 hj).1))
      rw [e1, e2] at he1
      rw [e2] at g1 x1
      exact ⟨env', H', K1, ρ1, h, g1, he1, hs1, hd1, x1⟩

    have rdy : ∀ (listed : Array Bool), listed.size = ops.length → Region.ready .any ⟨ops⟩ listed = [] → ∀ j, j < ops.length → listed.getD j false = true := by
      intro listed hsz hr j
      induction j using Nat.strongRecOn with
      | _ j ih =>
        intro hj
        cases hl : listed.getD j false with
        | true => rfl
        | false =>
          have hj' : j < listed.size := by omega
          have ho : ops[j]? = some ops[j] := List.getElem?_eq_getElem hj
          obtain ⟨r, hr1⟩ : ∃ r, rs[j]? = some r := ⟨rs[j]'(by omega), List.getElem?_eq_getElem (by omega)⟩
          have : j ∈ Region.ready .any ⟨ops⟩ listed := mem_ready.2 ⟨by simp [hj'] at hl ⊢; exact hl, ops[j], by simp, fun e he hb => ?_⟩
          · rw [hr] at this; cases this
          · have hlt := chk_edges hc ho (qp := (r.quiet, r.flex, r.free)) (by simp [hr1]) e he hb
            exact ih e.on hlt (by omega)
    induction fuel with
    | zero =>
      intro listed a1 w1 hp K1 ρ1 hsz hcl hU hpt g1 he1 hs1 hd1 x1
      obtain ⟨U, hU1, hU2⟩ := hU
      have hU0 : U = [] := List.length_eq_zero_iff.1 hU1
      have hall : ∀ j, j < ops.length → listed.getD j false = true := fun j hj => by
        cases hl : listed.getD j false with
        | true => rfl
        | false => have := hU2 j hj hl; rw [hU0] at this; cases this
      refine ⟨?_, fin listed a1 w1 hp K1 ρ1 hall hpt g1 he1 hs1 hd1 x1⟩
      cases hr : Region.ready .any ⟨ops⟩ listed with
      | nil => rfl
      | cons i l =>
        have hi : i ∈ Region.ready .any ⟨ops⟩ listed := by rw [hr]; simp
        obtain ⟨h1, o, ho, _⟩ := mem_ready.1 hi
        have hlt : i < ops.length := by
          have := (Array.getElem?_eq_some_iff.1 ho).1; simpa using this
        have := hall i hlt
        have hi' : i < listed.size := by omega
        simp [hi'] at h1 this
        rw [this] at h1; cases h1
    | succ fuel ihf =>
      intro listed a1 w1 hp K1 ρ1 hsz hcl hU hpt g1 he1 hs1 hd1 x1
      refine ⟨fun hr => fin listed a1 w1 hp K1 ρ1 (rdy listed hsz hr) hpt g1 he1 hs1 hd1 x1, fun i hi => ?_⟩
      obtain ⟨h1, o, ho, hall⟩ := mem_ready.1 hi
      have hio : ops[i]? = some o := by simpa using ho
      have hlt : i < ops.length := (List.getElem?_eq_some_iff.1 hio).1
      have hil : i < listed.size := by omega
      have hunl : listed.getD i false = false := by simp [hil] at h1 ⊢; exact h1
      obtain ⟨r, hri, hdn, hq1, hq2, hx⟩ := hR.at 0 i o hio
      simp only [Nat.zero_add] at hq1 hq2 hx

      have other : ∀ (j : Nat) oj, ops[j]? = some oj → ∃ rj, rs[j]? = some rj := fun j oj hj => by
        have : j < rs.length := by rw [hlen]; exact (List.getElem?_eq_some_iff.1 hj).1
        exact ⟨rs[j], List.getElem?_eq_getElem this⟩
      have depl : ∀ j, dep o j = true → listed.getD j false = true := fun j hj => by
        obtain ⟨e, he, hb, hon⟩ := dep_spec hj
        rw [← hon]; exact hall e he hb
      have unl : ∀ (j : Nat) oj, ops[j]? = some oj → dep oj i = true → listed.getD j false = false := fun j oj hj hdj => by
        cases hl : listed.getD j false with
        | false => rfl
        | true =>
          obtain ⟨e, he, hb, hon⟩ := dep_spec hdj
          have := hcl j oj hj hl e he hb
          rw [hon, hunl] at this; cases this

      have hreads : ∀ t, t ∈ readsOf ops o → look (envS (fun j => listed.getD j false) ops rs 0 env) t = look (envS (fun j => decide (j < i)) ops rs 0 env) t := fun t ht => by
        refine envS_congr ops rs 0 env env rfl (fun j oj hj hdj => ?_)
        rw [Nat.zero_add]
        obtain ⟨rj, hrj⟩ := other j oj hj
        rcases Nat.lt_trichotomy j i with hji | hji | hji
        · have hp1 := chk_pair hc hji hj hio (qo := (rj.quiet, rj.flex, rj.free)) (qp := (r.quiet, r.flex, r.free)) (by simp [hrj]) (by simp [hri])
          simp only [pairB, Bool.and_eq_true, Bool.or_eq_true, Bool.not_eq_true'] at hp1
          have hin : dstIn oj (readsOf ops o) = true := by simp [dstIn, hdj, memB_iff, ht]
          rcases hp1.1.1.1 with hh | hh
          · rw [hin] at hh; cases hh
          · rw [depl j hh]; simp [hji]
        · subst hji; rw [hunl]; simp
        · have hp1 := chk_pair hc hji hio hj (qo := (r.quiet, r.flex, r.free)) (qp := (rj.quiet, rj.flex, rj.free)) (by simp [hri]) (by simp [hrj])
          simp only [pairB, Bool.and_eq_true, Bool.or_eq_true, Bool.not_eq_true'] at hp1
          have hin : dstIn oj (readsOf ops o) = true := by simp [dstIn, hdj, memB_iff, ht]
          rcases hp1.1.1.2 with hh | hh
          · rw [hin] at hh; cases hh
          · rw [unl j oj hj hh]; simp; omega

      have hbef : ∀ (j : Nat) rj, rs[j]? = some rj → rj.quiet = false → j < i → listed.getD j false = true := fun j rj hrj hqj hji => by
        have hj : j < ops.length := by rw [← hlen]; exact (List.getElem?_eq_some_iff.1 hrj).1
        have hjo : ops[j]? = some ops[j] := List.getElem?_eq_getElem hj
        have hp1 := chk_pair hc hji hjo hio (qo := (rj.quiet, rj.flex, rj.free)) (qp := (r.quiet, r.flex, r.free)) (by simp [hrj]) (by simp [hri])
        simp only [pairB, Bool.and_eq_true, Bool.or_eq_true, hqj, Bool.false_and, Bool.false_eq_true, false_or] at hp1
        exact bef_listed hcl _ o j hp1.2 hall
      have haft : ∀ (j : Nat) rj, rs[j]? = some rj → rj.quiet = false → i < j → listed.getD j false = true → (r.quiet = true ∧ r.flex = true ∧ rj.flex = true) ∨ (r.quiet = true ∧ r.free = true) := fun j rj hrj hqj hji hl => by
        have hj : j < ops.length := by rw [← hlen]; exact (List.getElem?_eq_some_iff.1 hrj).1
        have hjo : ops[j]? = some ops[j] := List.getElem?_eq_getElem hj
        have hp1 := chk_pair hc hji hio hjo (qo := (r.quiet, r.flex, r.free)) (qp := (rj.quiet, rj.flex, rj.free)) (by simp [hri]) (by simp [hrj])
        simp only [pairB, Bool.and_eq_true, Bool.or_eq_true, hqj, Bool.and_false, Bool.false_eq_true, false_or] at hp1
        rcases hp1.2 with (⟨⟨⟨z1, z2⟩, _⟩, z3⟩ | z4) | hb
        · exact .inl ⟨z1, z2, z3⟩
        · exact .inr z4
        · have := bef_listed hcl _ ops[j] i hb (fun e he hb => hcl j _ hjo hl e he hb)
          rw [hunl] at this; cases this
      have hheapX : (r.quiet = true ∧ r.free = true) ∨ ∃ X, heapS hp rs 0 H = heapS i rs 0 H ++ X ∧ (X = [] ∨ (r.quiet = true ∧ r.flex = true)) := by
        by_cases hfr : r.quiet = true ∧ r.free = true
        · exact .inl hfr
        have haft : ∀ (j : Nat) rj, rs[j]? = some rj → rj.quiet = false → i < j → listed.getD j false = true → r.quiet = true ∧ r.flex = true ∧ rj.flex = true := fun j rj h1 h2 h3 h4 => (haft j rj h1 h2 h3 h4).resolve_right hfr
        refine .inr ?_
        by_cases hfx : (r.quiet = true ∧ r.flex = true) ∧ i < hp
        · obtain ⟨X, hX⟩ := heapS_ext hR i hp (by omega) (fun j rj h1 h2 hrj hqj => by
            have hl := (hpt j rj hrj hqj).2 h2
            rcases Nat.lt_or_eq_of_le h1 with h | h
            · exact (haft j rj hrj hqj h hl).2.2
            · subst h; rw [hunl] at hl; cases hl)
          exact ⟨X, hX, .inr hfx.1⟩
        · refine ⟨[], ?_, .inl rfl⟩
          rw [List.append_nil]
          refine heapS_quiet hR (fun j rj hrj hqj => ?_)
          rw [← hpt j rj hrj hqj]
          rcases Nat.lt_trichotomy j i with hji | hji | hji
          · simp [hbef j rj hrj hqj hji, hji]
          · subst hji; simp [hunl]
          · constructor
            · intro hl
              obtain ⟨z1, z2, _⟩ := haft j rj hrj hqj hji hl
              have := (hpt j rj hrj hqj).1 hl
              exact absurd ⟨⟨z1, z2⟩, by omega⟩ hfx
            · intro hh; omega
      have hheap : r.quiet = false → heapS hp rs 0 H = heapS i rs 0 H := fun hq => by
        rcases hheapX with h | ⟨X, hheapE, hXq⟩
        · rw [hq] at h; cases h.1
        rcases hXq with h | h
        · rw [hheapE, h, List.append_nil]
        · rw [hq] at h; cases h.1

      have next : ∀ (Hn : Heap), (r.quiet = true → Hn = heapS hp rs 0 H) → (r.quiet = false → Hn = r.heap) → ∀ (K2 : Mem) (ρ2 : Place) (w2 : World) (a2 : Act), Good G K2 ρ2 Hn w2 → EnvOk K2 ρ2 Hn.length (putE o.dst r.av (envS (fun j => listed.getD j false) ops rs 0 env)) a2 → a2.tmps.size = n → a2.defers = [] →
          Ext K ρ H w K2 ρ2 Hn w2 → wpAny P .any ⟨ops⟩ (WPost G K ρ H w n Q) fuel (listed.setIfInBounds i true) a2 w2 := by
        intro Hn hn1 hn2 K2 ρ2 w2 a2 g2 he2 hs2 hd2 x2
        have getset : ∀ j, (listed.setIfInBounds i true).getD j false = if j = i then true else listed.getD j false := fun j => by
          by_cases hji : j = i
          · subst hji; simp [hil]
          · rw [if_neg hji, getD_set_ne false (Ne.symm hji)]
        have hheap2 : ∃ hp2, heapS hp2 rs 0 H = Hn ∧ ∀ (j : Nat) rj, rs[j]? = some rj → rj.quiet = false → ((listed.setIfInBounds i true).getD j false = true ↔ j < hp2) := by
          cases hqr : r.quiet with
          | true =>
            refine ⟨hp, (hn1 hqr).symm, fun j rj hrj hqj => ?_⟩
            rw [getset]
            have hji : j ≠ i := fun e => by subst e; rw [hri] at hrj; cases hrj; rw [hqr] at hqj; cases hqj
            rw [if_neg hji]; exact hpt j rj hrj hqj
          | false =>
            refine ⟨i + 1, by rw [hn2 hqr]; exact hq2, fun j rj hrj hqj => ?_⟩
            rw [getset]
            have hj : j < ops.length := by rw [← hlen]; exact (List.getElem?_eq_some_iff.1 hrj).1
            have hjo : ops[j]? = some ops[j] := List.getElem?_eq_getElem hj
            rcases Nat.lt_trichotomy j i with hji | hji | hji
            · rw [if_neg (by omega)]; simp [hbef j rj hrj hqj hji]; omega
            · subst hji; simp
            · rw [if_neg (by omega)]
              constructor
              · intro hl
                rcases haft j rj hrj hqj hji hl with ⟨z1, _⟩ | ⟨z1, _⟩
                · rw [hqr] at z1; cases z1
                · rw [hqr] at z1; cases z1
              · intro hh; omega
        obtain ⟨hp2, hp2h, hp2l⟩ := hheap2
        rw [← hp2h] at g2 he2 x2
        refine ihf (listed.setIfInBounds i true) a2 w2 hp2 K2 ρ2 (by simpa using hsz) ?_ ?_ hp2l g2 ?_ hs2 hd2 x2
        · intro j oj hj hl e he hb
          rw [getset] at hl ⊢
          split
          · rfl
          · by_cases hji : j = i
            · subst hji; rw [hio] at hj; cases hj; exact hall e he hb
            · rw [if_neg hji] at hl; exact hcl j oj hj hl e he hb
        · obtain ⟨U, hU1, hU2⟩ := hU
          refine ⟨U.erase i, ?_, fun j hj hl => ?_⟩
          · rw [List.length_erase_of_mem (hU2 i hlt hunl), hU1]; rfl
          · rw [getset] at hl
            by_cases hji : j = i
            · rw [if_pos hji] at hl; cases hl
            · rw [if_neg hji] at hl
              exact (List.mem_erase_of_ne hji).2 (hU2 j hj hl)
        · refine he2.look_eq (fun t => ?_)
          rw [look_putE]
          by_cases hdt : o.dst = some t
          · rw [if_pos hdt]
            refine envS_last ops rs 0 i env o r hio hri hdt (by rw [Nat.zero_add, getset, if_pos rfl]) (fun j oj hj hij hdj => ?_)
            rw [Nat.zero_add, getset, if_neg (by omega)]
            obtain ⟨rj, hrj⟩ := other j oj hj
            have hp1 := chk_pair hc hij hio hj (qo := (r.quiet, r.flex, r.free)) (qp := (rj.quiet, rj.flex, rj.free)) (by simp [hri]) (by simp [hrj])
            simp only [pairB, Bool.and_eq_true, Bool.or_eq_true, Bool.not_eq_true'] at hp1
            rcases hp1.1.2 with hh | hh
            · simp [sameDst, hdt, hdj] at hh
            · exact unl j oj hj hh
          · rw [if_neg hdt]
            refine envS_congr ops rs 0 env env rfl (fun j oj hj hdj => ?_)
            rw [Nat.zero_add, getset]
            have hji : j ≠ i := fun e => by subst e; rw [hio] at hj; cases hj; exact hdt hdj
            rw [if_neg hji]

      have heR : EnvOk K1 ρ1 (heapS hp rs 0 H).length (restr (envS (fun j => decide (j < i)) ops rs 0 env) (readsOf ops o)) a1 := by
        refine EnvOk.restr (fun t ht => ?_)
        rw [← hreads t ht]
        exact he1 t
      unfold wpOp
      simp only [ho]
      rcases hx with ⟨hw1, hxo⟩ | ⟨hw1, hav, hhp⟩
      · simp only [wanted_of hw1 heR, if_true]
        have go : ∀ Hn, (r.quiet = true → Hn = heapS hp rs 0 H) → (r.quiet = false → Hn = r.heap) → XOp P G (restr (envS (fun j => decide (j < i)) ops rs 0 env) (readsOf ops o)) (heapS hp rs 0 H) o r.av Hn →
            o.wp P a1 w1 (wpAny P .any ⟨ops⟩ (WPost G K ρ H w n Q) fuel (listed.setIfInBounds i true)) (WPost G K ρ H w n Q) := by
          intro Hn q1 q2 hxn
          refine XUpon.wp ((hxn.run K1 ρ1 w1 a1 g1 heR).mono ?_)
          rintro v w2 ⟨K2, ρ2, g2, x2, hr2, hl2⟩
          refine next Hn q1 q2 K2 ρ2 w2 _ g2 ?_ (by cases o.dst <;> simp [Act.put, hs1]) (by cases o.dst <;> simp [Act.put, hd1]) ((x1.trans g g1 x2))
          have hem := he1.mono (x2.le g1) (fun l hl => x2.plc l hl) x2.len
          cases hdo : o.dst with
          | none => simpa [putE, Act.put] using hem
          | some d0 => exact hem.put (by rw [hs1]; exact hdn d0 hdo) hl2 hr2
        refine .inl ?_
        cases hqr : r.quiet with
        | false => exact go r.heap (fun h => by rw [hqr] at h; cases h) (fun _ => rfl) (by rw [hheap hqr]; exact hxo)
        | true =>
          refine go (heapS hp rs 0 H) (fun _ => rfl) (fun h => by rw [hqr] at h; cases h) ?_
          rcases hheapX with ⟨_, h⟩ | ⟨X, hheapE, hXq⟩
          · have := hR.atF 0 i o r hio hri h (by simpa only [Nat.zero_add] using hw1) (heapS hp rs 0 H)
            simpa only [Nat.zero_add] using this
          rcases hXq with h | ⟨_, h⟩
          · rw [hheapE, h, List.append_nil]
            rw [hq1 hqr] at hxo; exact hxo
          · have := (hR.atX 0 i o r hio hri h).1 hqr (by simpa only [Nat.zero_add] using hw1) X
            simp only [Nat.zero_add] at this
            rw [hheapE]; exact this
      · simp only [wanted_of hw1 heR, Bool.false_eq_true, if_false]
        have hnn : (if r.quiet = true then heapS hp rs 0 H else r.heap) = heapS hp rs 0 H := by
          split
          · rfl
          · rename_i hq; rw [hhp, hheap (by simpa using hq)]
        refine next (heapS hp rs 0 H) (fun _ => rfl) (fun hq => by rw [hhp, hheap hq]) K1 ρ1 w1 _ g1 ?_ (by cases o.dst <;> simp [Act.put, hs1]) (by cases o.dst <;> simp [Act.put, hd1]) x1
        rw [hav]
        cases hdo : o.dst with
        | none => simpa [putE, Act.put] using he1
        | some d0 => exact he1.put (by rw [hs1]; exact hdn d0 hdo) rfl (by simp [rel])
  have g0 : Good G K ρ H { w with drawn := w.drawn + 1 } := g.alike ⟨rfl, rfl, rfl, rfl⟩
  have hz : ∀ m j, (Array.replicate m false).getD j false = false := fun m j => by
    rcases Nat.lt_or_ge j m with h | h <;> simp [h]
  have e0 : envS (fun j => (Array.replicate ops.length false).getD j false) ops rs 0 env = env := by
    have : ∀ (l : List Oper) (rl : List Res1) (i : Nat) (e : Env), envS (fun j => (Array.replicate ops.length false).getD j false) l rl i e = e := by
      intro l
      induction l with
      | nil => intro rl i e; simp [envS]
      | cons o l ih => intro rl i e; cases rl with
        | nil => simp [envS]
        | cons r rl =>
          simp only [envS]
          rw [if_neg (by rw [hz]; simp)]
          exact ih rl (i + 1) e
    exact this ops rs 0 env
  have := main ops.length (Array.replicate ops.length false) a { w with drawn := w.drawn + 1 } 0 K ρ (by simp) (fun j oj _ hl => by rw [hz] at hl; cases hl)
    ⟨List.range ops.length, by simp, fun j hj _ => by simp [hj]⟩ (fun j r _ _ => by rw [hz]; simp)
    (by rw [heapS_ge rs 0 H (Nat.le_refl _)]; exact g0) (by rw [heapS_ge rs 0 H (Nat.le_refl _), e0]; exact he) hs hd (by rw [heapS_ge rs 0 H (Nat.le_refl _)]; exact Ext.alike ⟨rfl, rfl, rfl, rfl⟩)
  exact this

theorem take_left_heap (H X : Heap) : (H ++ X).take H.length = H := by simp

/-- What an operation does over some objects it does beside more of them. -/
theorem XPost.frame {X : Heap} {av : AV} {v : Value} (g : Good G K ρ (H ++ X) w) (h : XPost G K ρ H w av H v w') : XPost G K ρ (H ++ X) w av (H ++ X) v w' := by
  obtain ⟨K', ρ', g', x', hr, hl⟩ := h
  have hlen : H.length ≤ (H ++ X).length := by simp
  have hgetl : ∀ l o, H.get l = some o → Heap.get (H ++ X) l = some o := fun l o ho => by rw [Heap.get_append_left (Heap.get_lt ho)]; exact ho
  have hρ : ∀ l, l < H.length → ρ l = ρ' l := fun l hl => (x'.plc l hl).symm
  have hown : ∀ b i, own ρ H b i → own ρ (H ++ X) b i := fun b i ⟨l, o, q1, q2⟩ => ⟨l, o, hgetl l o q1, q2⟩
  have hle : K.le K' := fun b row hb => by
    have hbs : b < w.heap.size := g.klt hb
    rcases x'.old b hbs with q | ⟨q, _⟩
    · rw [q]; exact hb
    · rw [q] at hb; cases hb
  have hold : ∀ b, b < w.heap.size → K' b = K b := fun b hb => by
    rcases x'.old b hb with q | ⟨_, l, o, q1, _, _, _, q2⟩
    · exact q
    · rw [q1] at q2; cases q2
  refine ⟨K', ρ, ⟨g'.glob, g'.froz, fun l o ho => ?_, g.apart⟩, ⟨x'.fr.weaken (fun b i _ hh => hown b i hh), fun b hb => .inl (hold b hb), fun _ _ => rfl, Nat.le_refl _, fun l o _ ho => ⟨o, ho, rfl⟩, fun l o hl ho => absurd (Heap.get_lt ho) (by omega)⟩, rel_mono (fun _ _ h => h) hρ av v hl hr, AV.lim_mono hlen av hl⟩
  by_cases hll : l < H.length
  · rw [Heap.get_append_left hll] at ho
    have hg := g'.obj l o ho
    rw [← hρ l hll] at hg
    refine hg.imp (fun hL => ?_) id
    obtain ⟨row, t, fr, h1, h2, h3, h4, h5, h6, h7, h8⟩ := hL
    refine ⟨row, t, fr, h1, h2, h3, h4, h5, h6, h7, fun i c hc => ?_⟩
    obtain ⟨k1, u, k2, k3, k4⟩ := h8 i c hc
    exact ⟨AV.lim_mono hlen c k1, u, k2, k3, rel_mono (fun _ _ h => h) hρ c u k1 k4⟩
  · refine (g.obj l o ho).imp (fun hL => ?_) id
    have hbs := hL.lt
    obtain ⟨row, t, fr, h1, h2, h3, h4, h5, h6, h7, h8⟩ := hL
    obtain ⟨row', p1, p2, p3⟩ := x'.fr.part _ _ _ _ h1
    refine ⟨row', t, fr, p1, by intro i hi; rw [p2] at hi; exact h2 i hi, by rw [hold _ hbs]; exact h3, h4, by rw [p2]; exact h5, by rw [p2]; exact h6, h7, fun i c hc => ?_⟩
    obtain ⟨k1, u, k2, k3, k4⟩ := h8 i c hc
    have hi : i < o.cells.length := (List.getElem?_eq_some_iff.1 hc).1
    refine ⟨k1, u, ?_, k3, rel_mono hle (fun _ _ => rfl) c u k1 k4⟩
    rw [p3 _ ?_]; exact k2
    rintro ⟨l0, o0, q1, q2, q3, q4⟩
    have hl0 := Heap.get_lt q1
    rcases g.apart l l0 o o0 ho (hgetl l0 o0 q1) (by omega) with ⟨_, z⟩ | ⟨_, z⟩ | z | ⟨z1, _, z⟩
    · omega
    · omega
    · exact z q2.symm
    · have := h7 z1; omega

def hlims (m : Nat) : Heap → Bool
  | [] => true
  | none :: H => hlims m H
  | some ⟨cs, _⟩ :: H => AV.lims m cs && hlims m H
theorem hlims_get {m : Nat} : ∀ {H : Heap} {l : Nat} {o : AObj}, hlims m H = true → H.get l = some o → AV.lims m o.cells = true
  | [], _, _, _, h => by simp [Heap.get] at h
  | none :: H, 0, _, _, h => by simp [Heap.get] at h
  | none :: H, l + 1, _, hk, h => hlims_get (H := H) hk (by simpa [Heap.get] using h)
  | some ⟨cs, _⟩ :: H, 0, _, hk, h => by simp only [hlims, Bool.and_eq_true] at hk; simp only [Heap.get, Option.some.injEq] at h; subst h; exact hk.1
  | some ⟨cs, _⟩ :: H, l + 1, _, hk, h => by simp only [hlims, Bool.and_eq_true] at hk; exact hlims_get (H := H) hk.2 (by simpa [Heap.get] using h)
def elims (m : Nat) : Env → Bool
  | [] => true
  | (_, v) :: e => v.lim m && elims m e
theorem elims_look {m : Nat} : ∀ {e : Env}, elims m e = true → ∀ t, (look e t).lim m = true
  | [], _, t => rfl
  | (k, v) :: e, h, t => by
    simp only [elims, Bool.and_eq_true] at h
    simp only [look]
    cases Nat.beq k t with
    | true => exact h.1
    | false => exact elims_look h.2 t

theorem XOp.frame {X : Heap} {o : Oper} {av : AV} (h : XOp P G env H o av H) (hh : hlims H.length H = true) (hl : ∀ t, (look env t).lim H.length = true) : XOp P G env (H ++ X) o av (H ++ X) := by
  refine ⟨fun K ρ w a g he => ?_⟩
  have g0 : Good G K ρ H w := by
    have hc : ∀ l o, Heap.get ((H ++ X).take H.length) l = some o → AV.lims H.length o.cells = true := fun l o ho => by
      rw [take_left_heap] at ho
      exact hlims_get hh ho
    have := g.take (m := H.length) (by simp) hc
    rwa [take_left_heap] at this
  exact (h.run K ρ w a g0 (fun t => ⟨hl t, (he t).2⟩)).mono fun v w' hx => hx.frame g
/-- The lexical run, and what follows. -/
structure Wd (P : Program) (G : Mem) (n : Nat) (ops l : List Oper) (env : Env) (H : Heap) (Φ : List (Bool × Bool × Bool) → Env → Heap → Prop) : Prop where
  out : ∃ rs env' H', Runs P G n ops l env H rs env' H' ∧ Φ (rs.map (fun r => (r.quiet, r.flex, r.free))) env' H'

variable {ops rest : List Oper} {o : Oper} {av : AV} {d : Nat} {Φ : List (Bool × Bool × Bool) → Env → Heap → Prop}
theorem Wd.nil (h : Φ [] env H) : Wd P G n ops [] env H Φ := ⟨[], env, H, .nil, h⟩
theorem Wd.cons (hx : XOp P G (restr env (readsOf ops o)) H o av H) (hg : wantedB ops (restr env (readsOf ops o)) o.guard = some true) (hd : o.dst = some d) (hn : Nat.blt d n = true)
    (h : Wd P G n ops rest ((d, av) :: env) H (fun qs => Φ ((true, false, false) :: qs))) : Wd P G n ops (o :: rest) env H Φ := by
  obtain ⟨rs, env', H', h1, h2⟩ := h.out
  exact ⟨⟨true, false, false, av, H⟩ :: rs, env', H', .run hg hx (fun d' hd' => by rw [hd] at hd'; cases hd'; simpa using hn) (fun _ => rfl) (fun h => by cases h) (fun h => by cases h) (by rw [hd]; exact h1), h2⟩
theorem Wd.skip (hg : wantedB ops (restr env (readsOf ops o)) o.guard = some false) (hd : o.dst = some d) (hn : Nat.blt d n = true)
    (h : Wd P G n ops rest ((d, .val undef) :: env) H (fun qs => Φ ((true, true, true) :: qs))) : Wd P G n ops (o :: rest) env H Φ := by
  obtain ⟨rs, env', H', h1, h2⟩ := h.out
  exact ⟨⟨true, true, true, .val undef, H⟩ :: rs, env', H', .skip hg (fun d' hd' => by rw [hd] at hd'; cases hd'; simpa using hn) (by rw [hd]; exact h1), h2⟩
/-- One that changes the heap. -/
theorem Wd.loud {H1 : Heap} (hx : XOp P G (restr env (readsOf ops o)) H o av H1) (hg : wantedB ops (restr env (readsOf ops o)) o.guard = some true) (hd : o.dst = some d) (hn : Nat.blt d n = true)
    (h : Wd P G n ops rest ((d, av) :: env) H1 (fun qs => Φ ((false, false, false) :: qs))) : Wd P G n ops (o :: rest) env H Φ := by
  obtain ⟨rs, env', H', h1, h2⟩ := h.out
  exact ⟨⟨false, false, false, av, H1⟩ :: rs, env', H', .run hg hx (fun d' hd' => by rw [hd] at hd'; cases hd'; simpa using hn) (fun h => by cases h) (fun h => by cases h) (fun h => by cases h) (by rw [hd]; exact h1), h2⟩
theorem Wd.loudN {H1 : Heap} (hx : XOp P G (restr env (readsOf ops o)) H o av H1) (hg : wantedB ops (restr env (readsOf ops o)) o.guard = some true) (hd : o.dst = none)
    (h : Wd P G n ops rest env H1 (fun qs => Φ ((false, false, false) :: qs))) : Wd P G n ops (o :: rest) env H Φ := by
  obtain ⟨rs, env', H', h1, h2⟩ := h.out
  exact ⟨⟨false, false, false, av, H1⟩ :: rs, env', H', .run hg hx (fun d' hd' => by rw [hd] at hd'; cases hd') (fun h => by cases h) (fun h => by cases h) (fun h => by cases h) (by rw [hd]; exact h1), h2⟩

/-- One that new objects do not trouble. -/
theorem Wd.consX (hx : XOp P G (restr env (readsOf ops o)) H o av H) (hh : hlims H.length H = true) (he : elims H.length (restr env (readsOf ops o)) = true) (hg : wantedB ops (restr env (readsOf ops o)) o.guard = some true) (hd : o.dst = some d) (hn : Nat.blt d n = true)
    (h : Wd P G n ops rest ((d, av) :: env) H (fun qs => Φ ((true, true, false) :: qs))) : Wd P G n ops (o :: rest) env H Φ := by
  obtain ⟨rs, env', H', h1, h2⟩ := h.out
  exact ⟨⟨true, true, false, av, H⟩ :: rs, env', H', .run hg hx (fun d' hd' => by rw [hd] at hd'; cases hd'; simpa using hn) (fun _ => rfl) (fun _ => ⟨fun _ X => hx.frame hh (elims_look he), fun h => by cases h⟩) (fun h => by cases h) (by rw [hd]; exact h1), h2⟩
/-- One that looks at no heap. -/
theorem Wd.free (hx : ∀ H : Heap, XOp P G (restr env (readsOf ops o)) H o av H) (hg : wantedB ops (restr env (readsOf ops o)) o.guard = some true) (hd : o.dst = some d) (hn : Nat.blt d n = true)
    (h : Wd P G n ops rest ((d, av) :: env) H (fun qs => Φ ((true, true, true) :: qs))) : Wd P G n ops (o :: rest) env H Φ := by
  obtain ⟨rs, env', H', h1, h2⟩ := h.out
  exact ⟨⟨true, true, true, av, H⟩ :: rs, env', H', .run hg (hx H) (fun d' hd' => by rw [hd] at hd'; cases hd'; simpa using hn) (fun _ => rfl) (fun _ => ⟨fun _ X => hx _, fun h => by cases h⟩) (fun _ => ⟨rfl, hx⟩) (by rw [hd]; exact h1), h2⟩
/-- One that makes a new object. -/
theorem Wd.alloc {X : Option AObj} (hx : XOp P G (restr env (readsOf ops o)) H o av (H ++ [X])) (hg : wantedB ops (restr env (readsOf ops o)) o.guard = some true) (hd : o.dst = some d) (hn : Nat.blt d n = true)
    {H1 : Heap} (hH : H ++ [X] = H1) (h : Wd P G n ops rest ((d, av) :: env) H1 (fun qs => Φ ((false, true, false) :: qs))) : Wd P G n ops (o :: rest) env H Φ := by
  subst hH
  obtain ⟨rs, env', H', h1, h2⟩ := h.out
  exact ⟨⟨false, true, false, av, H ++ [X]⟩ :: rs, env', H', .run hg hx (fun d' hd' => by rw [hd] at hd'; cases hd'; simpa using hn) (fun h => by cases h) (fun _ => ⟨fun h => (by cases h), fun _ => ⟨[X], rfl⟩⟩) (fun h => by cases h) (by rw [hd]; exact h1), h2⟩

theorem W.drawn {id : Nat} {ops : List Oper} {Q : Post} (hm : P.follows .mixedOrders = true) (h : Wd P G n ops ops env H (fun qs env' H' => chkB ops qs ops qs 0 = true ∧ Q .normal env' H')) : W P G n (.region id ⟨ops⟩ true) env H Q := by
  obtain ⟨rs, env', H', h1, h2, h3⟩ := h.out
  exact W.draw hm h1 h2 h3
theorem Wd.fin {qs : List (Bool × Bool × Bool)} {Q : Post} (hc : chkB ops qs ops qs 0 = true) (h : Q .normal env H) : (fun qs env' H' => chkB ops qs ops qs 0 = true ∧ Q .normal env' H') qs env H := ⟨hc, h⟩
end Go.Ax
namespace Go.Ax
variable {P : Program} {G K : Mem} {ρ : Place} {H H' : Heap} {w w' : World} {env : Env} {a : Act} {n : Nat}

/-- The value on which a guard hangs. -/
def guardO (ops : List Oper) (env : Env) (o : Oper) : Option Bool := match o.guard with
  | some (j, _) => match opAt ops j with
    | some p => match p.dst with
      | some g => match lookO env g with
        | some (.val (.bool b)) => some b
        | _ => none
      | none => none
    | none => none
  | none => none

theorem Wops.gs {ops rest : List Oper} {o : Oper} {Q : Post} {b : Bool} (h0 : guardO ops env o = some b) (ht : b = true → Wops P G n ops (o :: rest) env H Q) (hf : b = false → Wops P G n ops (o :: rest) env H Q) : Wops P G n ops (o :: rest) env H Q := by
  cases b with
  | true => exact ht rfl
  | false => exact hf rfl
theorem Wd.gs {ops rest : List Oper} {o : Oper} {Φ : List (Bool × Bool × Bool) → Env → Heap → Prop} {b : Bool} (h0 : guardO ops env o = some b) (ht : b = true → Wd P G n ops (o :: rest) env H Φ) (hf : b = false → Wd P G n ops (o :: rest) env H Φ) : Wd P G n ops (o :: rest) env H Φ := by
  cases b with
  | true => exact ht rfl
  | false => exact hf rfl

theorem Sub.of_eq {a b : AV} (h : a = b) : Sub a b := by subst h; exact Sub.refl _
theorem Sub.val {u v : Value} (h : u = v) : Sub (.val u) (.val v) := Sub.of_eq (by rw [h])
theorem Sub.bool {a b : Bool} (h : a = b) : Sub (.val (.bool a)) (.val (.bool b)) := Sub.of_eq (by rw [h])
theorem Sub.flt {k : FloatKind} {a b : Nat} (h : a = b) : Sub (.flt k a) (.flt k b) := Sub.of_eq (by rw [h])
theorem Sub.int {k : IntKind} {a b : Int} (h : a = b) : Sub (.val (.int k a)) (.val (.int k b)) := Sub.of_eq (by rw [h])
end Go.Ax
namespace Go.Ax
variable {P : Program} {G K : Mem} {ρ : Place} {H H' : Heap} {w w' : World} {env : Env} {a : Act} {n : Nat}

theorem Good.drop (g : Good G K ρ H w) : Good G K ρ [] w :=
  ⟨g.glob, g.froz, fun l o h => by simp [Heap.get] at h, fun l l' o o' h => by simp [Heap.get] at h⟩

theorem own_nil {b i : Nat} : ¬ own ρ [] b i := fun ⟨l, o, h, _⟩ => by simp [Heap.get] at h

/-- Nothing that was there has changed: the objects are as they were. -/
theorem Good.keep {K' : Mem} (g : Good G K ρ H w) (hsame : ∀ b, b < w.heap.size → w'.heap[b]? = w.heap[b]?) (hold : ∀ b, b < w.heap.size → K' b = K b)
    (hfroz : ∀ b row, w.heap.size ≤ b → K' b = some row → ∃ t fr, w'.heap[b]? = some (.cells row t fr)) : Good G K' ρ H w' := by
  have hle : K.le K' := fun b row h => by rw [hold b (g.klt h)]; exact h
  refine ⟨fun b row h => hle b row (g.glob b row h), fun b row h => ?_, fun l o h => ?_, g.apart⟩
  · rcases Nat.lt_or_ge b w.heap.size with hb | hb
    · rw [hold b hb] at h; rw [hsame b hb]; exact g.froz b row h
    · exact hfroz b row hb h
  · refine (g.obj l o h).imp (fun hL => ?_) id
    have hb := hL.lt
    obtain ⟨row, t, fr, h1, h2, h3, h4, h5, h6, h7, h8⟩ := hL
    refine ⟨row, t, fr, by rw [hsame _ hb]; exact h1, h2, by rw [hold _ hb]; exact h3, h4, h5, h6, h7, fun i c hc => ?_⟩
    obtain ⟨k1, v, k2, k3, k4⟩ := h8 i c hc
    exact ⟨k1, v, k2, k3, rel_mono hle (fun _ _ => rfl) c v k1 k4⟩

theorem Fr.all (h : Fr (own ρ []) w w') (b : Nat) (hb : b < w.heap.size) : w'.heap[b]? = w.heap[b]? := h.same b hb (fun _ => own_nil)

theorem Ext.old0 {K' : Mem} {ρ' : Place} (e : Ext K ρ [] w K' ρ' H' w') (b : Nat) (hb : b < w.heap.size) : K' b = K b := by
  rcases e.old b hb with h | ⟨_, l, o, h, _⟩
  · exact h
  · simp [Heap.get] at h

theorem ACall.pure {f : FuncId} {args : List AV} {res : AV} (h : ACall P G f args [] res []) (hl0 : AV.lims 0 args = true) (H : Heap) : ACall P G f args H res H := by
  refine ⟨h.fn, fun K ρ w vs g hl hr => (h.run K ρ w vs g.drop hl0 hr).mono ?_⟩
  rintro e w' ⟨v, rfl, K', ρ', g', x', hr', hl'⟩
  refine ⟨v, rfl, K', ρ, g.keep (x'.fr.all) x'.old0 (fun b row _ hb => g'.froz b row hb), { Ext.refl K ρ H w with fr := x'.fr.weaken (fun b i _ hh => absurd hh own_nil), old := fun b hb => .inl (x'.old0 b hb) }, ?_, AV.lim_mono (Nat.zero_le _) _ hl'⟩
  exact rel_mono (fun _ _ h => h) (m := 0) (fun l hl => by omega) res v hl' hr'

mutual
theorem rel_kfree {K K' : Mem} {ρ ρ' : Place} {m : Nat} (hρ : ∀ l, l < m → ρ' l = ρ l) : ∀ (c : AV) (v : Value), c.kfree = true → c.lim m = true → rel K ρ c v → rel K' ρ' c v
  | .val _, _, _, _, h => by simpa [rel] using h
  | .flt _ _, _, _, _, h => by simpa [rel] using h
  | .lst n cs, v, hk, hb, h => by
    simp only [rel] at h ⊢
    obtain ⟨a, cap, h1, h2, h3⟩ := h
    refine ⟨a, cap, h1, h2, .inl ?_⟩
    simpa [AV.kfree] using hk
  | .emp, _, _, _, h => by simpa [rel] using h
  | .fptr cs, v, hk, _, _ => by simp [AV.kfree] at hk
  | .ptr l k, v, _, hb, h => by
    have hl : l < m := by simpa [AV.lim] using hb
    simp only [rel] at h ⊢
    rw [hρ l hl]; exact h
  | .slc l k n z, v, _, hb, h => by
    have hl : l < m := by simpa [AV.lim] using hb
    simp only [rel] at h ⊢
    rw [hρ l hl]; exact h
  | .agg cs, v, hk, hb, h => by
    simp only [rel] at h ⊢
    obtain ⟨l, h1, h2, h3⟩ := h
    exact ⟨l, h1, rels_kfree hρ cs l (by simpa [AV.kfree] using hk) (by simpa [AV.lim] using hb) h2, h3⟩
  | .tup cs, v, hk, hb, h => by
    simp only [rel] at h ⊢
    obtain ⟨l, h1, h2⟩ := h
    exact ⟨l, h1, rels_kfree hρ cs l (by simpa [AV.kfree] using hk) (by simpa [AV.lim] using hb) h2⟩
  | .fn f cs, v, hk, hb, h => by
    simp only [rel] at h ⊢
    obtain ⟨l, h1, h2⟩ := h
    exact ⟨l, h1, rels_kfree hρ cs l (by simpa [AV.kfree] using hk) (by simpa [AV.lim] using hb) h2⟩
  | .ifc t x, v, hk, hb, h => by
    simp only [rel] at h ⊢
    obtain ⟨u, h1, h2⟩ := h
    exact ⟨u, h1, rel_kfree hρ x u (by simpa [AV.kfree] using hk) (by simpa [AV.lim] using hb) h2⟩
  | .any, _, _, _, _ => by simp [rel]
theorem rels_kfree {K K' : Mem} {ρ ρ' : Place} {m : Nat} (hρ : ∀ l, l < m → ρ' l = ρ l) : ∀ (cs : List AV) (l : List Value), AV.kfrees cs = true → AV.lims m cs = true → rels K ρ cs l → rels K' ρ' cs l
  | [], _, _, _, h => by simpa [rels] using h
  | c :: cs, l, hk, hb, h => by
    simp only [AV.lims, Bool.and_eq_true] at hb
    simp only [AV.kfrees, Bool.and_eq_true] at hk
    simp only [rels] at h ⊢
    obtain ⟨v, l', h1, h2, h3⟩ := h
    exact ⟨v, l', h1, rel_kfree hρ c v hk.1 hb.1 h2, rels_kfree hρ cs l' hk.2 hb.2 h3⟩
end

/-! ## lending -/
mutual
inductive View (H : Heap) : AV → AV → Prop
  | same {c : AV} : c.lim 0 = true → View H c c
  | slc {l k n z : Nat} {o : AObj} {cs cs' : List AV} : H.get l = some o → (o.cells.drop k).take cs.length = cs → Views H cs cs' → (n = 0 → cs' = []) → View H (.slc l k n z) (.lst n cs')
  | ptr {l k : Nat} {o : AObj} {cs cs' : List AV} : H.get l = some o → o.arr = false → (o.cells.drop k).take cs.length = cs → Views H cs cs' → View H (.ptr l k) (.fptr cs')
  | agg {cs cs' : List AV} : Views H cs cs' → View H (.agg cs) (.agg cs')
inductive Views (H : Heap) : List AV → List AV → Prop
  | nil : Views H [] []
  | cons {c c' : AV} {cs cs' : List AV} : View H c c' → Views H cs cs' → Views H (c :: cs) (c' :: cs')
end

open Classical in
/-- The objects' rows stay as they are, for a while. -/
noncomputable def lend (K : Mem) (ρ : Place) (H : Heap) (w : World) : Mem := fun b =>
  if ∃ l o, H.get l = some o ∧ Lies K ρ H.length w o (ρ l) ∧ (ρ l).b = b then (match w.heap[b]? with | some (.cells row _ _) => some row | _ => none) else K b

theorem lend_le : K.le (lend K ρ H w) := fun b row h => by
  unfold lend
  rw [if_neg]
  · exact h
  · rintro ⟨l, o, h1, hL, h2⟩
    obtain ⟨_, _, _, _, _, h3, _⟩ := hL
    rw [h2, h] at h3; cases h3
theorem lend_obj {l : Nat} {o : AObj} {row : Array Value} {t : TypeId} {fr : Nat × Nat} (h : H.get l = some o) (hL : Lies K ρ H.length w o (ρ l)) (hb : w.heap[(ρ l).b]? = some (.cells row t fr)) : lend K ρ H w (ρ l).b = some row := by
  unfold lend
  rw [if_pos ⟨l, o, h, hL, rfl⟩, hb]

mutual
theorem view_lim : ∀ {c c' : AV}, View H c c' → c'.lim 0 = true
  | _, _, .same hl => hl
  | _, _, .slc _ _ hv _ => by simpa [AV.lim] using views_lim hv
  | _, _, .ptr _ _ _ hv => by simpa [AV.lim] using views_lim hv
  | _, _, .agg hv => by simpa [AV.lim] using views_lim hv
theorem views_lim : ∀ {cs cs' : List AV}, Views H cs cs' → AV.lims 0 cs' = true
  | _, _, .nil => rfl
  | _, _, .cons h1 h2 => by simp only [AV.lims, Bool.and_eq_true]; exact ⟨view_lim h1, views_lim h2⟩
end

mutual
theorem view_ok (g : Good G K ρ H w) : ∀ {c c' : AV}, View H c c' → ∀ v, rel K ρ c v → rel (lend K ρ H w) ρ c' v ∧ c'.lim 0 = true
  | c, _, .same hl, v, h => ⟨rel_mono lend_le (m := 0) (fun _ _ => rfl) c v hl h, hl⟩
  | .slc l k n z, _, .slc (o := o) (cs := cs) (cs' := cs') ho hcs hv hn, v, h => by
    simp only [rel] at h ⊢
    have hl0 := views_lim hv
    rcases g.obj l o ho with hL | ⟨hz, _, _⟩
    rotate_left
    · rw [hz] at hcs
      simp only [List.drop_nil, List.take_nil] at hcs
      subst hcs
      cases hv
      rcases h with ⟨cap, h1, h2, h3⟩ | ⟨rfl, b, h⟩
      · exact ⟨⟨_, cap, h1, h2, .inl rfl⟩, rfl⟩
      · exact ⟨⟨b, 0, h, Nat.le_refl _, .inl rfl⟩, rfl⟩
    rcases h with ⟨cap, h1, h2, h3⟩ | ⟨rfl, b, h⟩
    rotate_left
    · exact ⟨⟨b, 0, h, Nat.le_refl _, .inl (hn rfl)⟩, by simpa [AV.lim] using hl0⟩
    obtain ⟨row, t, fr, a1, a2, a3, a4, a5, a6, a7, a8⟩ := hL
    have hat := viewAt_ok g hv (b := (ρ l).b) (o := (ρ l).o + k) (row := row) (lend_obj ho ⟨row, t, fr, a1, a2, a3, a4, a5, a6, a7, a8⟩ a1) (fun i c hc => by
      have hi : i < cs.length := (List.getElem?_eq_some_iff.1 hc).1
      rw [← hcs, List.getElem?_take, if_pos hi, List.getElem?_drop] at hc
      obtain ⟨_, u, k2, k3, k4⟩ := a8 (k + i) c hc
      exact ⟨u, by rwa [show (ρ l).o + k + i = (ρ l).o + (k + i) by omega], k3, k4⟩)
    exact ⟨⟨some ⟨(ρ l).b, (ρ l).o + k, none⟩, cap, h1, h2, .inr ⟨_, _, rfl, hat.1⟩⟩, by simpa [AV.lim] using hat.2⟩
  | .ptr l k, _, .ptr (o := o) (cs := cs) (cs' := cs') ho harr hcs hv, v, h => by
    simp only [rel] at h ⊢
    rcases g.obj l o ho with hL | ⟨_, hz, _⟩
    rotate_left
    · rw [harr] at hz; cases hz
    obtain ⟨row, t, fr, a1, a2, a3, a4, a5, a6, a7, a8⟩ := hL
    have hat := viewAt_ok g hv (b := (ρ l).b) (o := (ρ l).o + k) (row := row) (lend_obj ho ⟨row, t, fr, a1, a2, a3, a4, a5, a6, a7, a8⟩ a1) (fun i c hc => by
      have hi : i < cs.length := (List.getElem?_eq_some_iff.1 hc).1
      rw [← hcs, List.getElem?_take, if_pos hi, List.getElem?_drop] at hc
      obtain ⟨_, u, k2, k3, k4⟩ := a8 (k + i) c hc
      exact ⟨u, by rwa [show (ρ l).o + k + i = (ρ l).o + (k + i) by omega], k3, k4⟩)
    exact ⟨⟨_, _, h, hat.1⟩, by simpa [AV.lim] using hat.2⟩
  | .agg cs, _, .agg (cs' := cs') hv, v, h => by
    simp only [rel] at h ⊢
    obtain ⟨l, h1, h2, h3⟩ := h
    have := views_ok g hv l h2
    exact ⟨⟨l, h1, this.1, h3⟩, by simpa [AV.lim] using this.2⟩
theorem viewAt_ok (g : Good G K ρ H w) : ∀ {cs cs' : List AV}, Views H cs cs' → ∀ {b o : Nat} {row : Array Value}, lend K ρ H w b = some row → (∀ (i : Nat) c, cs[i]? = some c → ∃ v, row[o + i]? = some v ∧ v.one = true ∧ rel K ρ c v) →
    relAt (lend K ρ H w) ρ cs' b o ∧ AV.lims 0 cs' = true
  | _, _, .nil, b, o, row, _, _ => by simp [relAt, AV.lims]
  | _, _, .cons (c := c) (c' := c') (cs := cs) (cs' := cs') h1 h2, b, o, row, hK, hc => by
    obtain ⟨v, k1, k2, k3⟩ := hc 0 c rfl
    have e1 := view_ok g h1 v k3
    have e2 := viewAt_ok g h2 (b := b) (o := o + 1) hK (fun i c hi => by
      have := hc (i + 1) c (by simpa using hi)
      rwa [show o + (i + 1) = o + 1 + i by omega] at this)
    refine ⟨?_, by simp only [AV.lims, Bool.and_eq_true]; exact ⟨e1.2, e2.2⟩⟩
    simp only [relAt]
    exact ⟨⟨row, v, hK, by simpa using k1, k2, e1.1⟩, e2.1⟩
theorem views_ok (g : Good G K ρ H w) : ∀ {cs cs' : List AV}, Views H cs cs' → ∀ l, rels K ρ cs l → rels (lend K ρ H w) ρ cs' l ∧ AV.lims 0 cs' = true
  | _, _, .nil, l, h => by simpa [rels, AV.lims] using h
  | _, _, .cons (c := c) (c' := c') (cs := cs) (cs' := cs') h1 h2, l, h => by
    simp only [rels] at h ⊢
    obtain ⟨v, l', e, k1, k2⟩ := h
    have e1 := view_ok g h1 v k1
    have e2 := views_ok g h2 l' k2
    exact ⟨⟨v, l', e, e1.1, e2.1⟩, by simp only [AV.lims, Bool.and_eq_true]; exact ⟨e1.2, e2.2⟩⟩
end

theorem ACall.borrow {f : FuncId} {args args' : List AV} {res : AV} (h : ACall P G f args' [] res []) (hv : Views H args args') (hk : res.kfree = true) (hl0 : res.lim 0 = true) : ACall P G f args H res H := by
  refine ⟨h.fn, fun K ρ w vs g hl hr => ?_⟩
  have hv' := views_ok g hv vs hr
  have g2 : Good G (lend K ρ H w) ρ [] w := by
    refine ⟨fun b row hb => lend_le b row (g.glob b row hb), fun b row hb => ?_, fun l o h => by simp [Heap.get] at h, fun l l' o o' h => by simp [Heap.get] at h⟩
    unfold lend at hb
    split at hb
    · rename_i hx
      obtain ⟨l, o, k1, kL, k2⟩ := hx
      obtain ⟨row', t, fr, a1, _⟩ := kL
      rw [← k2, a1] at hb
      cases hb
      exact ⟨t, fr, by rw [← k2]; exact a1⟩
    · exact g.froz b row hb
  refine (h.run _ ρ w vs g2 hv'.2 hv'.1).mono ?_
  rintro e w' ⟨v, rfl, K', ρ', g', x', hr', hl'⟩
  let K2 : Mem := fun b => if b < w.heap.size then K b else K' b
  have hold : ∀ b, b < w.heap.size → K2 b = K b := fun b hb => by simp [K2, hb]
  refine ⟨v, rfl, K2, ρ, g.keep (x'.fr.all) hold (fun b row hb h => g'.froz b row (by simpa [K2, show ¬ b < w.heap.size by omega] using h)),
    { Ext.refl K ρ H w with fr := x'.fr.weaken (fun b i _ hh => absurd hh own_nil), old := fun b hb => .inl (hold b hb) }, ?_, AV.lim_mono (Nat.zero_le _) _ hl0⟩
  exact rel_kfree (m := 0) (fun l hl => by omega) res v hk hl0 hr'
end Go.Ax
namespace Go.Ax
variable {P : Program} {G K : Mem} {ρ : Place} {H H' : Heap} {w w' : World} {env : Env} {a : Act} {n : Nat}
theorem Views.same {H : Heap} : ∀ {cs : List AV}, AV.lims 0 cs = true → Views H cs cs
  | [], _ => .nil
  | c :: cs, h => by
    simp only [AV.lims, Bool.and_eq_true] at h
    exact .cons (.same h.1) (Views.same h.2)
theorem View.whole {H : Heap} {l n z : Nat} {b : Bool} {cs cs' : List AV} (ho : H.get l = some ⟨cs, b⟩) (hv : Views H cs cs') (hn : n = 0 → cs' = []) : View H (.slc l 0 n z) (.lst n cs') :=
  .slc ho (by simp) hv hn
theorem View.wholeP {H : Heap} {l : Nat} {cs cs' : List AV} (ho : H.get l = some ⟨cs, false⟩) (hv : Views H cs cs') : View H (.ptr l 0) (.fptr cs') :=
  .ptr ho rfl (by simp) hv
end Go.Ax
namespace Go.Ax
theorem lims_flat {α : Type} {m : Nat} {enc : α → List AV} (h : ∀ x, AV.lims m (enc x) = true) : ∀ (xs : List α), AV.lims m (xs.flatMap enc) = true
  | [] => rfl
  | x :: xs => by rw [List.flatMap_cons]; exact lims_append (h x) (lims_flat h xs)
/-- narrow numbers, strings, integers, bytes -/
def encF (x : Nat) : List AV := [.flt .f32 x]
def encS (s : ByteArray) : List AV := [.val (.string s)]
def encI (n : Int) : List AV := [.val (.int .i64 n)]
def encB (c : UInt8) : List AV := [.val (.int .u8 c.toNat)]
theorem lims_encF {m : Nat} (xs : List Nat) : AV.lims m (xs.flatMap encF) = true := lims_flat (fun _ => rfl) xs
theorem lims_encS {m : Nat} (xs : List ByteArray) : AV.lims m (xs.flatMap encS) = true := lims_flat (fun _ => rfl) xs
theorem lims_encI {m : Nat} (xs : List Int) : AV.lims m (xs.flatMap encI) = true := lims_flat (fun _ => rfl) xs
theorem lims_encB {m : Nat} (xs : List UInt8) : AV.lims m (xs.flatMap encB) = true := lims_flat (fun _ => rfl) xs
abbrev AV.i (n : Int) : AV := .val (.int .i64 n)
abbrev AV.b (b : Bool) : AV := .val (.bool b)
abbrev AV.s (s : ByteArray) : AV := .val (.string s)
abbrev AV.f (x : Nat) : AV := .flt .f32 x
abbrev AV.d (x : Nat) : AV := .flt .f64 x
abbrev AV.fs (xs : List Nat) : AV := .lst xs.length (xs.flatMap encF)
abbrev AV.ss (xs : List ByteArray) : AV := .lst xs.length (xs.flatMap encS)
abbrev AV.is (xs : List Int) : AV := .lst xs.length (xs.flatMap encI)
abbrev AV.bs (xs : List UInt8) : AV := .lst xs.length (xs.flatMap encB)
end Go.Ax
