/-
  Strings out of bytes, functions as values.
-/
import Derived.Test.YtomidnkcohkhfaaGreatDoorK10
import Derived.Laws.BytesArg
import Derived.Laws.IdiomStrings
namespace Go.Ax
variable {P : Program} {G K : Mem} {ρ : Place} {H H' : Heap} {w w' : World} {env : Env} {a : Act} {n : Nat}

/-- The bytes that cells hold. -/
def bytesO : List AV → Option (List Int)
  | [] => some []
  | .val (.int .u8 n) :: cs => match bytesO cs with
    | some l => some (n :: l)
    | none => none
  | _ :: _ => none
theorem bytesO_at : ∀ {cs : List AV} {l : List Int}, bytesO cs = some l → l.length = cs.length ∧ ∀ i, i < l.length → cs[i]? = some (.val (.int .u8 (l.getD i 0)))
  | [], l, h => by simp only [bytesO, Option.some.injEq] at h; subst h; exact ⟨rfl, fun i hi => by simp at hi⟩
  | c :: cs, l, h => by
    unfold bytesO at h
    split at h
    · rename_i he; cases he
    · rename_i n cs' he
      cases he
      split at h
      · rename_i l' hl'
        simp only [Option.some.injEq] at h
        subst h
        obtain ⟨h1, h2⟩ := bytesO_at hl'
        refine ⟨by simp [h1], fun i hi => ?_⟩
        cases i with
        | zero => rfl
        | succ i => simpa using h2 i (by simpa using hi)
      · cases h
    · cases h
theorem bytesO_encB : ∀ (l : List UInt8), bytesO (l.flatMap encB) = some (l.map fun c => (c.toNat : Int))
  | [] => rfl
  | c :: l => by
    have := bytesO_encB l
    simp only [List.flatMap_cons, encB, List.cons_append, List.nil_append, bytesO, this, List.map_cons]
theorem byte_back (l : List UInt8) : (l.map fun c => (c.toNat : Int)).map (fun n => UInt8.ofNat n.toNat) = l := by
  rw [List.map_map]
  conv => rhs; rw [← List.map_id l]
  refine List.map_congr_left fun c _ => ?_
  simp

section ops
variable {d : Option Tmp} {ty : TypeId} {pos : String} {after : Array Edge} {gu : Option (Nat × Bool)} {av : AV}

theorem XOp.b2s (T : Tab P) {x : Operand} {t u e : TypeId} {i j k : TI} {m : Nat} {cs : List AV} {l : List Int} (hx : opndO env x = some (.lst m cs)) (ht : tyAt T.l t = some i) (hd : i.d = .slice e) (hE : tyAt T.l e = some j) (hj : j.d = .int .u8) (hu : tyAt T.l u = some k) (hk : k.d = .str)
    (hb : bytesO cs = some l) (hm : cs.length = m) : XOp P G env H ⟨d, .convert t u x, ty, pos, after, gu⟩ (.s (str (l.map fun n => UInt8.ofNat n.toNat))) H := by
  refine ⟨fun K ρ w a g he => ?_⟩
  obtain ⟨h1, h2⟩ := rel_opnd he x
  rw [opndO_eq hx] at h1 h2
  simp only [rel] at h2
  obtain ⟨b, cap, hv, _, h3⟩ := h2
  have hs : P.underlying t = some (.slice e) := T.desc ht hd
  have he8 : P.underlying e = some (.int .u8) := T.desc hE hj
  have hs2 : P.underlying u = some .string := T.desc hu hk
  obtain ⟨hl, hc⟩ := bytesO_at hb
  have hrun : (convert t u (.slice b m cap)).run P w = .ok (.string (strOfNums l)) w := by
    rcases h3 with rfl | ⟨b0, o, rfl, hat⟩
    · simp only [List.length_nil] at hm hl
      subst hm
      have hl0 : l = [] := List.length_eq_zero_iff.1 hl
      subst hl0
      cases b with
      | none => exact run_convert_bytes_nil w t e hs he8 0 cap u hs2
      | some a0 =>
        rw [run_convert_bytes_string w t u e _ 0 cap hs he8 hs2, run_bytesToString w a0 0 cap [] (by simpa using run_loadCells_list (P := P) (w := w) a0 [] (fun j v hj => by simp at hj))]
        rfl
    · refine run_convert_bytes_arg w t e hs he8 b0 o m cap l (by omega) (fun i hi => ?_) u hs2
      have := hc i (by omega)
      obtain ⟨row, v, k1, k2, k3, k4⟩ := relAt_get hat this
      simp only [rel] at k4
      subst k4
      exact g.fcell k1 k2
  simp only [execOp, hv, Sem.run_bind, hrun, Result.andThen_ok, Sem.run_pure]
  exact XPost.pure g (Alike.refl w) (by simp only [rel]; rfl) rfl
/-- .. of bytes that are an object's. -/
theorem XOp.b2sO (T : Tab P) {x : Operand} {t u e : TypeId} {i j k : TI} {m lo ko z : Nat} {o : AObj} {cs ds : List AV} {l : List Int} (hx : opndO env x = some (.slc lo ko m z)) (ht : tyAt T.l t = some i) (hd : i.d = .slice e) (hE : tyAt T.l e = some j) (hj : j.d = .int .u8) (hu : tyAt T.l u = some k) (hk : k.d = .str)
    (ho : H.get lo = some o) (hdr : dropO o.cells ko = some ds) (htk : takeO ds m = some cs) (hb : bytesO cs = some l) : XOp P G env H ⟨d, .convert t u x, ty, pos, after, gu⟩ (.s (str (l.map fun n => UInt8.ofNat n.toNat))) H := by
  refine ⟨fun K ρ w a g he => ?_⟩
  obtain ⟨h1, h2⟩ := rel_opnd he x
  rw [opndO_eq hx] at h1 h2
  simp only [rel] at h2
  have hs : P.underlying t = some (.slice e) := T.desc ht hd
  have he8 : P.underlying e = some (.int .u8) := T.desc hE hj
  have hs2 : P.underlying u = some .string := T.desc hu hk
  obtain ⟨hl, hc⟩ := bytesO_at hb
  obtain ⟨rfl, hk0⟩ := dropO_eq hdr
  obtain ⟨rfl, hm0⟩ := takeO_eq htk
  have hm : l.length = m := by rw [hl]; simp at hm0 ⊢; omega
  have hrun : (convert t u (a.eval x)).run P w = .ok (.string (strOfNums l)) w := by
    rcases h2 with ⟨cap, hv, _, _⟩ | ⟨rfl, b, hv⟩
    · rw [hv]
      refine run_convert_bytes_arg w t e hs he8 _ _ m cap l hm (fun i hi => ?_) u hs2
      have := hc i (by omega)
      rw [List.getElem?_take, if_pos hi, List.getElem?_drop] at this
      obtain ⟨_, v, k1, _, k4⟩ := g.cells ho this
      simp only [rel] at k4
      subst k4
      rw [Nat.add_assoc]; exact k1
    · rw [hv]
      have hl0 : l = [] := List.length_eq_zero_iff.1 hm
      subst hl0
      cases b with
      | none => exact run_convert_bytes_nil w t e hs he8 0 0 u hs2
      | some a0 =>
        rw [run_convert_bytes_string w t u e _ 0 0 hs he8 hs2, run_bytesToString w a0 0 0 [] (by simpa using run_loadCells_list (P := P) (w := w) a0 [] (fun j v hj => by simp at hj))]
        rfl
  simp only [execOp, Sem.run_bind, hrun, Result.andThen_ok, Sem.run_pure]
  exact XPost.pure g (Alike.refl w) (by simp only [rel]; rfl) rfl

theorem XOp.makeFunc {f : FuncId} {cap : List Operand} {avs : List AV} (hx : argsO env cap = some avs) : XOp P G env H ⟨d, .makeFunc (.func f) ⟨[]⟩ ⟨cap⟩, ty, pos, after, gu⟩ (.fn f avs) H := by
  refine ⟨fun K ρ w a g he => ?_⟩
  obtain ⟨k1, k2⟩ := argsO_ok he hx
  simp only [execOp, Instr.makeFunc, Sem.run_bind, Sem.run_pure, Result.andThen_ok]
  refine XPost.pure g (Alike.refl w) ?_ (by simpa [AV.lim] using k1)
  simp only [rel]
  exact ⟨cap.map a.eval, by simp, k2⟩

theorem run_iface_nil {t : TypeId} {ms : Array (String × TypeId)} (hu : P.underlying t = some (.interface ms)) : (Op.equal t .nilIface .nilIface).run P w = .ok true w := by
  have : ∀ k, (Op.equalIn (k + 1) t .nilIface .nilIface).run P w = .ok true w := fun k => by
    simp only [Op.equalIn, underlying, Sem.run_bind, run_program, Result.andThen_ok, hu, Sem.run_pure]
  exact this 9999
theorem run_iface_some {t : TypeId} {ms : Array (String × TypeId)} (hu : P.underlying t = some (.interface ms)) (t2 : TypeId) (v : Value) : (Op.equal t (.iface t2 v) .nilIface).run P w = .ok false w := by
  have : ∀ k, (Op.equalIn (k + 1) t (.iface t2 v) .nilIface).run P w = .ok false w := fun k => by
    simp only [Op.equalIn, underlying, Sem.run_bind, run_program, Result.andThen_ok, hu, Sem.run_pure]
  exact this 9999
/-- Is the type an interface? -/
def isIf (P : Program) (t : TypeId) : Bool := match P.underlying t with
  | some (.interface _) => true
  | _ => false
theorem isIf_ex {t : TypeId} (h : isIf P t = true) : ∃ ms, P.underlying t = some (.interface ms) := by
  unfold isIf at h
  split at h
  · rename_i ms e; exact ⟨ms, e⟩
  · cases h
/-- An interface value against nil. -/
theorem XOp.inil {op : BinOp} {x : Operand} {t u : TypeId} {b : Bool} (hx : opndO env x = some (.val .nilIface)) (hi : isIf P t = true) (hb : (match op with | .eql => some true | .neq => some false | _ => none) = some b) :
    XOp P G env H ⟨d, .binOp op t x (.const .nilIface) u, ty, pos, after, gu⟩ (.val (.bool b)) H := by
  obtain ⟨ms, hu⟩ := isIf_ex hi
  refine XOp.of_run1 hx (fun _ _ => rfl) fun K ρ w a h1 => ?_
  simp only [rel] at h1
  refine ⟨.bool b, w, ?_, Alike.refl w, rfl⟩
  have e1 : ∀ o : BinOp, (eqGuard o t x (.const .nilIface) .nilIface .nilIface).run P w = .ok () w := fun o => by
    unfold eqGuard
    cases o <;> simp
  have e0 : a.eval (.const .nilIface) = .nilIface := rfl
  cases op <;> simp only [reduceCtorEq] at hb <;> cases hb <;>
    simp only [execOp, h1, e0, binOp, Sem.run_bind, e1, Result.andThen_ok, run_iface_nil hu, Sem.run_pure] <;> rfl
theorem XOp.iset {op : BinOp} {x : Operand} {t u t2 : TypeId} {c : AV} {b : Bool} (hx : opndO env x = some (.ifc t2 c)) (hi : isIf P t = true) (hb : (match op with | .eql => some false | .neq => some true | _ => none) = some b) :
    XOp P G env H ⟨d, .binOp op t x (.const .nilIface) u, ty, pos, after, gu⟩ (.val (.bool b)) H := by
  obtain ⟨ms, hu⟩ := isIf_ex hi
  refine XOp.of_run1 hx (fun _ _ => rfl) fun K ρ w a h1 => ?_
  simp only [rel] at h1
  obtain ⟨v, h1, _⟩ := h1
  refine ⟨.bool b, w, ?_, Alike.refl w, rfl⟩
  have e1 : ∀ o : BinOp, (eqGuard o t x (.const .nilIface) (.iface t2 v) .nilIface).run P w = .ok () w := fun o => by
    unfold eqGuard
    cases o <;> simp
  have e0 : a.eval (.const .nilIface) = .nilIface := rfl
  cases op <;> simp only [reduceCtorEq] at hb <;> cases hb <;>
    simp only [execOp, h1, e0, binOp, Sem.run_bind, e1, Result.andThen_ok, run_iface_some hu, Sem.run_pure] <;> rfl
end ops
end Go.Ax
