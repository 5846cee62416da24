/- THE EVALUATOR IS SOUND: functions that defer a call that recovers. -/
import Derived.Test.YthoomlenmgdebaaGreatDoorAEY
set_option linter.unusedVariables false
set_option linter.unusedSimpArgs false
set_option linter.unusedSectionVars false
set_option maxHeartbeats 1600000
namespace Go.Proofs.YthoomlenmgdebaaGreatDoor
namespace AE
open Go Go.RowKit

section
variable {C : Cfg}
theorem argsTm_lk : ∀ (l : List A) (us : List Value) (w : World) (g : Gh) (n t : Nat) (rest : Array Value) (pre : List Value), pre.length = n → VRs w g l us → VR w g (lk t (argsTm n l)) ((pre.toArray ++ us.toArray ++ rest).getD t undef)
  | [], us, w, g, n, t, rest, pre, _, h => by rw [argsTm, lk, VR]; trivial
  | a :: r, us, w, g, n, t, rest, pre, hp, h => by
    rw [VRs.cons_iff] at h
    obtain ⟨u, us', rfl, h1, h2⟩ := h
    rw [argsTm, lk]
    split
    · rename_i ht
      subst ht
      have : (pre.toArray ++ (u :: us').toArray ++ rest).getD n undef = u := by
        rw [Array.getD_eq_getD_getElem?]
        have : (pre.toArray ++ (u :: us').toArray ++ rest)[n]? = some u := by
          rw [← Array.getElem?_toList]
          simp [List.getElem?_append_right, hp]
        rw [this]
        rfl
      rw [this]
      exact h1
    · have := argsTm_lk r us' w g (n + 1) t rest (pre ++ [u]) (by simp [hp]) h2
      have e : ((pre ++ [u]).toArray ++ us'.toArray ++ rest) = (pre.toArray ++ (u :: us').toArray ++ rest) := by
        apply Array.ext'
        simp
      rwa [e] at this


theorem deferAt_some {a : Code} {t : Nat} {g : FuncId} {caps : List Operand} (h : deferAt a = some (t, g, caps)) :
    ∃ id ops cs ty1 ty2 p1 p2 e1 e2 tys, a = .region id ops false ∧ cs.toList = caps ∧
      ops.toList = [⟨some t, .makeFunc (.func g) #[] cs, ty1, p1, e1, none⟩, ⟨none, .defer { callee := .value (.tmp t), args := #[], argTypes := tys }, ty2, p2, e2, none⟩] := by
  unfold deferAt at h
  split at h
  · rename_i id ops
    split at h
    · rename_i heq
      split at h
      · rename_i hc
        simp only [Option.some.injEq, Prod.mk.injEq] at h
        obtain ⟨rfl, rfl, rfl⟩ := h
        obtain ⟨rfl, h1, h2⟩ := hc
        rw [Array.eq_empty_of_size_eq_zero h1, Array.eq_empty_of_size_eq_zero h2] at heq
        exact ⟨_, _, _, _, _, _, _, _, _, _, rfl, rfl, heq⟩
      · cases h
    · cases h
  · cases h

theorem recBody_some {P : Program} {g : FuncId} {nt d : Nat} {rest : Code} {t : Nat} (h : recBody P g = some (nt, t, d, rest)) :
    ∃ fn id ops ty1 ty2 p1 p2 e1 e2, P.funcs[g]? = some fn ∧ fn.name ≠ "runtime.NumGoroutine" ∧ fn.results = #[] ∧ fn.ntmps = nt ∧ fn.body = some (.seq (.region id ops false) rest) ∧ t < nt ∧ d < nt ∧
      ops.toList = [⟨some t, .call { callee := .builtin .recover, args := #[], argTypes := #[] }, ty1, p1, e1, none⟩, ⟨some d, .assign (.tmp t), ty2, p2, e2, none⟩] := by
  unfold recBody at h
  split at h
  · cases h
  · rename_i fn hfn
    split at h
    · cases h
    · rename_i hn
      simp only [not_or, ne_eq, Decidable.not_not] at hn
      split at h
      · rename_i id ops rest' hb
        split at h
        · rename_i heq
          split at h
          · rename_i hc
            simp only [Option.some.injEq, Prod.mk.injEq] at h
            obtain ⟨rfl, rfl, rfl, rfl⟩ := h
            obtain ⟨rfl, h1, h2, h3, h4⟩ := hc
            rw [Array.eq_empty_of_size_eq_zero h3, Array.eq_empty_of_size_eq_zero h4] at heq
            exact ⟨fn, _, _, _, _, _, _, _, _, hfn, hn.1, Array.eq_empty_of_size_eq_zero hn.2, rfl, hb, h1, h2, heq⟩
          · cases h
        · cases h
      · cases h

theorem ops_at {ops : Array Oper} {x y : Oper} (h : ops.toList = [x, y]) : ops[0]? = some x ∧ ops[1]? = some y ∧ ops.size = 2 := by
  have h0 : ops = #[x, y] := by apply Array.ext'; rw [h]
  subst h0
  exact ⟨rfl, rfl, rfl⟩

theorem stepS_value {P : Program} {ops : Array Oper} {Q : Exit → Act → List Frame → World → Prop} {i : Nat} {rest : List Nat} {a : Act} {cs : List Frame} {w : World} {o : Oper} {v : Value} (ho : ops[i]? = some o) (hw : o.guard = none) (hr : (execOp a.eval o).run P w = .ok (.value v) w) (h : wpOpsS P ops Q rest (a.put o.dst v) cs w) : wpOpsS P ops Q (i :: rest) a cs w := by
  have hw' : Region.wanted o (yielded ops a.tmps) = true := by unfold Region.wanted; rw [hw]
  simp only [wpOpsS, ho, hw', if_true, hr]
  exact h
theorem stepS_recover {P : Program} {ops : Array Oper} {Q : Exit → Act → List Frame → World → Prop} {i : Nat} {rest : List Nat} {a : Act} {cs : List Frame} {w : World} {o : Oper} {v : Value} {cs1 : List Frame} (ho : ops[i]? = some o) (hw : o.guard = none) (hr : (execOp a.eval o).run P w = .ok .recover w)
    (hc : (recoverD cs = none ∧ v = .nilIface ∧ cs1 = cs) ∨ recoverD cs = some (v, cs1)) (h : wpOpsS P ops Q rest (a.put o.dst v) cs1 w) : wpOpsS P ops Q (i :: rest) a cs w := by
  have hw' : Region.wanted o (yielded ops a.tmps) = true := by unfold Region.wanted; rw [hw]
  simp only [wpOpsS, ho, hw', if_true, hr]
  rcases hc with ⟨h1, rfl, rfl⟩ | h1
  · rw [h1]; exact h
  · rw [h1]; exact h

theorem rec_sound (hC : CfgOk C) {evR : FuncId → Nat → Code → St → Option (Ex × St)} {evK : FuncId → Nat → Code → St → Option (Ex × St)}
    (hrk : ∀ f nt c s x, evR f nt c s = some x → RecOk C f nt c s x) (hk : ∀ f nt c s x, evK f nt c s = some x → CodeOk C f nt c s x)
    (f : FuncId) (nt : Nat) (c : Code) (s : St) (x : Ex × St)
    (h : (match c with
      | .seq a b =>
        match deferAt a with
        | some d =>
          if d.1 < nt then (do
            let x ← evK f nt b ⟨put (some d.1) (.fn d.2.1 (d.2.2.map (opd C.gl s.tm))) s.tm, s.m⟩
            match endVal x.1, recBody C.P d.2.1 with
              | some v, some r =>
                if d.2.2.length ≤ r.1 then (do
                  let y ← evK d.2.1 r.1 r.2.2.2 ⟨put (some r.2.2.1) v (put (some r.2.1) v (argsTm 0 (d.2.2.map (opd C.gl s.tm)))), x.2.m⟩
                  match y.1 with
                    | .normal => some (.ret, ⟨x.2.tm, y.2.m⟩)
                    | .ret => some (.ret, ⟨x.2.tm, y.2.m⟩)
                    | _ => none)
                else none
              | _, _ => none)
          else none
        | none => (do
          let x ← evK f nt a s
          match x.1 with
            | .normal => evR f nt b x.2
            | e => some (e, x.2))
      | c => evK f nt c s) = some x) : RecOk C f nt c s x := by
  intro hpart fn R w0 g w a hsz hdf hs ht hfin
  have plain : ∀ c', PartOf C f c' → evK f nt c' s = some x → c'.wp C.P (bodyPostD C.P fn R) a w := by
    intro c' hp h
    refine wp_mono (hk _ _ _ _ _ h hp w0 g w a hsz hs ht).1 fun ex a' w' hp => ?_
    obtain ⟨g', p1, p2, p3, p4, p5, p6⟩ := hp
    have := hfin ex g' w' a'.tmps p1 p2 p3 p6
    obtain ⟨tmps, df⟩ := a'
    rw [hdf] at p5
    simp only at p5
    subst p5
    exact this
  split at h
  case h_2 => exact plain _ hpart h
  case h_1 c1 c2 =>
  cases hd : deferAt c1 with
  | none =>
    simp only [hd] at h
    refine wp_seq ?_
    obtain ⟨⟨e, s'⟩, h1, h2⟩ := Option.bind_eq_some_iff.1 h
    refine wp_mono (hk _ _ _ _ _ h1 (hpart.sub (by simp [Sub, Sub.refl])) w0 g w a hsz hs ht).1 fun ex a' w' hp => ?_
    obtain ⟨g', p1, p2, p3, p4, p5, p6⟩ := hp
    by_cases hne : e = .normal
    · subst hne
      simp only at h2
      cases ex <;> first | exact p6.elim | skip
      exact hrk _ _ _ _ _ h2 (hpart.sub (by simp [Sub, Sub.refl])) fn R w0 g' w' a' p4 (by rw [p5, hdf]) p1 p3 fun e2 g2 w2 tm2 q1 q2 q3 q4 => hfin e2 g2 w2 tm2 q1 (p2.trans q2) q3 q4
    · have : x = (e, s') := by cases e <;> first | exact absurd rfl hne | (simp only [Option.some.injEq] at h2; exact h2.symm)
      subst this
      have := hfin ex g' w' a'.tmps p1 p2 p3 p6
      have hb : bodyPostD C.P fn R ex a' w' := by
        obtain ⟨tmps, df⟩ := a'
        rw [hdf] at p5
        simp only at p5
        subst p5
        exact this
      cases ex with
      | normal => cases e <;> first | exact absurd rfl hne | exact p6.elim
      | _ => exact hb
  | some d =>
    obtain ⟨t, gf, caps⟩ := d
    simp only [hd] at h
    split at h
    case isFalse => cases h
    case isTrue htn =>
    obtain ⟨⟨e, s'⟩, h1, h2⟩ := Option.bind_eq_some_iff.1 h
    simp only at h2
    cases hv : endVal e with
    | none => simp only [hv] at h2; cases h2
    | some rv =>
    cases hrb : recBody C.P gf with
    | none => simp only [hv, hrb] at h2; cases h2
    | some r =>
    obtain ⟨gnt, gt, gd, rest⟩ := r
    simp only [hv, hrb] at h2
    split at h2
    case isFalse => cases h2
    case isTrue hcl =>
    obtain ⟨⟨ey, sy⟩, h3, h4⟩ := Option.bind_eq_some_iff.1 h2
    obtain ⟨id, ops, cs, ty1, ty2, p1, p2, e1, e2, tys, rfl, rfl, hops⟩ := deferAt_some hd
    obtain ⟨hop0, hop1, hops2⟩ := ops_at hops
    obtain ⟨gfn, gid, gops, gty1, gty2, gp1, gp2, ge1, ge2, hgf, hgn, hgr, rfl, hgb, hgt, hgdn, hgops⟩ := recBody_some hrb
    obtain ⟨hg0, hg1, hgsz⟩ := ops_at hgops
    have hopd := ht.opd (C := C) hs.gl
    have hcaps : VRs w g (cs.toList.map (opd C.gl s.tm)) (cs.toList.map a.eval) := VRs_map hopd
    refine wp_seq (wp_region ?_)
    rw [hops2]
    show wpOps C.P ops _ [0, 1] a w
    have hw0 : Region.wanted (⟨some t, .makeFunc (.func gf) #[] cs, ty1, p1, e1, none⟩ : Oper) (yielded ops a.tmps) = true := rfl
    simp only [wpOps, hop0, hw0, if_true]
    refine .inl ?_
    unfold Oper.wp
    have hr0 : (execOp a.eval (⟨some t, .makeFunc (.func gf) #[] cs, ty1, p1, e1, none⟩ : Oper)).run C.P w = .ok (.value (.func (.func gf) #[] (cs.map a.eval))) w := by
      simp only [execOp, Instr.makeFunc, Sem.run_bind, Sem.run_pure, Result.andThen_ok, Array.map_empty]
    rw [hr0, Oper.upon_value]
    simp only [wpOps, hop1]
    have hfnv : VR w g (.fn gf (cs.toList.map (opd C.gl s.tm))) (.func (.func gf) #[] (cs.map a.eval)) := by
      rw [VR]
      exact ⟨cs.toList.map a.eval, by rw [← Array.toList_map, Array.toArray_toList], hcaps⟩
    have htn' : (some t).all (· < a.tmps.size) = true := by simp [hsz, htn]
    have ht1 := ht.put htn' hfnv
    generalize ha1 : a.put (some t) (.func (.func gf) #[] (cs.map a.eval)) = a1 at ht1
    have hsz1 : a1.tmps.size = nt := by rw [← ha1, put_size, hsz]
    have hdf1 : a1.defers = [] := by rw [← ha1, put_defers, hdf]
    have hev1 : a1.eval (.tmp t) = .func (.func gf) #[] (cs.map a.eval) := by
      rw [← ha1]
      simp only [Act.eval, Act.put, Array.getD_eq_getD_getElem?, Array.getElem?_setIfInBounds, if_true, hsz, htn, Option.getD_some]
    refine .inl ?_
    have hr1 : (execOp a1.eval (⟨none, .defer { callee := .value (.tmp t), args := #[], argTypes := tys }, ty2, p2, e2, none⟩ : Oper)).run C.P w = .ok (.defer { target := .fn (.func gf) (cs.map a.eval), args := #[] }) w := by
      simp only [execOp, resolve, hev1, Deferred.ofValue, Sem.run_bind, Sem.run_pure, Result.andThen_ok, Array.map_empty, Array.empty_append]
    show Oper.upon C.P _ a1 _ _ ((execOp a1.eval _).run C.P w)
    rw [hr1, Oper.upon_defer]
    show Exit.then _ _ .normal _ w
    simp only [Exit.then]
    refine wp_mono (hk _ _ _ _ _ h1 (hpart.sub (by simp [Sub, Sub.refl])) w0 g w { a1 with defers := { target := .fn (.func gf) (cs.map a.eval), args := #[] } :: a1.defers } hsz1 hs ht1).1 fun ex a' w' hp => ?_
    obtain ⟨g', p1, p2, p3, p4, p5, p6⟩ := hp
    rw [hdf1] at p5
    have hcaps' := hcaps.mono p2
    have henter : (invoke (.fn (.func gf) (cs.map a.eval)) #[]).run C.P w' = .ok (.enter gf (cs.map a.eval)) w' := by
      have h3' : (gfn.name == "runtime.NumGoroutine") = false := by simpa using hgn
      simp only [invoke, callFunc, Sem.run_bind, run_program, Result.andThen_ok, hgf, h3', Bool.false_eq_true, if_false, hgb, Option.isNone_some, Array.empty_append, Sem.run_pure]
    have hvl : (cs.map a.eval).size ≤ gfn.ntmps := by simpa using hcl
    /- the rest of the function that was deferred -/
    have hrest : ∀ (v : Value) (K : Exit → Act → World → Prop), VR w' g' rv v →
        (∀ g2 w2 (a2 : Act), SR C.P C.gl w0 g2 sy.m w2 → Ext w' g' w2 g2 → a2.defers = [] → x = (.ret, ⟨s'.tm, sy.m⟩) → K .normal a2 w2 ∧ K .ret a2 w2) →
        ∀ b : Act, b.defers = [] → b.tmps = ((cs.map a.eval ++ Array.replicate (gfn.ntmps - (cs.map a.eval).size) undef).setIfInBounds gt v).setIfInBounds gd v →
        rest.wp C.P K b w' := by
      intro v K hvv hK b hbd hbt
      have hbs : b.tmps.size = gfn.ntmps := by rw [hbt]; simp; simp at hvl; omega
      have hargs : TmR w' g' (argsTm 0 (cs.toList.map (opd C.gl s.tm))) (cs.map a.eval ++ Array.replicate (gfn.ntmps - (cs.map a.eval).size) undef) := fun u => by
        have := argsTm_lk _ _ w' g' 0 u (Array.replicate (gfn.ntmps - (cs.map a.eval).size) undef) [] rfl hcaps'
        rw [show ([] : List Value).toArray ++ (cs.toList.map a.eval).toArray = cs.map a.eval from by apply Array.ext'; simp] at this
        exact this
      have hall : TmR w' g' (put (some gd) rv (put (some gt) rv (argsTm 0 (cs.toList.map (opd C.gl s.tm))))) b.tmps := by
        have hz : (cs.map a.eval ++ Array.replicate (gfn.ntmps - (cs.map a.eval).size) undef).size = gfn.ntmps := by simp; simp at hvl; omega
        have h1 := TmR.put (a := { tmps := cs.map a.eval ++ Array.replicate (gfn.ntmps - (cs.map a.eval).size) undef, defers := [] }) (d := some gt) hargs (by simp only [Option.all_some, decide_eq_true_eq, hz]; exact hgt) hvv
        have h2 := TmR.put (d := some gd) h1 (by simp only [Option.all_some, decide_eq_true_eq, put_size, hz]; exact hgdn) hvv
        rw [hbt]
        exact h2
      refine wp_mono (hk _ _ _ _ _ h3 ⟨gfn, _, hgf, hgb, by simp [Sub, Sub.refl]⟩ w0 g' w' b hbs p1 hall).1 fun ex2 a2 w2 hp2 => ?_
      obtain ⟨g2, q1, q2, q3, q4, q5, q6⟩ := hp2
      cases ey with
      | exit i => cases h4
      | pan b => cases h4
      | normal =>
        simp only [Option.some.injEq] at h4
        cases ex2 <;> first | exact q6.elim | skip
        exact (hK g2 w2 a2 q1 q2 (by rw [q5, hbd]) h4.symm).1
      | ret =>
        simp only [Option.some.injEq] at h4
        cases ex2 <;> first | exact q6.elim | skip
        exact (hK g2 w2 a2 q1 q2 (by rw [q5, hbd]) h4.symm).2
    have hcall : ∀ (u u2 : FrameMode) (v : Value), u ≠ .run → VR w' g' rv v → settle u2 = .returning →
        (∀ (c0 : Frame) (cs0 : List Frame), c0.mode = u → (recoverD (c0 :: cs0) = none ∧ v = .nilIface ∧ u2 = u) ∨ recoverD (c0 :: cs0) = some (v, { c0 with mode := u2 } :: cs0)) →
        Leaves C.P fn a'.tmps R [{ target := .fn (.func gf) (cs.map a.eval), args := #[] }] u w' := by
      intro u u2 v hu hvv hset hrec
      refine leaves_cons hu henter (callsD_of_wpS hgf hgb fun c0 cs0 hc0 => wpS_seq (wpS_region ?_))
      rw [hgsz]
      show wpOpsS C.P gops _ [0, 1] _ _ w'
      refine stepS_recover (v := v) (cs1 := { c0 with mode := u2 } :: cs0) hg0 rfl rfl ?_ ?_
      · rcases hrec c0 cs0 hc0 with ⟨h1, h2, h3⟩ | h1
        · exact .inl ⟨h1, h2, by rw [h3, ← hc0]⟩
        · exact .inr h1
      have hz : (cs.map a.eval ++ Array.replicate (gfn.ntmps - (cs.map a.eval).size) undef).size = gfn.ntmps := by simp; simp at hvl; omega
      have hev : (Act.put { tmps := cs.map a.eval ++ Array.replicate (gfn.ntmps - (cs.map a.eval).size) undef, defers := [] } (some gt) v).eval (.tmp gt) = v := by
        simp only [Act.eval, Act.put, Array.getD_eq_getD_getElem?, Array.getElem?_setIfInBounds, if_true, hz, hgt, Option.getD_some]
      refine stepS_value (v := v) hg1 rfl ?_ ?_
      · show Result.ok (Next.value (Act.eval _ (.tmp gt))) w' = _
        rw [hev]
      show rest.wpS C.P _ _ _ w'
      refine wpS_of_wp (hrest v _ hvv ?_ _ rfl rfl)
      intro g2 w2 a2 q1 q2 q3 hx
      subst hx
      have hl : Leaves C.P fn a'.tmps R [] (settle u2) w2 := by
        rw [hset]
        exact hfin .ret g2 w2 a'.tmps q1 (p2.trans q2) (p3.mono q2) trivial
      have hres : (results gfn a2.tmps).run C.P w2 = .ok (.tuple #[]) w2 := by
        unfold results
        rw [hgr, Sem.run_bind, Array.mapM_eq_mapM_toList, Sem.run_map]
        rfl
      exact ⟨⟨q3, u2, rfl, _, hres, hl⟩, ⟨q3, u2, rfl, _, hres, hl⟩⟩
    have hret : endVal e = some .nili → Leaves C.P fn a'.tmps R a'.defers .returning w' := by
      intro he
      rw [he] at hv
      simp only [Option.some.injEq] at hv
      subst hv
      rw [p5]
      refine hcall .returning .returning .nilIface (by simp) (by rw [VR]) rfl fun c0 cs0 hc0 => .inl ⟨?_, rfl, rfl⟩
      simp only [recoverD, hc0]
    cases e with
    | exit i => cases hv
    | normal =>
      cases ex <;> first | exact p6.elim | skip
      exact hret rfl
    | ret =>
      cases ex <;> first | exact p6.elim | skip
      exact hret rfl
    | pan b =>
      cases ex <;> first | exact p6.elim | skip
      rename_i chain
      obtain ⟨v, rfl, hvb⟩ := p6
      simp only [endVal, Option.some.injEq] at hv
      subst hv
      show Leaves C.P fn a'.tmps R a'.defers (.panicking [{ v, recovered := false }]) w'
      rw [p5]
      refine hcall _ (.panicking [{ v, recovered := true }]) v (by simp) hvb rfl fun c0 cs0 hc0 => .inr ?_
      simp only [recoverD, hc0]
end
end AE
end Go.Proofs.YthoomlenmgdebaaGreatDoor
