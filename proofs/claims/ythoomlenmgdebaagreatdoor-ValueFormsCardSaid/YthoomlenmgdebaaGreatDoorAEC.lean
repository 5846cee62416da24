/- THE EVALUATOR IS SOUND. -/
import Derived.Test.YthoomlenmgdebaaGreatDoorAEB
set_option linter.unusedVariables false
set_option linter.unusedSimpArgs false
set_option linter.unusedSectionVars false
set_option maxHeartbeats 1600000
namespace Go.Proofs.YthoomlenmgdebaaGreatDoor
namespace AE
open Go Go.RowKit

section
variable {C : Cfg}

theorem ops_step {ops : Array Oper} {all rest : List Oper} {o : Oper} {k : Nat} (ho : ops.toList = all) (hl : o :: rest = all.drop k) : ops[k]? = some o ∧ rest = all.drop (k + 1) := by
  have h1 : all[k]? = some o := by
    have : (all.drop k)[0]? = some o := by rw [← hl]; rfl
    rwa [List.getElem?_drop, Nat.add_zero] at this
  refine ⟨by rw [← Array.getElem?_toList, ho]; exact h1, ?_⟩
  rw [← List.drop_drop, ← hl]
  rfl

/-- One operation that hands its value on. -/
theorem op_next {w0 w : World} {g : Gh} {nt : Nat} {a : Act} {s : St} {ops : Array Oper} {k n : Nat} {o : Oper} {b : A} {m' : Mem} {Q : Exit → Act → World → Prop}
    (ho : ops[k]? = some o) (hd : o.dst.all (· < nt) = true) (hw : Region.wanted o (yielded ops a.tmps) = true) (hsz : a.tmps.size = nt) (ht : TmR w g s.tm a.tmps)
    (hg : Good C.P C.gl w0 w g m' b ((execOp a.eval o).run C.P w))
    (hn : ∀ g' w' (a' : Act), Ext w g w' g' → a'.tmps.size = nt → a'.defers = a.defers → SR C.P C.gl w0 g' m' w' → TmR w' g' (put o.dst b s.tm) a'.tmps → wpOps C.P ops Q (List.range' (k + 1) n) a' w') :
    wpOps C.P ops Q (k :: List.range' (k + 1) n) a w := by
  obtain ⟨v, w', g', hr, hv, hs', he⟩ := hg
  simp only [wpOps, ho, hw, if_true]
  refine .inl ?_
  have hput : o.dst.all (· < a.tmps.size) = true := by rw [hsz]; exact hd
  have hnext := hn g' w' (a.put o.dst v) he (by rw [put_size, hsz]) (put_defers _ _ _) hs' ((ht.mono he).put hput hv)
  unfold Oper.wp
  rcases hr with hr | ⟨hr, rfl⟩
  · rw [hr]; exact hnext
  · rw [hr]; exact hnext

theorem callK_sound {evC : FuncId → List A → Mem → Option (Res × Mem)} {evO : FuncId → Nat → List Oper → List Oper → St → Option (Ex × St)}
    (hc : ∀ f args m r, evC f args m = some r → CallOk C f args m r) (hoo : ∀ f nt all l s x, evO f nt all l s = some x → OpsOk C f nt all l s x)
    {w0 w : World} {g : Gh} {f nt : Nat} {a : Act} {s : St} {x : Ex × St} {ops : Array Oper} {k : Nat} {all rest : List Oper} {o : Oper} {Q : Exit → Act → World → Prop} {gop : Operand} {args : Array Operand} {argTypes : Array TypeId}
    (hop : o.op = .call { callee := .value gop, args, argTypes }) (hall : ops.toList = all) (hrest : rest = all.drop (k + 1))
    (ho : ops[k]? = some o) (hd : o.dst.all (· < nt) = true) (hw : Region.wanted o (yielded ops a.tmps) = true) (hsz : a.tmps.size = nt) (hs : SR C.P C.gl w0 g s.m w) (ht : TmR w g s.tm a.tmps)
    {h : FuncId} {caps : List A} (hfn : opd C.gl s.tm gop = .fn h caps)
    (hev : ((evC h (args.toList.map (opd C.gl s.tm) ++ caps) s.m).bind fun y => match y.1 with
        | .ret b => evO f nt all rest ⟨put o.dst b s.tm, y.2⟩
        | .pan b => some (.pan b, ⟨s.tm, y.2⟩)) = some x)
    (hQ : ∀ e a' w', Post C w0 w g nt a.defers x e a' w' → Q e a' w') : wpOps C.P ops Q (k :: List.range' (k + 1) rest.length) a w := by
  obtain ⟨⟨r, m'⟩, h1, h2⟩ := Option.bind_eq_some_iff.1 hev
  obtain ⟨hcb, hcall⟩ := hc _ _ _ _ h1
  have hopd := ht.opd (C := C) hs.gl
  have hg := hopd gop
  rw [hfn, VR] at hg
  obtain ⟨us, hgv, hus⟩ := hg
  simp only [wpOps, ho, hw, if_true]
  refine .inl ?_
  unfold Oper.wp
  rw [run_call hop hgv hcb, Oper.upon_enter]
  have hargs : VRs w g (args.toList.map (opd C.gl s.tm) ++ caps) (args.toList.map a.eval ++ us) := (VRs_map hopd).append hus
  have := hcall w0 g w _ hs hargs
  rw [show (args.toList.map a.eval ++ us).toArray = args.map a.eval ++ us.toArray from by
    apply Array.ext'; simp] at this
  refine this.mono fun e w' hR => ?_
  obtain ⟨g', hs', he, hres⟩ := hR
  cases r with
  | ret b =>
    cases e with
    | returned v =>
      have hput : o.dst.all (· < a.tmps.size) = true := by rw [hsz]; exact hd
      have hk := hoo _ _ _ _ _ _ h2 w0 g' w' (a.put o.dst v) ops (k + 1) Q hall hrest (by rw [put_size, hsz]) hs' ((ht.mono he).put hput hres)
        (fun e a' W hp => hQ e a' W (by rw [put_defers] at hp; exact Post.ext he hp))
      exact hk
    | panicked ch => exact hres.elim
    | outgrown => exact hres.elim
  | pan b =>
    simp only [Option.some.injEq] at h2
    subst h2
    cases e with
    | returned v => exact hres.elim
    | panicked ch => exact hQ _ _ _ ⟨g', hs', he, ht.mono he, hsz, rfl, hres⟩
    | outgrown => exact hres.elim

theorem ops_sound {evC : FuncId → List A → Mem → Option (Res × Mem)} {evO : FuncId → Nat → List Oper → List Oper → St → Option (Ex × St)}
    (hc : ∀ f args m r, evC f args m = some r → CallOk C f args m r) (hoo : ∀ f nt all l s x, evO f nt all l s = some x → OpsOk C f nt all l s x)
    (f nt : Nat) (all l : List Oper) (s : St) (x : Ex × St)
    (h : (match l with
      | [] => some (Ex.normal, s)
      | o :: rest =>
        match o.dst.all (· < nt), wantA o all s.tm with
        | true, some true =>
          match o.op with
          | .panic x => (panA (opd C.gl s.tm x)).map fun a => (.pan a, s)
          | .call { callee := .value g, args, argTypes } =>
            match opd C.gl s.tm g with
            | .fn h caps => (do
              let x ← evC h (args.toList.map (opd C.gl s.tm) ++ caps) s.m
              match x.1 with
                | .ret a => evO f nt all rest ⟨put o.dst a s.tm, x.2⟩
                | .pan a => some (.pan a, ⟨s.tm, x.2⟩))
            | _ => none
          | .convert t u x =>
            match strM C.P t u (opd C.gl s.tm x) s.m with
            | some a => evO f nt all rest ⟨put o.dst a s.tm, s.m⟩
            | none => (do
              let x ← opA C.P (.convert t u x) (opd C.gl s.tm) s.m
              evO f nt all rest ⟨put o.dst x.1 s.tm, x.2⟩)
          | op => (do
            let x ← opA C.P op (opd C.gl s.tm) s.m
            evO f nt all rest ⟨put o.dst x.1 s.tm, x.2⟩)
        | true, some false => evO f nt all rest ⟨put o.dst (.tup []) s.tm, s.m⟩
        | _, _ => none) = some x) : OpsOk C f nt all l s x := by
  intro w0 g w a ops k Q hall hl hsz hs ht hQ
  cases l with
  | nil =>
    simp only [Option.some.injEq] at h
    subst h
    exact hQ _ _ _ ⟨g, hs, Ext.refl _ _, ht, hsz, rfl, trivial⟩
  | cons o rest =>
    obtain ⟨hok, hrest⟩ := ops_step hall hl
    have hlen : List.range' k (o :: rest).length = k :: List.range' (k + 1) rest.length := by simp [List.range'_succ]
    rw [hlen]
    simp only at h
    cases hd : o.dst.all (· < nt) with
    | false => simp [hd] at h
    | true =>
    cases hw : wantA o all s.tm with
    | none => simp [hd, hw] at h
    | some b =>
    have hwant := want_sound hall hw ht
    simp only [hd, hw] at h
    cases b with
    | false =>
      simp only at h
      simp only [wpOps, hok, hwant, Bool.false_eq_true, if_false]
      have hput : o.dst.all (· < a.tmps.size) = true := by rw [hsz]; exact hd
      exact hoo _ _ _ _ _ _ h w0 g w (a.put o.dst undef) ops (k + 1) Q hall hrest (by rw [put_size, hsz]) hs (ht.put hput (by rw [VR]; exact ⟨[], rfl, VRs.mk_nil⟩))
        (fun e a' W hp => hQ e a' W (by rw [put_defers] at hp; exact hp))
    | true =>
      simp only at h
      have hopd := ht.opd (C := C) hs.gl
      split at h
      · rename_i p hop
        obtain ⟨b, hb, rfl⟩ := Option.map_eq_some_iff.1 h
        unfold panA at hb
        split at hb
        · rename_i t y hv
          simp only [Option.some.injEq] at hb
          subst hb
          have hp := hopd p
          rw [hv] at hp
          have hp' := hp
          rw [VR] at hp
          obtain ⟨u, hu, _⟩ := hp
          simp only [wpOps, hok, hwant, if_true]
          refine .inl ?_
          unfold Oper.wp
          have hr : (execOp a.eval o).run C.P w = .halt (.panic (.iface t u)) w := by
            simp only [execOp, hop, hu, Instr.panic, Sem.run_bind, run_goPanic, Result.andThen_halt]
          rw [hr, Oper.upon_panic]
          exact hQ _ _ _ ⟨g, hs, Ext.refl _ _, ht, hsz, rfl, _, rfl, by rw [← hu]; exact hp'⟩
        · cases hb
      · rename_i gop args argTypes hop
        cases hfn : opd C.gl s.tm gop <;> simp only [hfn, reduceCtorEq] at h
        exact callK_sound hc hoo hop hall hrest hok hd hwant hsz hs ht hfn h hQ
      · rename_i t u y hop
        cases hst : strM C.P t u (opd C.gl s.tm y) s.m with
        | some b =>
          rw [hst] at h
          obtain ⟨v, hv1, hv2⟩ := strM_sound hs hst (hopd y)
          exact op_next hok hd hwant hsz ht (Good.pure hs hv2 (by simp only [execOp, hop, Sem.run_bind, hv1, Result.andThen_ok, Sem.run_pure])) fun g' w' a' he hsz' hdf hs' ht' =>
            hoo _ _ _ _ _ _ h w0 g' w' a' ops (k + 1) Q hall hrest hsz' hs' ht' (fun e a'' W hp => hQ e a'' W (by rw [hdf] at hp; exact Post.ext he hp))
        | none =>
          rw [hst] at h
          obtain ⟨⟨b, m'⟩, h1, h2⟩ := Option.bind_eq_some_iff.1 h
          rw [← hop] at h1
          have hgood := opA_sound hs o h1 hopd
          exact op_next hok hd hwant hsz ht hgood fun g' w' a' he hsz' hdf hs' ht' =>
            hoo _ _ _ _ _ _ h2 w0 g' w' a' ops (k + 1) Q hall hrest hsz' hs' ht' (fun e a'' W hp => hQ e a'' W (by rw [hdf] at hp; exact Post.ext he hp))
      · rename_i op hop1 hop2 hop3
        obtain ⟨⟨b, m'⟩, h1, h2⟩ := Option.bind_eq_some_iff.1 h
        have hgood := opA_sound hs o h1 hopd
        exact op_next hok hd hwant hsz ht hgood fun g' w' a' he hsz' hdf hs' ht' =>
          hoo _ _ _ _ _ _ h2 w0 g' w' a' ops (k + 1) Q hall hrest hsz' hs' ht' (fun e a'' W hp => hQ e a'' W (by rw [hdf] at hp; exact Post.ext he hp))

theorem cutRows_sound (hC : CfgOk C) {m0 m : Mem} {w0 w w' : World} {g g' : Gh} (c2 : m0.bx.length ≤ m.bx.length)
    (c3 : ∀ i, i < m0.bx.length → m.bx[i]? = m0.bx[i]? ∨ ∃ cs, m.bx[i]? = some cs ∧ cs.all (closed m0.bx.length m.rw.length) = true)
    (c4 : ∀ i, i < m.rw.length → m.rw[i]? = m0.rw[i]? ∨ ∃ r, m.rw[i]? = some r ∧ r.cs.all (closed m0.bx.length m.rw.length) = true)
    (hs0 : SR C.P C.gl w0 g m0 w) (hs : SR C.P C.gl w0 g' m w') (he : Ext w g w' g') :
    SR C.P C.gl w0 (cutG g' m0.bx.length m.rw.length) ⟨m.bx.take m0.bx.length, m.rw⟩ w' ∧ Ext w g w' (cutG g' m0.bx.length m.rw.length) := by
  have hlen := hs.rlen
  have hlen0 := hs0.rlen
  have hle : m0.rw.length ≤ m.rw.length := by
    rcases Nat.eq_zero_or_pos m0.rw.length with q | q
    · omega
    · have hlt : m0.rw.length - 1 < g.rl.length := by omega
      obtain ⟨L', h1, _⟩ := he.rl _ _ (List.getElem?_eq_getElem hlt)
      have := (List.getElem?_eq_some_iff.1 h1).1
      omega
  have hcut := hs.cut hC.gl m0.bx.length m.rw.length c2 (Nat.le_refl _)
    (fun i cs hi hq => by
      rcases c3 i hi with e | ⟨ds, e, hd⟩
      · rw [hq] at e
        obtain ⟨us, ty, _, hv⟩ := hs0.bx i cs e.symm
        have := VRs.closed _ _ hv
        rw [hs0.nb, hlen0, closedL_all] at this
        rw [← closedL_all] at this ⊢
        exact closedL_mono (Nat.le_refl _) hle _ this
      · rw [hq] at e
        cases e
        exact hd)
    (fun i r hi hq => by
      rcases c4 i hi with e | ⟨r', e, hd⟩
      · rw [hq] at e
        obtain ⟨us, ss, rest, _, _, _, hv⟩ := hs0.rw i r e.symm
        have := VRs.closed _ _ hv
        rw [hs0.nb, hlen0] at this
        rw [← closedL_all]
        exact closedL_mono (Nat.le_refl _) hle _ this
      · rw [hq] at e
        cases e
        exact hd)
  rw [List.take_length] at hcut
  refine ⟨hcut, ⟨⟨fun b o hF => ⟨.inl (he.fx b o hF).1, (he.fx b o hF).2⟩, by simp [cutG, hs0.nb], he.bb, fun i L hL => ?_⟩, fun b hb hl => ?_, he.sz⟩⟩
  · obtain ⟨L', h1, h2⟩ := he.rl i L hL
    have := (List.getElem?_eq_some_iff.1 h1).1
    exact ⟨L', by simp only [cutG]; rw [List.getElem?_take, if_pos (by omega)]; exact h1, h2⟩
  · obtain ⟨h1, h2⟩ := he.fr b hb hl
    exact ⟨h1, h2.cut _ _ (by rw [hs.nb]; exact c2)⟩

theorem endRound_sound (hC : CfgOk C) {k : Option (List Nat)} {s s1 : St} {m0 : Mem} {w0 w w' : World} {g g' : Gh} {tmps : Array Value} (h : endRound k m0 s = some s1) (hs0 : SR C.P C.gl w0 g m0 w) (hs : SR C.P C.gl w0 g' s.m w') (he : Ext w g w' g') (ht : TmR w' g' s.tm tmps) :
    ∃ g'', SR C.P C.gl w0 g'' s1.m w' ∧ Ext w g w' g'' ∧ TmR w' g'' s1.tm tmps := by
  unfold endRound at h
  cases k with
  | none =>
    simp only [Option.some.injEq] at h
    subst h
    exact ⟨g', hs, he, ht⟩
  | some l =>
    simp only at h
    split at h
    · rename_i hc
      obtain ⟨c1, c2, c3, c4⟩ := hc
      simp only [Option.some.injEq] at h
      subst h
      have hlen := hs.rlen
      have hlen0 := hs0.rlen
      have hle : m0.rw.length ≤ s.m.rw.length := by
        rcases Nat.eq_zero_or_pos m0.rw.length with q | q
        · omega
        · have hlt : m0.rw.length - 1 < g.rl.length := by omega
          obtain ⟨L', h1, _⟩ := he.rl _ _ (List.getElem?_eq_getElem hlt)
          have := (List.getElem?_eq_some_iff.1 h1).1
          omega
      have hcut := hs.cut hC.gl m0.bx.length s.m.rw.length c2 (Nat.le_refl _)
        (fun i cs hi hq => by
          rcases c3 i hi with e | ⟨ds, e, hd⟩
          · rw [hq] at e
            obtain ⟨us, ty, _, hv⟩ := hs0.bx i cs e.symm
            have := VRs.closed _ _ hv
            rw [hs0.nb, hlen0, closedL_all] at this
            rw [← closedL_all] at this ⊢
            exact closedL_mono (Nat.le_refl _) hle _ this
          · rw [hq] at e
            cases e
            exact hd)
        (fun i r hi hq => by
          rcases c4 i hi with e | ⟨r', e, hd⟩
          · rw [hq] at e
            obtain ⟨us, ss, rest, _, _, _, hv⟩ := hs0.rw i r e.symm
            have := VRs.closed _ _ hv
            rw [hs0.nb, hlen0] at this
            rw [← closedL_all]
            exact closedL_mono (Nat.le_refl _) hle _ this
          · rw [hq] at e
            cases e
            exact hd)
      rw [List.take_length] at hcut
      refine ⟨_, hcut, ?_, ?_⟩
      · refine ⟨⟨fun b o hF => ⟨.inl (he.fx b o hF).1, (he.fx b o hF).2⟩, by simp [cutG, hs0.nb], he.bb, fun i L hL => ?_⟩, fun b hb hl => ?_, he.sz⟩
        · obtain ⟨L', h1, h2⟩ := he.rl i L hL
          have := (List.getElem?_eq_some_iff.1 h1).1
          exact ⟨L', by simp only [cutG]; rw [List.getElem?_take, if_pos (by omega)]; exact h1, h2⟩
        · obtain ⟨h1, h2⟩ := he.fr b hb hl
          exact ⟨h1, h2.cut _ _ (by rw [hs.nb]; exact c2)⟩
      · intro t
        show VR w' _ (lk t (l.map fun t => (t, lk t s.tm))) _
        by_cases hin : t ∈ l
        · rcases lk_map l s.tm t with e | e
          · rw [e]
            exact VR.cut _ _ (c1 t hin) (ht t)
          · rw [e, VR]; trivial
        · have : lk t (l.map fun t => (t, lk t s.tm)) = .undef := by
            clear c1
            induction l with
            | nil => rfl
            | cons u r ih =>
              simp only [List.mem_cons, not_or] at hin
              simp only [List.map_cons, lk]
              rw [if_neg (Ne.symm hin.1)]
              exact ih hin.2
          rw [this, VR]; trivial
    · cases h

theorem leave_sound (hC : CfgOk C) {keep : Bool} {m0 m : Mem} {r : Res} {x : Res × Mem} {w0 w w' : World} {g g' : Gh} {e : Ending} (h : leave C.P keep m0 r m = some x) (hs0 : SR C.P C.gl w0 g m0 w) (hs : SR C.P C.gl w0 g' m w') (he : Ext w g w' g') (hr : ResR w' g' r e) :
    ∃ g'', SR C.P C.gl w0 g'' x.2 w' ∧ Ext w g w' g'' ∧ ResR w' g'' x.1 e := by
  unfold leave at h
  split at h
  · split at h
    · rename_i hk
      obtain ⟨⟨c2, c3, c4⟩, c1⟩ := hk
      simp only [Option.some.injEq] at h
      subst h
      obtain ⟨q1, q2⟩ := cutRows_sound hC c2 c3 c4 hs0 hs he
      refine ⟨_, q1, q2, ?_⟩
      cases r with
      | ret a =>
        cases e with
        | returned v => exact VR.cut _ _ c1 hr
        | panicked ch => exact hr.elim
        | outgrown => exact hr.elim
      | pan a =>
        cases e with
        | returned v => exact hr.elim
        | panicked ch =>
          obtain ⟨v, hv, hr⟩ := hr
          exact ⟨v, hv, VR.cut _ _ c1 hr⟩
        | outgrown => exact hr.elim
    · cases h
  · split at h
    · rename_i hk
      obtain ⟨k1, k2, k3, k4⟩ := hk
      simp only [Option.some.injEq] at h
      subst h
      have hlen0 := hs0.rlen
      have hcut := hs.cut hC.gl m0.bx.length m0.rw.length k1 k2
        (fun i cs hi hq => by
          rcases k3 i hi with e | ⟨ds, e, hd⟩
          · rw [hq] at e
            obtain ⟨us, ty, _, hv⟩ := hs0.bx i cs e.symm
            have := VRs.closed _ _ hv
            rwa [hs0.nb, hlen0, closedL_all] at this
          · rw [hq] at e
            cases e
            exact hd)
        (fun i r hi hq => by
          rcases k4 i hi with e | ⟨r', e, hd⟩
          · rw [hq] at e
            obtain ⟨us, ss, rest, _, _, _, hv⟩ := hs0.rw i r e.symm
            have := VRs.closed _ _ hv
            rwa [hs0.nb, hlen0, closedL_all] at this
          · rw [hq] at e
            cases e
            exact hd)
      have hext := he.cut
      rw [hs0.nb, hlen0] at hext
      refine ⟨_, hcut, hext, ?_⟩
      cases r with
      | ret a =>
        cases e with
        | returned v => exact er_sound hs _ _ _ hr
        | panicked ch => exact hr.elim
        | outgrown => exact hr.elim
      | pan a =>
        cases e with
        | returned v => exact hr.elim
        | panicked ch =>
          obtain ⟨v, hv, hr⟩ := hr
          exact ⟨v, hv, er_sound hs _ _ _ hr⟩
        | outgrown => exact hr.elim
    · cases h
end
end AE
end Go.Proofs.YthoomlenmgdebaaGreatDoor
