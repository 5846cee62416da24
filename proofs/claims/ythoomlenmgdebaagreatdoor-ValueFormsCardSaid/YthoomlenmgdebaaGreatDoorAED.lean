/- THE EVALUATOR IS SOUND: codes, calls. -/
import Derived.Test.YthoomlenmgdebaaGreatDoorAEZ
set_option linter.unusedVariables false
set_option linter.unusedSimpArgs false
set_option linter.unusedSectionVars false
set_option maxHeartbeats 1600000
namespace Go.Proofs.YthoomlenmgdebaaGreatDoor
namespace AE
open Go Go.RowKit

section
variable {C : Cfg}

/-- What stands behind a step that has ended otherwise. -/
theorem Post.exit_ne {w0 w : World} {g : Gh} {nt : Nat} {df : List Deferred} {e : Ex} {s : St} {ex : Exit} {a : Act} {W : World} (hne : e ≠ .normal) (h : Post C w0 w g nt df (e, s) ex a W) (N : Act → World → Prop) (Q : Exit → Act → World → Prop) (hQ : Q ex a W) : Exit.then N Q ex a W := by
  obtain ⟨g', h1, h2, h3, h4, h5, h6⟩ := h
  cases ex with
  | normal =>
    cases e <;> first | exact absurd rfl hne | exact h6.elim
  | exit i => exact hQ
  | goto l => exact hQ
  | ret => exact hQ
  | panic ch => exact hQ
  | outgrown => exact hQ

theorem code_sound (hC : CfgOk C) {evK : FuncId → Nat → Code → St → Option (Ex × St)} {evO : FuncId → Nat → List Oper → List Oper → St → Option (Ex × St)}
    (hk : ∀ f nt c s x, evK f nt c s = some x → CodeOk C f nt c s x) (hoo : ∀ f nt all l s x, evO f nt all l s = some x → OpsOk C f nt all l s x)
    {evD : FuncId → Nat → List Oper → List Oper → St → Option (List Ent × Option (A × Mem) × St)} (hdd : ∀ f nt all l s x, evD f nt all l s = some x → DrawR C nt all l s x.1 x.2)
    (f nt : Nat) (c : Code) (s : St) (x : Ex × St)
    (h : (match c with
      | .skip => some (Ex.normal, s)
      | .region id ops draw =>
        if draw then (do
          let y ← evD f nt ops.toList ops.toList s
          drawEnd C.P C.gl nt (C.ann.dok f id) (C.ann.draw f id) ops.toList y.1 (C.ann.reg f id) y.2)
        else (do
        let x ← evO f nt ops.toList ops.toList s
        match x.1 with
          | .normal => some (Ex.normal, ⟨prune (C.ann.reg f id) x.2.tm, x.2.m⟩)
          | e => some (e, x.2))
      | .seq a b => (do
        let x ← evK f nt a s
        match x.1 with
          | .normal => evK f nt b x.2
          | e => some (e, x.2))
      | .cond c a b =>
        match opd C.gl s.tm c with
        | .bool t => if t then evK f nt a s else evK f nt b s
        | _ => none
      | .block id b => (do
        let x ← evK f nt b s
        match x.1 with
          | .exit i => if i = id then some (.normal, x.2) else some (.exit i, x.2)
          | e => some (e, x.2))
      | .loop b => (do
        let x ← evK f nt b ⟨prune (C.ann.loop f (headId b)) s.tm, s.m⟩
        match x.1 with
          | .normal => (do
            let s1 ← endRound (C.ann.loop f (headId b)) s.m x.2
            evK f nt (.loop b) s1)
          | e => some (e, x.2))
      | .exit id => some (.exit id, s)
      | .ret => some (.ret, s)
      | _ => none) = some x) : CodeOk C f nt c s x := by
  intro hpart w0 g w a hsz hs ht
  have done : ∀ e : Ex, ∀ ex : Exit, ExR w g e ex → Post C w0 w g nt a.defers (e, s) ex a w := fun e ex he => ⟨g, hs, Ext.refl _ _, ht, hsz, rfl, he⟩
  cases c <;> simp only [reduceCtorEq] at h
  case skip =>
    simp only [Option.some.injEq] at h
    subst h
    exact ⟨wp_skip (done _ _ trivial), fun b e => by cases e⟩
  case exit id =>
    simp only [Option.some.injEq] at h
    subst h
    exact ⟨wp_exit (done _ _ rfl), fun b e => by cases e⟩
  case ret =>
    simp only [Option.some.injEq] at h
    subst h
    exact ⟨wp_ret (done _ _ trivial), fun b e => by cases e⟩
  case region id ops draw =>
    refine ⟨?_, fun b e => by cases e⟩
    cases draw with
    | true =>
      simp only [if_true] at h
      obtain ⟨y, h1, h2⟩ := Option.bind_eq_some_iff.1 h
      exact draw_sound hC.mixed (hC.dok f id ops hpart) (hdd _ _ _ _ _ _ h1) h2 hsz hs ht
    | false =>
      simp only [Bool.false_eq_true, if_false] at h
      obtain ⟨⟨e, s'⟩, h1, h2⟩ := Option.bind_eq_some_iff.1 h
      refine wp_region ?_
      have := hoo _ _ _ _ _ _ h1 w0 g w a ops 0 (Post C w0 w g nt a.defers x) rfl rfl hsz hs ht ?_
      · rw [show List.range ops.size = List.range' 0 ops.toList.length from by rw [List.range_eq_range', Array.length_toList]]
        exact this
      · rintro ex a' w' ⟨g', p1, p2, p3, p4, p5, p6⟩
        cases e with
        | normal =>
          simp only [Option.some.injEq] at h2
          subst h2
          exact ⟨g', p1, p2, p3.prune _, p4, p5, p6⟩
        | exit i => simp only [Option.some.injEq] at h2; subst h2; exact ⟨g', p1, p2, p3, p4, p5, p6⟩
        | ret => simp only [Option.some.injEq] at h2; subst h2; exact ⟨g', p1, p2, p3, p4, p5, p6⟩
        | pan b => simp only [Option.some.injEq] at h2; subst h2; exact ⟨g', p1, p2, p3, p4, p5, p6⟩
  case seq c1 c2 =>
    refine ⟨wp_seq ?_, fun b e => by cases e⟩
    obtain ⟨⟨e, s'⟩, h1, h2⟩ := Option.bind_eq_some_iff.1 h
    refine wp_mono (hk _ _ _ _ _ h1 (hpart.sub (by simp [Sub, Sub.refl])) w0 g w a hsz hs ht).1 fun ex a' w' hp => ?_
    by_cases hne : e = .normal
    · subst hne
      simp only at h2
      obtain ⟨g', p1, p2, p3, p4, p5, p6⟩ := hp
      cases ex <;> first | exact p6.elim | skip
      refine wp_mono (hk _ _ _ _ _ h2 (hpart.sub (by simp [Sub, Sub.refl])) w0 g' w' a' p4 p1 p3).1 fun ex a'' w'' hp => ?_
      rw [p5] at hp
      exact Post.ext p2 hp
    · have : x = (e, s') := by cases e <;> first | exact absurd rfl hne | (simp only [Option.some.injEq] at h2; exact h2.symm)
      subst this
      exact Post.exit_ne hne hp _ _ hp
  case cond c c1 c2 =>
    refine ⟨?_, fun b e => by cases e⟩
    have hopd := ht.opd (C := C) hs.gl c
    cases hc : opd C.gl s.tm c <;> simp only [hc, reduceCtorEq] at h
    rename_i t
    rw [hc, VR] at hopd
    cases t with
    | true => exact wp_cond hopd (hk _ _ _ _ _ (by simpa using h) (hpart.sub (by simp [Sub, Sub.refl])) w0 g w a hsz hs ht).1
    | false => exact wp_cond hopd (hk _ _ _ _ _ (by simpa using h) (hpart.sub (by simp [Sub, Sub.refl])) w0 g w a hsz hs ht).1
  case block id b =>
    refine ⟨wp_block ?_, fun b e => by cases e⟩
    obtain ⟨⟨e, s'⟩, h1, h2⟩ := Option.bind_eq_some_iff.1 h
    refine wp_mono (hk _ _ _ _ _ h1 (hpart.sub (by simp [Sub, Sub.refl])) w0 g w a hsz hs ht).1 fun ex a' w' hp => ?_
    obtain ⟨g', p1, p2, p3, p4, p5, p6⟩ := hp
    cases e with
    | normal =>
      simp only [Option.some.injEq] at h2
      subst h2
      cases ex <;> first | exact p6.elim | skip
      exact ⟨g', p1, p2, p3, p4, p5, trivial⟩
    | ret =>
      simp only [Option.some.injEq] at h2
      subst h2
      cases ex <;> first | exact p6.elim | skip
      exact ⟨g', p1, p2, p3, p4, p5, trivial⟩
    | pan b =>
      simp only [Option.some.injEq] at h2
      subst h2
      cases ex <;> first | exact p6.elim | skip
      exact ⟨g', p1, p2, p3, p4, p5, p6⟩
    | exit i =>
      cases ex <;> first | exact p6.elim | skip
      rename_i j
      have hij : i = j := p6
      subst hij
      simp only at h2
      by_cases hi : i = id
      · rw [if_pos hi] at h2
        simp only [Option.some.injEq] at h2
        subst h2
        simp only [Exit.inBlock]
        rw [if_pos hi]
        exact ⟨g', p1, p2, p3, p4, p5, trivial⟩
      · rw [if_neg hi] at h2
        simp only [Option.some.injEq] at h2
        subst h2
        simp only [Exit.inBlock]
        rw [if_neg hi]
        exact ⟨g', p1, p2, p3, p4, p5, rfl⟩
  case loop b =>
    have key : b.wp C.P (Exit.then (LoopArr C.P b (Post C w0 w g nt a.defers x)) (Post C w0 w g nt a.defers x)) a w := by
      obtain ⟨⟨e, s'⟩, h1, h2⟩ := Option.bind_eq_some_iff.1 h
      refine wp_mono (hk _ _ _ _ _ h1 (hpart.sub (by simp [Sub, Sub.refl])) w0 g w a hsz hs (ht.prune _)).1 fun ex a' w' hp => ?_
      by_cases hne : e = .normal
      · subst hne
        obtain ⟨s1, h3, h4⟩ := Option.bind_eq_some_iff.1 h2
        obtain ⟨g', p1, p2, p3, p4, p5, p6⟩ := hp
        cases ex <;> first | exact p6.elim | skip
        obtain ⟨g'', q1, q2, q3⟩ := endRound_sound hC h3 hs p1 p2 p3
        refine ((hk _ _ _ _ _ h4 hpart w0 g'' w' a' p4 q1 q3).2 b rfl).mono fun ex a'' w'' hp => ?_
        rw [p5] at hp
        exact Post.ext q2 hp
      · have : x = (e, s') := by cases e <;> first | exact absurd rfl hne | (simp only [Option.some.injEq] at h2; exact h2.symm)
        subst this
        exact Post.exit_ne hne hp _ _ hp
    exact ⟨loop_wp key, fun b' e => by cases e; exact loop_arr key⟩

theorem results_sound {fn : Func} {tm : List (Nat × A)} {m : Mem} {b : A} {w0 w : World} {g : Gh} {tmps : Array Value} (hs : SR C.P C.gl w0 g m w) (h : resultsA C.P fn.results.toList tm m = some b) (ht : TmR w g tm tmps) : ∃ v, (results fn tmps).run C.P w = .ok v w ∧ VR w g b v := by
  have one : ∀ (r : ResultVar) (b : A), resA C.P tm m r = some b → ∃ u, (match r with | .tmp t => pure (tmps.getD t undef) | .cell a t => do loadVar t (← asAddr (tmps.getD a undef)) : Sem Value).run C.P w = .ok u w ∧ VR w g b u := by
    intro r b h
    cases r with
    | tmp t =>
      simp only [resA, Option.some.injEq] at h
      subst h
      exact ⟨_, rfl, ht t⟩
    | cell a t =>
      simp only [resA] at h
      obtain ⟨u, hu, hv⟩ := loadA_sound hs h (ht a)
      refine ⟨u, ?_, hv⟩
      rw [← hu]
      unfold Instr.loadAt
      rw [Sem.run_bind, Sem.run_bind] at *
      cases hp : tmps.getD a undef with
      | pointer p =>
        cases p with
        | some p => rfl
        | none => rw [hp] at hu; cases hu
      | _ => rw [hp] at hu; cases hu
  have hm : ∀ (l : List ResultVar) (vs : List A), resL C.P tm m l = some vs →
      ∃ us, (l.mapM (m := Sem) fun | .tmp t => pure (tmps.getD t undef) | .cell a t => do loadVar t (← asAddr (tmps.getD a undef))).run C.P w = .ok us w ∧ VRs w g vs us ∧ vs.length = l.length := by
    intro l
    induction l with
    | nil =>
      intro vs h
      simp only [resL, Option.some.injEq] at h
      cases h
      exact ⟨[], rfl, VRs.mk_nil, rfl⟩
    | cons r l ih =>
      intro vs h
      simp only [resL] at h
      obtain ⟨a, h1, h2⟩ := Option.bind_eq_some_iff.1 h
      obtain ⟨as_, h3, rfl⟩ := Option.map_eq_some_iff.1 h2
      obtain ⟨u, hu1, hu2⟩ := one r a h1
      obtain ⟨us, hu, hv, hl⟩ := ih as_ h3
      refine ⟨u :: us, ?_, .mk_cons hu2 hv, by simp [hl]⟩
      rw [List.mapM_cons, Sem.run_bind]
      erw [hu1]
      rw [Result.andThen_ok, Sem.run_bind]
      erw [hu]
      rfl
  have hrun : ∀ us : List Value, (fn.results.toList.mapM (m := Sem) fun | .tmp t => pure (tmps.getD t undef) | .cell a t => do loadVar t (← asAddr (tmps.getD a undef))).run C.P w = .ok us w →
      (results fn tmps).run C.P w = .ok (if h : us.toArray.size = 1 then us.toArray[0] else .tuple us.toArray) w := by
    intro us hu
    unfold results
    rw [Sem.run_bind, Array.mapM_eq_mapM_toList, Sem.run_map]
    erw [hu]
    rfl
  unfold resultsA at h
  split at h
  · rename_i r heq
    obtain ⟨us, hu, hv, hl⟩ := hm [r] [b] (by simp [resL, h])
    match us, hv.length with
    | [u], _ =>
      refine ⟨u, ?_, ?_⟩
      · have := hrun [u] (by rw [heq]; exact hu)
        simpa using this
      · rw [VRs.cons_iff] at hv
        obtain ⟨u', us', he, h1, _⟩ := hv
        simp only [List.cons.injEq] at he
        rw [he.1]
        exact h1
  · rename_i rs hn1
    obtain ⟨vs, hvs, rfl⟩ := Option.map_eq_some_iff.1 h
    obtain ⟨us, hu, hv, hl⟩ := hm _ _ hvs
    have := hrun us hu
    have hlen : ¬ us.toArray.size = 1 := by
      intro hl1
      have h1 : fn.results.toList.length = 1 := by have := hv.length; simp at hl1; omega
      match hr : fn.results.toList, h1 with
      | [r], _ => exact hn1 r hr
    rw [dif_neg hlen] at this
    exact ⟨_, this, by rw [VR]; exact ⟨us, rfl, hv⟩⟩

theorem leaves_sound (hC : CfgOk C) {m0 m : Mem} {r : Res} {x : Res × Mem} {w0 w w' : World} {g g' : Gh} {e : Ending} (h : (∃ k, leave C.P k m0 r m = some x) ∨ x = (r, m)) (hs0 : SR C.P C.gl w0 g m0 w) (hs : SR C.P C.gl w0 g' m w') (he : Ext w g w' g') (hr : ResR w' g' r e) :
    ∃ g'', SR C.P C.gl w0 g'' x.2 w' ∧ Ext w g w' g'' ∧ ResR w' g'' x.1 e := by
  rcases h with ⟨k, h⟩ | rfl
  · exact leave_sound hC h hs0 hs he hr
  · exact ⟨g', hs, he, hr⟩
theorem call_sound (hC : CfgOk C) {evK : FuncId → Nat → Code → St → Option (Ex × St)} {evR : FuncId → Nat → Code → St → Option (Ex × St)}
    (hrk : ∀ f nt c s x, evR f nt c s = some x → RecOk C f nt c s x) (hk : ∀ f nt c s x, evK f nt c s = some x → CodeOk C f nt c s x)
    {lv : FuncId → Mem → Res → Mem → Option (Res × Mem)} (hlv : ∀ f m0 r m x, lv f m0 r m = some x → (∃ k, leave C.P k m0 r m = some x) ∨ x = (r, m))
    (f : FuncId) (args : List A) (m : Mem) (r : Res × Mem)
    (h : (match C.ext f with
      | some g => g args m
      | none =>
        match C.P.funcs[f]? with
        | none => none
        | some fn =>
          match fn.body with
          | none => none
          | some c =>
            if fn.name = "runtime.NumGoroutine" ∨ fn.ntmps < args.length then none else ((if C.ann.recov f = true then evR f fn.ntmps c ⟨argsTm 0 args, m⟩ else evK f fn.ntmps c ⟨argsTm 0 args, m⟩) >>= fun x =>
            match x.1 with
              | .normal => (do
                let a ← resultsA C.P fn.results.toList x.2.tm x.2.m
                lv f m (.ret a) x.2.m)
              | .ret => (do
                let a ← resultsA C.P fn.results.toList x.2.tm x.2.m
                lv f m (.ret a) x.2.m)
              | .pan a => lv f m (.pan a) x.2.m
              | .exit _ => none)) = some r) : CallOk C f args m r := by
  cases hx : C.ext f with
  | some gx =>
    simp only [hx] at h
    exact hC.ext f gx hx args m r h
  | none =>
  simp only [hx] at h
  cases hf : C.P.funcs[f]? with
  | none => simp [hf] at h
  | some fn =>
  simp only [hf] at h
  cases hb : fn.body with
  | none => simp [hb] at h
  | some c =>
  simp only [hb] at h
  split at h
  · cases h
  · rename_i hne
    simp only [not_or, Nat.not_lt] at hne
    obtain ⟨hn, hlen⟩ := hne
    refine ⟨⟨fn, c, hf, hb, hn⟩, fun w0 g w vals hs hv => ?_⟩
    obtain ⟨⟨e, s'⟩, h1, h2⟩ := Option.bind_eq_some_iff.1 h
    have hvl := hv.length
    have htm : TmR w g (argsTm 0 args) (vals.toArray ++ Array.replicate (fn.ntmps - vals.toArray.size) undef) := fun t => by
      have := argsTm_lk args vals w g 0 t (Array.replicate (fn.ntmps - vals.toArray.size) undef) [] rfl hv
      simpa using this
    have hsz : (vals.toArray ++ Array.replicate (fn.ntmps - vals.toArray.size) undef).size = fn.ntmps := by
      simp
      omega
    have hend : ∀ ex g' w' tmps, SR C.P C.gl w0 g' s'.m w' → Ext w g w' g' → TmR w' g' s'.tm tmps → ExR w' g' e ex →
        (match ex with
        | .normal | .ret => ∃ v, (results fn tmps).run C.P w' = .ok v w' ∧ ∃ g', SR C.P C.gl w0 g' r.2 w' ∧ Ext w g w' g' ∧ ResR w' g' r.1 (.returned v)
        | .panic chain => ∃ g', SR C.P C.gl w0 g' r.2 w' ∧ Ext w g w' g' ∧ ResR w' g' r.1 (.panicked chain)
        | _ => False) := by
      intro ex g' w' tmps p1 p2 p3 p6
      cases e with
      | exit i => cases h2
      | normal =>
        obtain ⟨b, h3, h4⟩ := Option.bind_eq_some_iff.1 h2
        cases ex <;> first | exact p6.elim | skip
        obtain ⟨v, hr, hv⟩ := results_sound (C := C) p1 h3 p3
        obtain ⟨g'', q1, q2, q3⟩ := leaves_sound hC (e := .returned v) (hlv _ _ _ _ _ h4) hs p1 p2 hv
        exact ⟨v, hr, g'', q1, q2, q3⟩
      | ret =>
        obtain ⟨b, h3, h4⟩ := Option.bind_eq_some_iff.1 h2
        cases ex <;> first | exact p6.elim | skip
        obtain ⟨v, hr, hv⟩ := results_sound (C := C) p1 h3 p3
        obtain ⟨g'', q1, q2, q3⟩ := leaves_sound hC (e := .returned v) (hlv _ _ _ _ _ h4) hs p1 p2 hv
        exact ⟨v, hr, g'', q1, q2, q3⟩
      | pan b =>
        cases ex <;> first | exact p6.elim | skip
        rename_i chain
        obtain ⟨g'', q1, q2, q3⟩ := leaves_sound hC (e := .panicked chain) (hlv _ _ _ _ _ h2) hs p1 p2 p6
        exact ⟨g'', q1, q2, q3⟩
    cases hrec : C.ann.recov f with
    | false =>
      simp only [hrec, Bool.false_eq_true, if_false] at h1
      refine calls_of_wp hf hb ?_
      refine wp_mono (hk _ _ _ _ _ h1 ⟨fn, c, hf, hb, Sub.refl c⟩ w0 g w { tmps := _, defers := [] } hsz hs htm).1 fun ex a' w' hp => ?_
      obtain ⟨g', p1, p2, p3, p4, p5, p6⟩ := hp
      have := hend ex g' w' a'.tmps p1 p2 p3 p6
      cases ex <;> first | exact this.elim | exact ⟨p5, this⟩
    | true =>
      simp only [hrec, if_true] at h1
      refine calls_of_wp_defers hf hb ?_
      refine hrk _ _ _ _ _ h1 ⟨fn, c, hf, hb, Sub.refl c⟩ fn _ w0 g w { tmps := _, defers := [] } hsz rfl hs htm fun ex g' w' tmps p1 p2 p3 p6 => ?_
      have := hend ex g' w' tmps p1 p2 p3 p6
      cases ex <;> first | exact this.elim | exact this

/-- THE EVALUATOR IS SOUND: what it answers, the model's call answers. -/
theorem sound (hC : CfgOk C) : ∀ f args m r, evCall C f args m = some r → CallOk C f args m r :=
  (evCall.mutual_partial_correctness C (CallOk C) (CodeOk C) (OpsOk C) (fun f nt all l s x => DrawR C nt all l s x.1 x.2) (RecOk C)
    (fun evK evR hk hr => call_sound hC hr hk (lv := fun f => leave C.P (C.ann.keep f)) (fun f m0 r m x h => .inl ⟨_, h⟩))
    (fun evK evO evD hk hoo hdd => code_sound hC hk hoo hdd)
    (fun evC evO hc hoo => ops_sound hc hoo)
    (fun evC evD hc hd => draw_valid hc hd)
    (fun evK evR hk hr => rec_sound hC hr hk)).1
#print axioms sound
end
end AE
end Go.Proofs.YthoomlenmgdebaaGreatDoor
