/- THE EVALUATOR IS SOUND: codes, calls. -/
import Derived.Test.YthoomlenmgdebaaGreatDoorGB
set_option linter.unusedVariables false
set_option linter.unusedSimpArgs false
set_option linter.unusedSectionVars false
set_option maxHeartbeats 1600000
namespace Go.Proofs.YthoomlenmgdebaaGreatDoor
namespace AE
open Go Go.RowKit

section
variable {C : Cfg}

/-- What stands behind a step that has ended otherwise. -/
theorem Post.exit_ne {w0 w : World} {g : Gh} {nt : Nat} {df : List Deferred} {e : Ex} {s : St} {ex : Exit} {a : Act} {W : World} (hne : e ≠ .normal) (h : Post C w0 w g nt df (e, s) ex a W) (N : Act → World → Prop) (Q : Exit → Act → World → Prop) (hQ : Q ex a W) : Exit.then N Q ex a W := by
  obtain ⟨g', h1, h2, h3, h4, h5, h6⟩ := h
  cases ex with
  | normal =>
    cases e <;> first | exact absurd rfl hne | exact h6.elim
  | exit i => exact hQ
  | goto l => exact hQ
  | ret => exact hQ
  | panic ch => exact hQ
  | outgrown => exact hQ

theorem code_sound (hC : CfgOk C) {evK : FuncId → Nat → Code → St → Option (Ex × St)} {evO : FuncId → Nat → List Oper → List Oper → St → Option (Ex × St)}
    (hk : ∀ f nt c s x, evK f nt c s = some x → CodeOk C f nt c s x) (hoo : ∀ f nt all l s x, evO f nt all l s = some x → OpsOk C f nt all l s x)
    {evD : FuncId → Nat → List Oper → List Oper → St → Option (List Ent × Option (A × Mem) × St)} (hdd : ∀ f nt all l s x, evD f nt all l s = some x → DrawR C nt all l s x.1 x.2)
    (f nt : Nat) (c : Code) (s : St) (x : Ex × St)
    (h : (match c with
      | .skip => some (Ex.normal, s)
      | .region id ops draw =>
        if draw then (do
          let y ← evD f nt ops.toList ops.toList s
          drawEnd C.P C.gl nt (C.ann.dok f id) (C.ann.draw f id) ops.toList y.1 (C.ann.reg f id) y.2)
        else (do
        let x ← evO f nt ops.toList ops.toList s
        match x.1 with
          | .normal => some (Ex.normal, ⟨prune (C.ann.reg f id) x.2.tm, x.2.m⟩)
          | e => some (e, x.2))
      | .seq a b => (do
        let x ← evK f nt a s
        match x.1 with
          | .normal => evK f nt b x.2
          | e => some (e, x.2))
      | .cond c a b =>
        match opd C.gl s.tm c with
        | .bool t => if t then evK f nt a s else evK f nt b s
        | _ => none
      | .block id b => (do
        let x ← evK f nt b s
        match x.1 with
          | .exit i => if i = id then some (.normal, x.2) else some (.exit i, x.2)
          | e => some (e, x.2))
      | .loop b => (do
        let x ← evK f nt b ⟨prune (C.ann.loop f (headId b)) s.tm, s.m⟩
        match x.1 with
          | .normal => (do
            let s1 ← endRound (C.ann.loop f (headId b)) s.m x.2
            evK f nt (.loop b) s1)
          | e => some (e, x.2))
      | .exit id => some (.exit id, s)
      | .ret => some (.ret, s)
      | _ => none) = some x) : CodeOk C f nt c s x := by
  intro hpart w0 g w a hsz hs ht
  have done : ∀ e : Ex, ∀ ex : Exit, ExR w g e ex → Post C w0 w g nt a.defers (e, s) ex a w := fun e ex he => ⟨g, hs, Ext.refl _ _, ht, hsz, rfl, he⟩
  cases c <;> simp only [reduceCtorEq] at h
  case skip =>
    simp only [Option.some.injEq] at h
    subst h
    exact ⟨wp_skip (done _ _ trivial), fun b e => by cases e⟩
  case exit id =>
    simp only [Option.some.injEq] at h
    subst h
    exact ⟨wp_exit (done _ _ rfl), fun b e => by cases e⟩
  case ret =>
    simp only [Option.some.injEq] at h
    subst h
    exact ⟨wp_ret (done _ _ trivial), fun b e => by cases e⟩
  case region id ops draw =>
    refine ⟨?_, fun b e => by cases e⟩
    cases draw with
    | true =>
      simp only [if_true] at h
      obtain ⟨y, h1, h2⟩ := Option.bind_eq_some_iff.1 h
      exact draw_sound hC.mixed (hC.dok f id ops hpart) (hdd _ _ _ _ _ _ h1) h2 hsz hs ht
    | false =>
      simp only [Bool.false_eq_true, if_false] at h
      obtain ⟨⟨e, s'⟩, h1, h2⟩ := Option.bind_eq_some_iff.1 h
      refine wp_region ?_
      have := hoo _ _ _ _ _ _ h1 w0 g w a ops 0 (Post C w0 w g nt a.defers x) rfl rfl hsz hs ht ?_
      · rw [show List.range ops.size = List.range' 0 ops.toList.length from by rw [List.range_eq_range', Array.length_toList]]
        exact this
      · rintro ex a' w' ⟨g', p1, p2, p3, p4, p5, p6⟩
        cases e with
        | normal =>
          simp only [Option.some.injEq] at h2
          subst h2
          exact ⟨g', p1, p2, p3.prune _, p4, p5, p6⟩
        | exit i => simp only [Option.some.injEq] at h2; subst h2; exact ⟨g', p1, p2, p3, p4, p5, p6⟩
        | ret => simp only [Option.some.injEq] at h2; subst h2; exact ⟨g', p1, p2, p3, p4, p5, p6⟩
        | pan b => simp only [Option.some.injEq] at h2; subst h2; exact ⟨g', p1, p2, p3, p4, p5, p6⟩
  case seq c1 c2 =>
    refine ⟨wp_seq ?_, fun b e => by cases e⟩
    obtain ⟨⟨e, s'⟩, h1, h2⟩ := Option.bind_eq_some_iff.1 h
    refine wp_mono (hk _ _ _ _ _ h1 (hpart.sub (by simp [Sub, Sub.refl])) w0 g w a hsz hs ht).1 fun ex a' w' hp => ?_
    by_cases hne : e = .normal
    · subst hne
      simp only at h2
      obtain ⟨g', p1, p2, p3, p4, p5, p6⟩ := hp
      cases ex <;> first | exact p6.elim | skip
      refine wp_mono (hk _ _ _ _ _ h2 (hpart.sub (by simp [Sub, Sub.refl])) w0 g' w' a' p4 p1 p3).1 fun ex a'' w'' hp => ?_
      rw [p5] at hp
      exact Post.ext p2 hp
    · have : x = (e, s') := by cases e <;> first | exact absurd rfl hne | (simp only [Option.some.injEq] at h2; exact h2.symm)
      subst this
      exact Post.exit_ne hne hp _ _ hp
  case cond c c1 c2 =>
    refine ⟨?_, fun b e => by cases e⟩
    have hopd := ht.opd (C := C) hs.gl c
    cases hc : opd C.gl s.tm c <;> simp only [hc, reduceCtorEq] at h
    rename_i t
    rw [hc, VR] at hopd
    cases t with
    | true => exact wp_cond hopd (hk _ _ _ _ _ (by simpa using h) (hpart.sub (by simp [Sub, Sub.refl])) w0 g w a hsz hs ht).1
    | false => exact wp_cond hopd (hk _ _ _ _ _ (by simpa using h) (hpart.sub (by simp [Sub, Sub.refl])) w0 g w a hsz hs ht).1
  case block id b =>
    refine ⟨wp_block ?_, fun b e => by cases e⟩
    obtain ⟨⟨e, s'⟩, h1, h2⟩ := Option.bind_eq_some_iff.1 h
    refine wp_mono (hk _ _ _ _ _ h1 (hpart.sub (by simp [Sub, Sub.refl])) w0 g w a hsz hs ht).1 fun ex a' w' hp => ?_
    obtain ⟨g', p1, p2, p3, p4, p5, p6⟩ := hp
    cases e with
    | normal =>
      simp only [Option.some.injEq] at h2
      subst h2
      cases ex <;> first | exact p6.elim | skip
      exact ⟨g', p1, p2, p3, p4, p5, trivial⟩
    | ret =>
      simp only [Option.some.injEq] at h2
      subst h2
      cases ex <;> first | exact p6.elim | skip
      exact ⟨g', p1, p2, p3, p4, p5, trivial⟩
    | pan b =>
      simp only [Option.some.injEq] at h2
      subst h2
      cases ex <;> first | exact p6.elim | skip
      exact ⟨g', p1, p2, p3, p4, p5, p6⟩
    | exit i =>
      cases ex <;> first | exact p6.elim | skip
      rename_i j
      have hij : i = j := p6
      subst hij
      simp only at h2
      by_cases hi : i = id
      · rw [if_pos hi] at h2
        simp only [Option.some.injEq] at h2
        subst h2
        simp only [Exit.inBlock]
        rw [if_pos hi]
        exact ⟨g', p1, p2, p3, p4, p5, trivial⟩
      · rw [if_neg hi] at h2
        simp only [Option.some.injEq] at h2
        subst h2
        simp only [Exit.inBlock]
        rw [if_neg hi]
        exact ⟨g', p1, p2, p3, p4, p5, rfl⟩
  case loop b =>
    have key : b.wp C.P (Exit.then (LoopArr C.P b (Post C w0 w g nt a.defers x)) (Post C w0 w g nt a.defers x)) a w := by
      obtain ⟨⟨e, s'⟩, h1, h2⟩ := Option.bind_eq_some_iff.1 h
      refine wp_mono (hk _ _ _ _ _ h1 (hpart.sub (by simp [Sub, Sub.refl])) w0 g w a hsz hs (ht.prune _)).1 fun ex a' w' hp => ?_
      by_cases hne : e = .normal
      · subst hne
        obtain ⟨s1, h3, h4⟩ := Option.bind_eq_some_iff.1 h2
        obtain ⟨g', p1, p2, p3, p4, p5, p6⟩ := hp
        cases ex <;> first | exact p6.elim | skip
        obtain ⟨g'', q1, q2, q3⟩ := endRound_sound hC h3 hs p1 p2 p3
        refine ((hk _ _ _ _ _ h4 hpart w0 g'' w' a' p4 q1 q3).2 b rfl).mono fun ex a'' w'' hp => ?_
        rw [p5] at hp
        exact Post.ext q2 hp
      · have : x = (e, s') := by cases e <;> first | exact absurd rfl hne | (simp only [Option.some.injEq] at h2; exact h2.symm)
        subst this
        exact Post.exit_ne hne hp _ _ hp
    exact ⟨loop_wp key, fun b' e => by cases e; exact loop_arr key⟩

theorem results_sound {fn : Func} {tm : List (Nat × A)} {m : Mem} {b : A} {w0 w : World} {g : Gh} {tmps : Array Value} (hs : SR C.P C.gl w0 g m w) (h : resultsA C.P fn.results.toList tm m = some b) (ht : TmR w g tm tmps) : ∃ v, (results fn tmps).run C.P w = .ok v w ∧ VR w g b v := by
  have one : ∀ (r : ResultVar) (b : A), resA C.P tm m r = some b → ∃ u, (match r with | .tmp t => pure (tmps.getD t undef) | .cell a t => do loadVar t (← asAddr (tmps.getD a undef)) : Sem Value).run C.P w = .ok u w ∧ VR w g b u := by
    intro r b h
    cases r with
    | tmp t =>
      simp only [resA, Option.some.injEq] at h
      subst h
      exact ⟨_, rfl, ht t⟩
    | cell a t =>
      simp only [resA] at h
      obtain ⟨u, hu, hv⟩ := loadA_sound hs h (ht a)
      refine ⟨u, ?_, hv⟩
      rw [← hu]
      unfold Instr.loadAt
      rw [Sem.run_bind, Sem.run_bind] at *
      cases hp : tmps.getD a undef with
      | pointer p =>
        cases p with
        | some p => rfl
        | none => rw [hp] at hu; cases hu
      | _ => rw [hp] at hu; cases hu
  have hm : ∀ (l : List ResultVar) (vs : List A), resL C.P tm m l = some vs →
      ∃ us, (l.mapM (m := Sem) fun | .tmp t => pure (tmps.getD t undef) | .cell a t => do loadVar t (← asAddr (tmps.getD a undef))).run C.P w = .ok us w ∧ VRs w g vs us ∧ vs.length = l.length := by
    intro l
    induction l with
    | nil =>
      intro vs h
      simp only [resL, Option.some.injEq] at h
      cases h
      exact ⟨[], rfl, VRs.mk_nil, rfl⟩
    | cons r l ih =>
      intro vs h
      simp only [resL] at h
      obtain ⟨a, h1, h2⟩ := Option.bind_eq_some_iff.1 h
      obtain ⟨as_, h3, rfl⟩ := Option.map_eq_some_iff.1 h2
      obtain ⟨u, hu1, hu2⟩ := one r a h1
      obtain ⟨us, hu, hv, hl⟩ := ih as_ h3
      refine ⟨u :: us, ?_, .mk_cons hu2 hv, by simp [hl]⟩
      rw [List.mapM_cons, Sem.run_bind]
      erw [hu1]
      rw [Result.andThen_ok, Sem.run_bind]
      erw [hu]
      rfl
  have hrun : ∀ us : List Value, (fn.results.toList.mapM (m := Sem) fun | .tmp t => pure (tmps.getD t undef) | .cell a t => do loadVar t (← asAddr (tmps.getD a undef))).run C.P w = .ok us w →
      (results fn tmps).run C.P w = .ok (if h : us.toArray.size = 1 then us.toArray[0] else .tuple us.toArray) w := by
    intro us hu
    unfold results
    rw [Sem.run_bind, Array.mapM_eq_mapM_toList, Sem.run_map]
    erw [hu]
    rfl
  unfold resultsA at h
  split at h
  · rename_i r heq
    obtain ⟨us, hu, hv, hl⟩ := hm [r] [b] (by simp [resL, h])
    match us, hv.length with
    | [u], _ =>
      refine ⟨u, ?_, ?_⟩
      · have := hrun [u] (by rw [heq]; exact hu)
        simpa using this
      · rw [VRs.cons_iff] at hv
        obtain ⟨u', us', he, h1, _⟩ := hv
        simp only [List.cons.injEq] at he
        rw [he.1]
        exact h1
  · rename_i rs hn1
    obtain ⟨vs, hvs, rfl⟩ := Option.map_eq_some_iff.1 h
    obtain ⟨us, hu, hv, hl⟩ := hm _ _ hvs
    have := hrun us hu
    have hlen : ¬ us.toArray.size = 1 := by
      intro hl1
      have h1 : fn.results.toList.length = 1 := by have := hv.length; simp at hl1; omega
      match hr : fn.results.toList, h1 with
      | [r], _ => exact hn1 r hr
    rw [dif_neg hlen] at this
    exact ⟨_, this, by rw [VR]; exact ⟨us, rfl, hv⟩⟩

theorem leaves_sound (hC : CfgOk C) {m0 m : Mem} {r : Res} {x : Res × Mem} {w0 w w' : World} {g g' : Gh} {e : Ending} (h : (∃ k, leave C.P k m0 r m = some x) ∨ x = (r, m)) (hs0 : SR C.P C.gl w0 g m0 w) (hs : SR C.P C.gl w0 g' m w') (he : Ext w g w' g') (hr : ResR w' g' r e) :
    ∃ g'', SR C.P C.gl w0 g'' x.2 w' ∧ Ext w g w' g'' ∧ ResR w' g'' x.1 e := by
  rcases h with ⟨k, h⟩ | rfl
  · exact leave_sound hC h hs0 hs he hr
  · exact ⟨g', hs, he, hr⟩
theorem call_sound (hC : CfgOk C) {evK : FuncId → Nat → Code → St → Option (Ex × St)} {evR : FuncId → Nat → Code → St → Option (Ex × St)}
    (hrk : ∀ f nt c s x, evR f nt c s = some x → RecOk C f nt c s x) (hk : ∀ f nt c s x, evK f nt c s = some x → CodeOk C f nt c s x)
    {lv : FuncId → Mem → Res → Mem → Option (Res × Mem)} (hlv : ∀ f m0 r m x, lv f m0 r m = some x → (∃ k, leave C.P k m0 r m = some x) ∨ x = (r, m))
    (f : FuncId) (args : List A) (m : Mem) (r : Res × Mem)
    (h : (match C.ext f with
      | some g => g args m
      | none =>
        match C.P.funcs[f]? with
        | none => none
        | some fn =>
          match fn.body with
          | none => none
          | some c =>
            if fn.name = "runtime.NumGoroutine" ∨ fn.ntmps < args.length then none else ((if C.ann.recov f = true then evR f fn.ntmps c ⟨argsTm 0 args, m⟩ else evK f fn.ntmps c ⟨argsTm 0 args, m⟩) >>= fun x =>
            match x.1 with
              | .normal => (do
                let a ← resultsA C.P fn.results.toList x.2.tm x.2.m
                lv f m (.ret a) x.2.m)
              | .ret => (do
                let a ← resultsA C.P fn.results.toList x.2.tm x.2.m
                lv f m (.ret a) x.2.m)
              | .pan a => lv f m (.pan a) x.2.m
              | .exit _ => none)) = some r) : CallOk C f args m r := by
  cases hx : C.ext f with
  | some gx =>
    simp only [hx] at h
    exact hC.ext f gx hx args m r h
  | none =>
  simp only [hx] at h
  cases hf : C.P.funcs[f]? with
  | none => simp [hf] at h
  | some fn =>
  simp only [hf] at h
  cases hb : fn.body with
  | none => simp [hb] at h
  | some c =>
  simp only [hb] at h
  split at h
  · cases h
  · rename_i hne
    simp only [not_or, Nat.not_lt] at hne
    obtain ⟨hn, hlen⟩ := hne
    refine ⟨⟨fn, c, hf, hb, hn⟩, fun w0 g w vals hs hv => ?_⟩
    obtain ⟨⟨e, s'⟩, h1, h2⟩ := Option.bind_eq_some_iff.1 h
    have hvl := hv.length
    have htm : TmR w g (argsTm 0 args) (vals.toArray ++ Array.replicate (fn.ntmps - vals.toArray.size) undef) := fun t => by
      have := argsTm_lk args vals w g 0 t (Array.replicate (fn.ntmps - vals.toArray.size) undef) [] rfl hv
      simpa using this
    have hsz : (vals.toArray ++ Array.replicate (fn.ntmps - vals.toArray.size) undef).size = fn.ntmps := by
      simp
      omega
    have hend : ∀ ex g' w' tmps, SR C.P C.gl w0 g' s'.m w' → Ext w g w' g' → TmR w' g' s'.tm tmps → ExR w' g' e ex →
        (match ex with
        | .normal | .ret => ∃ v, (results fn tmps).run C.P w' = .ok v w' ∧ ∃ g', SR C.P C.gl w0 g' r.2 w' ∧ Ext w g w' g' ∧ ResR w' g' r.1 (.returned v)
        | .panic chain => ∃ g', SR C.P C.gl w0 g' r.2 w' ∧ Ext w g w' g' ∧ ResR w' g' r.1 (.panicked chain)
        | _ => False) := by
      intro ex g' w' tmps p1 p2 p3 p6
      cases e with
      | exit i => cases h2
      | normal =>
        obtain ⟨b, h3, h4⟩ := Option.bind_eq_some_iff.1 h2
        cases ex <;> first | exact p6.elim | skip
        obtain ⟨v, hr, hv⟩ := results_sound (C := C) p1 h3 p3
        obtain ⟨g'', q1, q2, q3⟩ := leaves_sound hC (e := .returned v) (hlv _ _ _ _ _ h4) hs p1 p2 hv
        exact ⟨v, hr, g'', q1, q2, q3⟩
      | ret =>
        obtain ⟨b, h3, h4⟩ := Option.bind_eq_some_iff.1 h2
        cases ex <;> first | exact p6.elim | skip
        obtain ⟨v, hr, hv⟩ := results_sound (C := C) p1 h3 p3
        obtain ⟨g'', q1, q2, q3⟩ := leaves_sound hC (e := .returned v) (hlv _ _ _ _ _ h4) hs p1 p2 hv
        exact ⟨v, hr, g'', q1, q2, q3⟩
      | pan b =>
        cases ex <;> first | exact p6.elim | skip
        rename_i chain
        obtain ⟨g'', q1, q2, q3⟩ := leaves_sound hC (e := .panicked chain) (hlv _ _ _ _ _ h2) hs p1 p2 p6
        exact ⟨g'', q1, q2, q3⟩
    cases hrec : C.ann.recov f with
    | false =>
      simp only [hrec, Bool.false_eq_true, if_false] at h1
      refine calls_of_wp hf hb ?_
      refine wp_mono (hk _ _ _ _ _ h1 ⟨fn, c, hf, hb, Sub.refl c⟩ w0 g w { tmps := _, defers := [] } hsz hs htm).1 fun ex a' w' hp => ?_
      obtain ⟨g', p1, p2, p3, p4, p5, p6⟩ := hp
      have := hend ex g' w' a'.tmps p1 p2 p3 p6
      cases ex <;> first | exact this.elim | exact ⟨p5, this⟩
    | true =>
      simp only [hrec, if_true] at h1
      refine calls_of_wp_defers hf hb ?_
      refine hrk _ _ _ _ _ h1 ⟨fn, c, hf, hb, Sub.refl c⟩ fn _ w0 g w { tmps := _, defers := [] } hsz rfl hs htm fun ex g' w' tmps p1 p2 p3 p6 => ?_
      have := hend ex g' w' tmps p1 p2 p3 p6
      cases ex <;> first | exact this.elim | exact this

/-- THE EVALUATOR IS SOUND: what it answers, the model's call answers. -/
theorem sound (hC : CfgOk C) : ∀ f args m r, evCall C f args m = some r → CallOk C f args m r :=
  (evCall.mutual_partial_correctness C (CallOk C) (CodeOk C) (OpsOk C) (fun f nt all l s x => DrawR C nt all l s x.1 x.2) (RecOk C)
    (fun evK evR hk hr => call_sound hC hr hk (lv := fun f => leave C.P (C.ann.keep f)) (fun f m0 r m x h => .inl ⟨_, h⟩))
    (fun evK evO evD hk hoo hdd => code_sound hC hk hoo hdd)
    (fun evC evO hc hoo => ops_sound hc hoo)
    (fun evC evD hc hd => draw_valid hc hd)
    (fun evK evR hk hr => rec_sound hC hr hk)).1
#print axioms sound
end
end AE
end Go.Proofs.YthoomlenmgdebaaGreatDoor

/- The evaluator with a number of steps: the kernel can run it. What it answers holds; what a call answers on an empty store it answers on any. -/
set_option linter.unusedVariables false
set_option linter.unusedSimpArgs false
set_option linter.unusedSectionVars false
namespace Go.Proofs.YthoomlenmgdebaaGreatDoor
namespace AE
open Go Go.RowKit

/-! ### Are two values the same? -/
mutual
def eqA : A → A → Bool
  | .undef, .undef => true
  | .int k n, .int k' n' => (k == k') && (n == n')
  | .bool b, .bool b' => b == b'
  | .str s, .str s' => s == s'
  | .nilp, .nilp => true
  | .nili, .nili => true
  | .nilf, .nilf => true
  | .nils, .nils => true
  | .ifc t x, .ifc t' x' => (t == t') && eqA x x'
  | .agg cs, .agg cs' => eqL cs cs'
  | .tup cs, .tup cs' => eqL cs cs'
  | .isl f n cs, .isl f' n' cs' => (f == f') && (n == n') && eqL cs cs'
  | .rp cs, .rp cs' => eqL cs cs'
  | .ptr i o, .ptr i' o' => (i == i') && (o == o')
  | .sl a b c d, .sl a' b' c' d' => (a == a') && (b == b') && (c == c') && (d == d')
  | .rptr a b c, .rptr a' b' c' => (a == a') && (b == b') && (c == c')
  | .fn f cs, .fn f' cs' => (f == f') && eqL cs cs'
  | _, _ => false
def eqL : List A → List A → Bool
  | [], [] => true
  | a :: r, b :: q => eqA a b && eqL r q
  | _, _ => false
end
mutual
theorem eqA_eq : ∀ (a b : A), eqA a b = true → a = b
  | .undef, b, h => by cases b <;> simp [eqA] at h ⊢
  | .int k n, b, h => by cases b <;> simp [eqA] at h ⊢; exact h
  | .bool x, b, h => by cases b <;> simp [eqA] at h ⊢; exact h
  | .str s, b, h => by cases b <;> simp [eqA] at h ⊢; exact h
  | .nilp, b, h => by cases b <;> simp [eqA] at h ⊢
  | .nili, b, h => by cases b <;> simp [eqA] at h ⊢
  | .nilf, b, h => by cases b <;> simp [eqA] at h ⊢
  | .nils, b, h => by cases b <;> simp [eqA] at h ⊢
  | .ifc t x, b, h => by cases b <;> simp [eqA] at h ⊢; exact ⟨h.1, eqA_eq _ _ h.2⟩
  | .agg cs, b, h => by cases b <;> simp [eqA] at h ⊢; exact eqL_eq _ _ h
  | .tup cs, b, h => by cases b <;> simp [eqA] at h ⊢; exact eqL_eq _ _ h
  | .isl f n cs, b, h => by cases b <;> simp [eqA] at h ⊢; exact ⟨h.1.1, h.1.2, eqL_eq _ _ h.2⟩
  | .rp cs, b, h => by cases b <;> simp [eqA] at h ⊢; exact eqL_eq _ _ h
  | .ptr i o, b, h => by cases b <;> simp [eqA] at h ⊢; exact h
  | .sl x y z u, b, h => by cases b <;> simp [eqA] at h ⊢; exact ⟨h.1.1.1, h.1.1.2, h.1.2, h.2⟩
  | .rptr x y z, b, h => by cases b <;> simp [eqA] at h ⊢; exact ⟨h.1.1, h.1.2, h.2⟩
  | .fn f cs, b, h => by cases b <;> simp [eqA] at h ⊢; exact ⟨h.1, eqL_eq _ _ h.2⟩
theorem eqL_eq : ∀ (a b : List A), eqL a b = true → a = b
  | [], b, h => by cases b <;> simp [eqL] at h ⊢
  | a :: r, b, h => by
    cases b <;> simp [eqL] at h ⊢
    exact ⟨eqA_eq _ _ h.1, eqL_eq _ _ h.2⟩
end
def eqR (a b : Row) : Bool := (a.el == b.el) && eqL a.cs b.cs
theorem eqR_eq {a b : Row} (h : eqR a b = true) : a = b := by
  unfold eqR at h
  simp at h
  obtain ⟨e, c⟩ := a
  obtain ⟨e', c'⟩ := b
  simp only [Row.mk.injEq]
  exact ⟨h.1, eqL_eq _ _ h.2⟩

/-- What was there is closed, or as it was. -/
def keptL {α : Type} (eq : α → α → Bool) (cl : α → Bool) : List α → List α → Bool
  | [], _ => true
  | a :: r, b :: q => (cl b || eq a b) && keptL eq cl r q
  | _ :: _, [] => false
theorem keptL_ok {α : Type} {eq : α → α → Bool} {cl : α → Bool} (he : ∀ a b, eq a b = true → a = b) : ∀ {l m : List α}, keptL eq cl l m = true → l.length ≤ m.length ∧ ∀ i, i < l.length → m[i]? = l[i]? ∨ ∃ c, m[i]? = some c ∧ cl c = true
  | [], m, h => ⟨Nat.zero_le _, fun i hi => by simp at hi⟩
  | a :: r, [], h => by simp [keptL] at h
  | a :: r, b :: q, h => by
    rw [keptL, Bool.and_eq_true, Bool.or_eq_true] at h
    obtain ⟨h1, h2⟩ := keptL_ok he h.2
    refine ⟨by simp; exact h1, fun i hi => ?_⟩
    cases i with
    | zero =>
      rcases h.1 with h3 | h3
      · exact .inr ⟨b, rfl, h3⟩
      · exact .inl (by rw [he _ _ h3]; rfl)
    | succ i =>
      have := h2 i (by simpa using hi)
      simpa using this
/-- The rows at the end of a round. -/
def rowsL (cl : Row → Bool) : List Row → List Row → Bool
  | [], _ => true
  | b :: q, a :: r => (cl b || eqR a b) && rowsL cl q r
  | b :: q, [] => cl b && rowsL cl q []
theorem rowsL_ok {cl : Row → Bool} : ∀ {m l : List Row}, rowsL cl m l = true → ∀ i, i < m.length → m[i]? = l[i]? ∨ ∃ c, m[i]? = some c ∧ cl c = true
  | [], l, h, i, hi => by simp at hi
  | b :: q, a :: r, h, i, hi => by
    rw [rowsL, Bool.and_eq_true, Bool.or_eq_true] at h
    cases i with
    | zero =>
      rcases h.1 with h3 | h3
      · exact .inr ⟨b, rfl, h3⟩
      · exact .inl (by rw [eqR_eq h3]; rfl)
    | succ i =>
      have := rowsL_ok h.2 i (by simpa using hi)
      simpa using this
  | b :: q, [], h, i, hi => by
    rw [rowsL, Bool.and_eq_true] at h
    cases i with
    | zero => exact .inr ⟨b, rfl, h.1⟩
    | succ i =>
      have := rowsL_ok h.2 i (by simpa using hi)
      simpa using this

def endRoundB (k : Option (List Nat)) (m0 : Mem) (s : St) : Option St :=
  match k with
  | none => some s
  | some l =>
    if (l.all fun t => closed m0.bx.length s.m.rw.length (lk t s.tm)) && keptL eqL (fun cs => cs.all (closed m0.bx.length s.m.rw.length)) m0.bx s.m.bx && rowsL (fun r => r.cs.all (closed m0.bx.length s.m.rw.length)) s.m.rw m0.rw
    then some ⟨prune k s.tm, ⟨s.m.bx.take m0.bx.length, s.m.rw⟩⟩ else none
theorem endRoundB_ok {k : Option (List Nat)} {m0 : Mem} {s s' : St} (h : endRoundB k m0 s = some s') : endRound k m0 s = some s' := by
  unfold endRoundB at h
  unfold endRound
  split
  · exact h
  · rename_i l
    simp only at h
    split at h
    · rename_i hc
      simp only [Bool.and_eq_true, List.all_eq_true] at hc
      obtain ⟨⟨h1, h2⟩, h3⟩ := hc
      obtain ⟨h4, h5⟩ := keptL_ok eqL_eq h2
      rw [if_pos ⟨h1, h4, h5, rowsL_ok h3⟩]
      exact h
    · cases h
/-- A function value that holds what was made within the call. -/
def lostF (nb nr : Nat) : A → Bool
  | .fn _ cs => !closed.closedL nb nr cs
  | .ifc _ x => lostF nb nr x
  | .agg cs | .tup cs | .isl _ _ cs | .rp cs => lostL cs
  | _ => false
where
  lostL : List A → Bool
    | [] => false
    | a :: r => lostF nb nr a || lostL r
def leaveB (P : Program) (m0 : Mem) (r : Res) (m : Mem) : Option (Res × Mem) :=
  if lostF m0.bx.length m0.rw.length r.val then some (r, m)
  else if keptL eqL (fun cs => cs.all (closed m0.bx.length m0.rw.length)) m0.bx m.bx && keptL eqR (fun r => r.cs.all (closed m0.bx.length m0.rw.length)) m0.rw m.rw then
    some (erR (er P m0.bx.length m0.rw.length m.rw 4) r, cutM m0 m)
  else if keptL eqL (fun cs => cs.all (closed m0.bx.length m.rw.length)) m0.bx m.bx && rowsL (fun r => r.cs.all (closed m0.bx.length m.rw.length)) m.rw m0.rw && closed m0.bx.length m.rw.length r.val then
    some (r, ⟨m.bx.take m0.bx.length, m.rw⟩)
  else none
theorem leaveB_ok {P : Program} {m0 m : Mem} {r : Res} {x : Res × Mem} (h : leaveB P m0 r m = some x) : (∃ k, leave P k m0 r m = some x) ∨ x = (r, m) := by
  unfold leaveB at h
  split at h
  · exact .inr (Option.some.inj h).symm
  left
  split at h
  · rename_i hc
    rw [Bool.and_eq_true] at hc
    obtain ⟨h4, h5⟩ := keptL_ok eqL_eq hc.1
    obtain ⟨h6, h7⟩ := keptL_ok (fun _ _ => eqR_eq) hc.2
    refine ⟨false, ?_⟩
    unfold leave
    rw [if_neg (by simp), if_pos ⟨h4, h6, h5, h7⟩]
    exact h
  · split at h
    · rename_i hc
      rw [Bool.and_eq_true, Bool.and_eq_true] at hc
      obtain ⟨h4, h5⟩ := keptL_ok eqL_eq hc.1.1
      refine ⟨true, ?_⟩
      unfold leave
      rw [if_pos rfl, if_pos ⟨⟨h4, h5, rowsL_ok hc.1.2⟩, hc.2⟩]
      exact h
    · cases h
def isA (x : Option A) (v : A) : Bool := match x with | some a => eqA a v | none => false
theorem isA_eq {x : Option A} {v : A} (h : isA x v = true) : x = some v := by
  unfold isA at h
  split at h
  · rw [eqA_eq _ _ h]
  · cases h
def chkNeedB (P : Program) (tr : List Ent) (fin : Mem) : List (Nat × List Nat × Bool) → Bool
  | [] => true
  | (p, es, f) :: r =>
    (match tr[p]? with
      | some ⟨.load t x, v, _⟩ => (es.all fun e => match tr[e]? with | some en => isA (loadA P t x en.m) v | none => true) && (!f || isA (loadA P t x fin) v)
      | _ => true) && chkNeedB P tr fin r
theorem chkNeedB_ok {P : Program} {tr : List Ent} {fin : Mem} : ∀ {l : List (Nat × List Nat × Bool)}, chkNeedB P tr fin l = true → chkNeed P tr fin l
  | [], h => trivial
  | (p, es, f) :: r, h => by
    rw [chkNeedB, Bool.and_eq_true] at h
    rw [chkNeed]
    refine ⟨?_, chkNeedB_ok h.2⟩
    have h1 := h.1
    split
    · rename_i t x v m0 he
      rw [he] at h1
      simp only [Bool.and_eq_true, List.all_eq_true] at h1
      refine ⟨fun e hin en hen => ?_, fun hf => ?_⟩
      · have := h1.1 e hin
        rw [hen] at this
        exact isA_eq this
      · have := h1.2
        rw [hf] at this
        exact isA_eq (by simpa using this)
    · trivial
def drawEndB (P : Program) (gl : Nat → A) (nt : Nat) (ok : Bool) (d : DrawAnn) (all : List Oper) (tr : List Ent) (k : Option (List Nat)) (y : Option (A × Mem) × St) : Option (Ex × St) :=
  match y with
  | (none, s) => if ok && chkNeedB P tr s.m d.need then some (.normal, ⟨prune k s.tm, s.m⟩) else none
  | (some (a, m), s) => (afterP P gl nt d all (tr.length - 1) tr.length (all.drop tr.length) s).bind fun z =>
    if ok && chkNeedB P (tr ++ z.1) z.2.m d.need then some (.pan a, ⟨maskTm all s.tm, m⟩) else none
theorem drawEndB_ok {P : Program} {gl : Nat → A} {nt : Nat} {ok : Bool} {d : DrawAnn} {all : List Oper} {tr : List Ent} {k : Option (List Nat)} {y : Option (A × Mem) × St} {x : Ex × St} (h : drawEndB P gl nt ok d all tr k y = some x) : drawEnd P gl nt ok d all tr k y = some x := by
  obtain ⟨po, s⟩ := y
  cases po with
  | none =>
    simp only [drawEndB, drawEnd] at h ⊢
    split at h
    · rename_i hc
      rw [Bool.and_eq_true] at hc
      rw [if_pos ⟨hc.1, chkNeedB_ok hc.2⟩]
      exact h
    · cases h
  | some z =>
    obtain ⟨a, m⟩ := z
    simp only [drawEndB, drawEnd] at h ⊢
    obtain ⟨z, h1, h2⟩ := Option.bind_eq_some_iff.1 h
    rw [h1]
    simp only [Option.bind_some]
    split at h2
    · rename_i hc
      rw [Bool.and_eq_true] at hc
      rw [if_pos ⟨hc.1, chkNeedB_ok hc.2⟩]
      exact h2
    · cases h2

/-! ### The evaluator -/
structure EvR where
  call : FuncId → List A → Mem → Option (Res × Mem)
  rcv : FuncId → Nat → Code → St → Option (Ex × St)
  code : FuncId → Nat → Code → St → Option (Ex × St)
  ops : FuncId → Nat → List Oper → List Oper → St → Option (Ex × St)
  draw : FuncId → Nat → List Oper → List Oper → St → Option (List Ent × Option (A × Mem) × St)

def callN (C : Cfg) (r : EvR) (f : FuncId) (args : List A) (m : Mem) : Option (Res × Mem) :=
  match C.ext f with
  | some g => g args m
  | none =>
    match C.P.funcs[f]? with
    | none => none
    | some fn =>
      match fn.body with
      | none => none
      | some c =>
        if fn.name = "runtime.NumGoroutine" ∨ fn.ntmps < args.length then none else
        (if C.ann.recov f then r.rcv f fn.ntmps c ⟨argsTm 0 args, m⟩ else r.code f fn.ntmps c ⟨argsTm 0 args, m⟩) >>= fun x =>
          match x.1 with
          | .normal | .ret => (resultsA C.P fn.results.toList x.2.tm x.2.m) >>= fun a => leaveB C.P m (.ret a) x.2.m
          | .pan a => leaveB C.P m (.pan a) x.2.m
          | .exit _ => none
def rcvN (C : Cfg) (r : EvR) (f : FuncId) (nt : Nat) (c : Code) (s : St) : Option (Ex × St) :=
  match c with
  | .seq a b =>
    match deferAt a with
    | some d =>
      if d.1 < nt then
        (r.code f nt b ⟨put (some d.1) (.fn d.2.1 (d.2.2.map (opd C.gl s.tm))) s.tm, s.m⟩) >>= fun x =>
          match endVal x.1, recBody C.P d.2.1 with
          | some v, some rb =>
            if d.2.2.length ≤ rb.1 then
              (r.code d.2.1 rb.1 rb.2.2.2 ⟨put (some rb.2.2.1) v (put (some rb.2.1) v (argsTm 0 (d.2.2.map (opd C.gl s.tm)))), x.2.m⟩) >>= fun y =>
                match y.1 with
                | .normal | .ret => some (.ret, ⟨x.2.tm, y.2.m⟩)
                | _ => none
            else none
          | _, _ => none
      else none
    | none =>
      (r.code f nt a s) >>= fun x =>
        match x.1 with
        | .normal => r.rcv f nt b x.2
        | e => some (e, x.2)
  | c => r.code f nt c s
def codeN (C : Cfg) (r : EvR) (f : FuncId) (nt : Nat) (c : Code) (s : St) : Option (Ex × St) :=
  match c with
  | .skip => some (.normal, s)
  | .region id ops draw =>
    if draw then
      (r.draw f nt ops.toList ops.toList s) >>= fun y =>
        drawEndB C.P C.gl nt (C.ann.dok f id) (C.ann.draw f id) ops.toList y.1 (C.ann.reg f id) y.2
    else
    (r.ops f nt ops.toList ops.toList s) >>= fun x =>
      match x.1 with
      | .normal => some (.normal, ⟨prune (C.ann.reg f id) x.2.tm, x.2.m⟩)
      | e => some (e, x.2)
  | .seq a b =>
    (r.code f nt a s) >>= fun x =>
      match x.1 with
      | .normal => r.code f nt b x.2
      | e => some (e, x.2)
  | .cond c a b =>
    match opd C.gl s.tm c with
    | .bool t => if t then r.code f nt a s else r.code f nt b s
    | _ => none
  | .block id b =>
    (r.code f nt b s) >>= fun x =>
      match x.1 with
      | .exit i => if i = id then some (.normal, x.2) else some (.exit i, x.2)
      | e => some (e, x.2)
  | .loop b =>
    (r.code f nt b ⟨prune (C.ann.loop f (headId b)) s.tm, s.m⟩) >>= fun x =>
      match x.1 with
      | .normal => (endRoundB (C.ann.loop f (headId b)) s.m x.2) >>= fun s1 => r.code f nt (.loop b) s1
      | e => some (e, x.2)
  | .exit id => some (.exit id, s)
  | .ret => some (.ret, s)
  | _ => none
def opsN (C : Cfg) (r : EvR) (f : FuncId) (nt : Nat) (all l : List Oper) (s : St) : Option (Ex × St) :=
  match l with
  | [] => some (.normal, s)
  | o :: rest =>
    match o.dst.all (· < nt), wantA o all s.tm with
    | true, some true =>
      match o.op with
      | .panic x => (panA (opd C.gl s.tm x)).map fun a => (.pan a, s)
      | .call { callee := .value g, args, argTypes } =>
        match opd C.gl s.tm g with
        | .fn h caps =>
          (r.call h (args.toList.map (opd C.gl s.tm) ++ caps) s.m) >>= fun x =>
            match x.1 with
            | .ret a => r.ops f nt all rest ⟨put o.dst a s.tm, x.2⟩
            | .pan a => some (.pan a, ⟨s.tm, x.2⟩)
        | _ => none
      | .convert t u x =>
        match strM C.P t u (opd C.gl s.tm x) s.m with
        | some a => r.ops f nt all rest ⟨put o.dst a s.tm, s.m⟩
        | none => (opA C.P (.convert t u x) (opd C.gl s.tm) s.m) >>= fun x => r.ops f nt all rest ⟨put o.dst x.1 s.tm, x.2⟩
      | op => (opA C.P op (opd C.gl s.tm) s.m) >>= fun x => r.ops f nt all rest ⟨put o.dst x.1 s.tm, x.2⟩
    | true, some false => r.ops f nt all rest ⟨put o.dst (.tup []) s.tm, s.m⟩
    | _, _ => none
def drawN (C : Cfg) (r : EvR) (f : FuncId) (nt : Nat) (all l : List Oper) (s : St) : Option (List Ent × Option (A × Mem) × St) :=
  match l with
  | [] => some ([], none, s)
  | o :: rest =>
    match o.dst.all (· < nt), wantA o all s.tm with
    | true, some true =>
      match o.op with
      | .call { callee := .value g, args, argTypes } =>
        match opd C.gl s.tm g with
        | .fn h caps =>
          (r.call h (args.toList.map (opd C.gl s.tm) ++ caps) s.m) >>= fun x =>
            match x.1 with
            | .ret a => (r.draw f nt all rest ⟨put o.dst a s.tm, x.2⟩) >>= fun y => some (⟨.eff, a, s.m⟩ :: y.1, y.2)
            | .pan a => some ([⟨.eff, .undef, s.m⟩], some (a, x.2), ⟨put o.dst .undef s.tm, s.m⟩)
        | _ => none
      | op => (opA C.P op (opd C.gl s.tm) s.m) >>= fun x => (r.draw f nt all rest ⟨put o.dst x.1 s.tm, x.2⟩) >>= fun y => some (⟨kindA op (opd C.gl s.tm), x.1, s.m⟩ :: y.1, y.2)
    | true, some false => (r.draw f nt all rest ⟨put o.dst (.tup []) s.tm, s.m⟩) >>= fun y => some (⟨kindS o.op, .tup [], s.m⟩ :: y.1, y.2)
    | _, _ => none

def evR (C : Cfg) : Nat → EvR
  | 0 => ⟨fun _ _ _ => none, fun _ _ _ _ => none, fun _ _ _ _ => none, fun _ _ _ _ _ => none, fun _ _ _ _ _ => none⟩
  | n + 1 => ⟨callN C (evR C n), rcvN C (evR C n), codeN C (evR C n), opsN C (evR C n), drawN C (evR C n)⟩

section
variable {C : Cfg}
structure RecsOk (C : Cfg) (r : EvR) : Prop where
  call : ∀ f args m x, r.call f args m = some x → CallOk C f args m x
  rcv : ∀ f nt c s x, r.rcv f nt c s = some x → RecOk C f nt c s x
  code : ∀ f nt c s x, r.code f nt c s = some x → CodeOk C f nt c s x
  ops : ∀ f nt all l s x, r.ops f nt all l s = some x → OpsOk C f nt all l s x
  draw : ∀ f nt all l s x, r.draw f nt all l s = some x → DrawR C nt all l s x.1 x.2

theorem callN_ok (hC : CfgOk C) {r : EvR} (hr : RecsOk C r) (f : FuncId) (args : List A) (m : Mem) (x : Res × Mem) (h : callN C r f args m = some x) : CallOk C f args m x := by
  refine call_sound hC hr.rcv hr.code (lv := fun _ => leaveB C.P) (fun f m0 r m x h => leaveB_ok h) f args m x ?_
  unfold callN at h
  cases hx : C.ext f with
  | some gx => rw [hx] at h; exact h
  | none =>
  simp only [hx] at h ⊢
  cases hf : C.P.funcs[f]? with
  | none => simp only [hf] at h; cases h
  | some fn =>
  simp only [hf] at h ⊢
  cases hb : fn.body with
  | none => simp only [hb] at h; cases h
  | some c =>
  simp only [hb] at h ⊢
  split at h
  · cases h
  · rename_i hn
    rw [if_neg hn]
    obtain ⟨⟨e, s'⟩, h1, h2⟩ := Option.bind_eq_some_iff.1 h
    refine Option.bind_eq_some_iff.2 ⟨(e, s'), h1, ?_⟩
    cases e with
    | exit i => cases h2
    | pan a => exact h2
    | normal =>
      obtain ⟨a, h3, h4⟩ := Option.bind_eq_some_iff.1 h2
      exact Option.bind_eq_some_iff.2 ⟨a, h3, h4⟩
    | ret =>
      obtain ⟨a, h3, h4⟩ := Option.bind_eq_some_iff.1 h2
      exact Option.bind_eq_some_iff.2 ⟨a, h3, h4⟩
theorem codeN_ok (hC : CfgOk C) {r : EvR} (hr : RecsOk C r) (f : FuncId) (nt : Nat) (c : Code) (s : St) (x : Ex × St) (h : codeN C r f nt c s = some x) : CodeOk C f nt c s x := by
  refine code_sound hC hr.code hr.ops hr.draw f nt c s x ?_
  unfold codeN at h
  cases c with
  | region id ops draw =>
    cases draw with
    | true =>
      simp only [if_true] at h ⊢
      obtain ⟨y, h1, h2⟩ := Option.bind_eq_some_iff.1 h
      exact Option.bind_eq_some_iff.2 ⟨y, h1, drawEndB_ok h2⟩
    | false => exact h
  | loop b =>
    obtain ⟨⟨e, s'⟩, h1, h2⟩ := Option.bind_eq_some_iff.1 h
    refine Option.bind_eq_some_iff.2 ⟨(e, s'), h1, ?_⟩
    cases e with
    | normal =>
      obtain ⟨s1, h3, h4⟩ := Option.bind_eq_some_iff.1 h2
      exact Option.bind_eq_some_iff.2 ⟨s1, endRoundB_ok h3, h4⟩
    | exit i => exact h2
    | ret => exact h2
    | pan a => exact h2
  | _ => exact h
theorem evR_ok (hC : CfgOk C) : ∀ n, RecsOk C (evR C n)
  | 0 => ⟨fun _ _ _ _ h => (nomatch h), fun _ _ _ _ _ h => (nomatch h), fun _ _ _ _ _ h => (nomatch h), fun _ _ _ _ _ _ h => (nomatch h), fun _ _ _ _ _ _ h => (nomatch h)⟩
  | n + 1 =>
    have hr := evR_ok hC n
    ⟨callN_ok hC hr, fun f nt c s x h => rec_sound hC hr.rcv hr.code f nt c s x h, codeN_ok hC hr, fun f nt all l s x h => ops_sound hr.call hr.ops f nt all l s x h, fun f nt all l s x h => draw_valid hr.call hr.draw f nt all l s x h⟩

/-! ### A call on an empty store, on any store -/
/-- A call without arguments that answers a flag. -/
theorem call_frame (hgl : ∀ n, closed 0 0 (C.gl n) = true) {f : FuncId} {b : Bool} {m1 : Mem} (h : CallOk C f [] ⟨[], []⟩ (.ret (.bool b), m1)) (m : Mem) : CallOk C f [] m (.ret (.bool b), m) := by
  refine ⟨h.1, fun w0 g w vals hs hv => ?_⟩
  have hgl' : ∀ n, VR w { g with F := fun k _ => k < w.heap.size, nb := 0, rl := [] } (C.gl n) (.pointer (some ⟨n, 0, none⟩)) := fun n => by
    have h1 := VR.cut (nb := 0) (nr := 0) _ _ (hgl n) (hs.gl n)
    refine VR.monoB (⟨fun k o hF => ⟨?_, rfl⟩, Nat.zero_le _, fun i hi => ?_, fun i L hL => ?_⟩ : ExtB w (cutG g 0 0) w _) _ _ h1
    · rcases hF with hF | ⟨id, L, _, h2, rfl, _⟩
      · exact hs.lim k o hF
      · exact hs.br_lt (List.getElem?_eq_some_iff.1 h2).1
    · exact absurd hi (by simp [cutG])
    · simp [cutG] at hL
  have hs0 : SR C.P C.gl w { g with F := fun k _ => k < w.heap.size, nb := 0, rl := [] } ⟨[], []⟩ w := {
    below := Below.refl _ _
    nb := rfl
    rl := rfl
    es := fun i r h => by simp at h
    bx := fun i r h => by simp at h
    rw := fun i r h => by simp at h
    ownb := fun i h => by simp at h
    ownr := fun i h => by simp at h
    injb := fun i j h => by simp at h
    injr := fun i j h => by simp at h
    dis := fun i j h => by simp at h
    old := fun b o h => h
    lim := fun b o h => h
    gl := hgl'
    dr := fun _ => Nat.le_refl _ }
  refine (h.2 w _ w vals hs0 ?_).mono fun e w' hR => ?_
  · rw [VRs] at hv ⊢; exact hv
  obtain ⟨g', hs', hx, hres⟩ := hR
  have hbel := hs'.below
  have hcell : ∀ k o, k < w.heap.size → w'.cell? ⟨k, o, none⟩ = w.cell? ⟨k, o, none⟩ := fun k o hk => (hx.fx k o hk).2
  have hext : Ext w g w' g := ⟨⟨fun k o hF => ⟨hF, hcell k o (hs.lim k o hF)⟩, Nat.le_refl _, fun _ _ => rfl, fun i L h => ⟨L, h, Nat.le_refl _, fun _ => ⟨rfl, rfl⟩, rfl⟩⟩, fun b hb hl => ⟨hbel.block b hb, hl⟩, hbel.size⟩
  refine ⟨g, ?_, hext, ?_⟩
  · exact {
      below := hs.below.trans (hbel.mono hs.szB)
      nb := hs.nb
      rl := hs.rl
      es := hs.es
      bx := fun i cs hi => by
        obtain ⟨us, t, h1, h2⟩ := hs.bx i cs hi
        refine ⟨us, t, ?_, h2.mono hext⟩
        rw [hbel.block _ (Array.getElem?_eq_some_iff.1 h1).1]
        exact h1
      rw := fun i r hi => by
        obtain ⟨us, ss, rest, h1, h2, h3, h4⟩ := hs.rw i r hi
        refine ⟨us, ss, rest, ?_, h2, h3, h4.mono hext⟩
        rw [hbel.block _ (Array.getElem?_eq_some_iff.1 h1).1]
        exact h1
      ownb := hs.ownb
      ownr := hs.ownr
      injb := hs.injb
      injr := hs.injr
      dis := hs.dis
      old := hs.old
      lim := fun b o hF => Nat.lt_of_lt_of_le (hs.lim b o hF) hbel.size
      gl := fun n => (hs.gl n).mono hext
      dr := fun hf => Nat.le_trans (hs.dr hf) (hs'.dr hf) }
  · cases e with
    | returned v => exact hres
    | panicked ch => exact hres.elim
    | outgrown => exact hres.elim
end
/-- Does it answer true? -/
def saysTrue (x : Option (Res × Mem)) : Bool := match x with | some (.ret (.bool b), _) => b | _ => false
theorem saysTrue_ok {x : Option (Res × Mem)} (h : saysTrue x = true) : ∃ m, x = some (.ret (.bool true), m) := by
  unfold saysTrue at h
  split at h
  · rename_i b m; exact ⟨m, by rw [h]⟩
  · cases h
end AE
end Go.Proofs.YthoomlenmgdebaaGreatDoor
