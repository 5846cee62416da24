/- Regions that draw their order, the end. -/
import Derived.Test.YtdifmcdgnbnhiaaDoorAEX
set_option linter.unusedVariables false
set_option linter.unusedSimpArgs false
set_option linter.unusedSectionVars false
set_option maxHeartbeats 3200000
namespace Go.Proofs.YtdifmcdgnbnhiaaDoor
namespace AE
open Go Go.RowKit

section
variable {C : Cfg} {nt : Nat} {ops : Array Oper} {d : DrawAnn} {s s' : St} {tr : List Ent} {w0 w1 : World} {g1 : Gh} {df : List Deferred}

theorem getD_put_same {a : Act} {t : Nat} {v : Value} (h : t < a.tmps.size) : (a.put (some t) v).tmps.getD t undef = v := by
  simp [Act.put, Array.getD_eq_getD_getElem?, Array.getElem?_setIfInBounds, h]
theorem getD_put_ne {a : Act} {dd : Option Nat} {t : Nat} {v : Value} (h : dd ≠ some t) : (a.put dd v).tmps.getD t undef = a.tmps.getD t undef := by
  cases dd with
  | none => rfl
  | some u =>
    have : u ≠ t := fun e => h (by rw [e])
    simp [Act.put, Array.getD_eq_getD_getElem?, Array.getElem?_setIfInBounds, this]

theorem Inv.next (D : Drawn C nt ops d s s' tr) {L : Nat → Bool} {g g' : Gh} {a : Act} {w w' : World} (I : Inv C nt ops d s s' tr w0 df w1 g1 L g a w) {i : Nat} {o : Oper} {e : Ent} {v : Value}
    (ho : ops[i]? = some o) (hL : L i = false) (hpre : ∀ j ∈ d.pre.getD i [], L j = true) (he : tr[i]? = some e) (hd : o.dst.all (· < nt) = true) (hx : Ext w g w' g') (hv : VR w' g' e.v v)
    (hm : ∃ c, c ≤ ops.size ∧ (∀ k, k < c → effAt ops k → k = i ∨ L k = true) ∧ (c = ops.size ∨ (effAt ops c ∧ c ≠ i ∧ L c = false)) ∧ SR C.P C.gl w0 g' (memAt tr s'.m c) w') :
    Inv C nt ops d s s' tr w0 df w1 g1 (fun j => if j = i then true else L j) g' (a.put o.dst v) w' := by
  refine ⟨by rw [put_size]; exact I.size, by rw [put_defers]; exact I.dfr, fun j hj k hk => ?_, fun j o' t e' ho' hj ht he' => ?_, fun t ht => ?_, ?_, I.ext.trans hx⟩
  · have hj : (if j = i then true else L j) = true := hj
    show (if k = i then true else L k) = true
    split
    · rfl
    · split at hj
      · rename_i h1; subst h1; exact hpre k hk
      · exact I.clo j hj k hk
  · have hj : (if j = i then true else L j) = true := hj
    by_cases hji : j = i
    · subst hji
      rw [ho] at ho'
      cases ho'
      rw [he] at he'
      cases he'
      rw [ht] at hd ⊢
      simp only [Option.all_some, decide_eq_true_eq] at hd
      rw [getD_put_same (by rw [I.size]; exact hd)]
      exact hv
    · rw [if_neg hji] at hj
      rw [getD_put_ne (fun q => D.facts.dst i j o o' t ho ho' (Ne.symm hji) q ht)]
      exact VR.mono hx _ _ (I.new j o' t e' ho' hj ht he')
  · have hne : o.dst ≠ some t := fun q => by
      have := ht i o ho q
      simp at this
    rw [getD_put_ne hne]
    refine VR.mono hx _ _ (I.old t fun j o' ho' hd' => ?_)
    have : (if j = i then true else L j) = false := ht j o' ho' hd'
    split at this
    · cases this
    · exact this
  · obtain ⟨c, h1, h2, h3, h4⟩ := hm
    refine ⟨c, h1, fun k hk hek => ?_, ?_, h4⟩
    · show (if k = i then true else L k) = true
      rcases h2 k hk hek with q | q
      · rw [if_pos q]
      · split
        · rfl
        · exact q
    · rcases h3 with q | ⟨q1, q2, q3⟩
      · exact .inl q
      · exact .inr ⟨q1, by show (if c = i then true else L c) = false; rw [if_neg q2]; exact q3⟩

theorem sched_sound (D : Drawn C nt ops d s s' tr) {Q : Exit → Act → World → Prop} (hQ : ∀ L g a w, (∀ i, i < ops.size → L i = true) → Inv C nt ops d s s' tr w0 df w1 g1 L g a w → Q .normal a w) :
    ∀ (l : List Nat) (L : Nat → Bool) (g : Gh) (a : Act) (w : World), Topo ops L l → Inv C nt ops d s s' tr w0 df w1 g1 L g a w → wpOps C.P ops Q l a w
  | [], L, g, a, w, ht, I => hQ L g a w ht I
  | i :: r, L, g, a, w, ⟨hi, hL, hdir, htop⟩, I => by
    have rec_ := sched_sound D hQ r
    obtain ⟨o, ho⟩ : ∃ o, ops[i]? = some o := ⟨ops[i], Array.getElem?_eq_getElem hi⟩
    obtain ⟨e, he, hem, hd, hstep⟩ := D.step i o ho
    have hpre : ∀ j ∈ d.pre.getD i [], L j = true := fun j hj => by
      obtain ⟨ev, hev, hb, q⟩ := D.facts.pre i o ho j hj
      have := hdir o ho ev hev hb
      rcases q with q | q
      · rw [← q]; exact this
      · exact I.clo _ this j q
    have hreads : ∀ t ∈ readsOf ops o, VR w g (lk t (tmAt ops.toList tr s.tm i)) (a.tmps.getD t undef) := fun t ht => by
      by_cases hex : ∃ (j : Nat) (o' : Oper), ops[j]? = some o' ∧ o'.dst = some t
      · obtain ⟨j, o', ho', hd'⟩ := hex
        rcases D.facts.reads i j o o' t ho ho' ht hd' with ⟨q1, q2⟩ | ⟨q1, q2⟩
        · obtain ⟨e', he', _⟩ := D.step j o' ho'
          rw [tmAt_new ops.toList tr s.tm i j t o' e' q1 (by simpa using ho') he' hd' fun k o'' hk hk' hdk => D.facts.dst k j o'' o' t (by simpa using hk') ho' hk hdk hd']
          exact I.new j o' t e' ho' (hpre j q2) hd' he'
        · have hLj : L j = false := by
            cases hq : L j with
            | false => rfl
            | true => have := I.clo j hq i q2; rw [hL] at this; cases this
          rw [tmAt_old ops.toList tr s.tm i t fun k o'' hk hk' hdk => by
            by_cases hkj : k = j
            · omega
            · exact D.facts.dst k j o'' o' t (by simpa using hk') ho' hkj hdk hd']
          refine I.old t fun k o'' hk' hdk => ?_
          by_cases hkj : k = j
          · subst hkj; exact hLj
          · exact absurd hd' (D.facts.dst k j o'' o' t hk' ho' hkj hdk)
      · rw [tmAt_old ops.toList tr s.tm i t fun k o'' hk hk' hdk => hex ⟨k, o'', by simpa using hk', hdk⟩]
        exact I.old t fun k o'' hk' hdk => absurd ⟨k, o'', hk', hdk⟩ hex
    -- the operands
    let ρX : Operand → A := fun x => match x with | .tmp t => if t ∈ readsOf ops o then lk t (tmAt ops.toList tr s.tm i) else .undef | x => opd C.gl (tmAt ops.toList tr s.tm i) x
    obtain ⟨c, hc1, hc2, hc3, hsr⟩ := I.mem
    have hρX : ∀ x, VR w g (ρX x) (a.eval x) := fun x => by
      cases x with
      | tmp t =>
        show VR w g (if t ∈ readsOf ops o then _ else _) _
        split
        · rename_i hin; exact hreads t hin
        · rw [VR]; trivial
      | const v => exact VR_ofV v
      | global n => exact hsr.gl n
      | func f =>
        show VR w g (.fn f []) (.func (.func f) #[] #[])
        rw [VR]
        exact ⟨[], rfl, VRs.mk_nil⟩
    have hagree : ∀ x ∈ o.op.operands.toList, opd C.gl (tmAt ops.toList tr s.tm i) x = ρX x := fun x hx => by
      cases x with
      | tmp t =>
        show lk t _ = if t ∈ readsOf ops o then _ else _
        rw [if_pos]
        unfold readsOf
        rw [List.mem_append]
        exact .inl (List.mem_filterMap.2 ⟨.tmp t, hx, rfl⟩)
      | const v => rfl
      | global n => rfl
      | func f => rfl
    -- the memory
    have hci : effAt ops i → c = i := fun hei => by
      rcases Nat.lt_trichotomy c i with q | q | q
      · rcases hc3 with h | ⟨⟨oc, hoc, hec⟩, hLc⟩
        · omega
        · obtain ⟨o2, ho2, he2⟩ := hei
          have := hpre c (D.facts.effs c i oc o2 hoc ho2 hec he2 q)
          rw [hLc] at this; cases this
      · exact q
      · have := hc2 i q hei
        rw [hL] at this; cases this
    have hnextE : effAt ops i → ∃ c', c' ≤ ops.size ∧ (∀ k, k < c' → effAt ops k → k = i ∨ L k = true) ∧ (c' = ops.size ∨ (effAt ops c' ∧ c' ≠ i ∧ L c' = false)) ∧ memAt tr s'.m c' = memAt tr s'.m (i + 1) := fun hei => by
      have hcc := hci hei
      obtain ⟨c', h1, h2, h3, h4⟩ := search (fun k => effAt ops k ∧ L k = false) ops.size (ops.size - (i + 1)) (i + 1) (by omega)
      refine ⟨c', h2, fun k hk hek => ?_, ?_, ?_⟩
      · rcases Nat.lt_trichotomy k i with q | q | q
        · exact .inr (hc2 k (by omega) hek)
        · exact .inl q
        · right
          cases hq : L k with
          | true => rfl
          | false => exact absurd ⟨hek, hq⟩ (h3 k (by omega) hk)
      · rcases h4 with q | ⟨q1, q2⟩
        · exact .inl q
        · exact .inr ⟨q1, by omega, q2⟩
      · have := D.same (i + 1) (c' - (i + 1)) (by omega) fun k hk1 hk2 hek => by
          have hnk := h3 k hk1 (by omega)
          have hLk : L k = true := by
            cases hq : L k with
            | true => rfl
            | false => exact absurd ⟨hek, hq⟩ hnk
          obtain ⟨ok, hok, hek'⟩ := hek
          obtain ⟨o2, ho2, he2⟩ := hei
          have := I.clo k hLk i (D.facts.effs i k o2 ok ho2 hok he2 hek' (by omega))
          rw [hL] at this; cases this
        rwa [show i + 1 + (c' - (i + 1)) = c' from by omega] at this
    have hnextN : ¬ effAt ops i → (∀ k, k < c → effAt ops k → k = i ∨ L k = true) ∧ (c = ops.size ∨ (effAt ops c ∧ c ≠ i ∧ L c = false)) := fun hne =>
      ⟨fun k hk hek => .inr (hc2 k hk hek), by
        rcases hc3 with q | ⟨q1, q2⟩
        · exact .inl q
        · exact .inr ⟨q1, fun q => hne (q ▸ q1), q2⟩⟩
    have fin : ∀ (g' : Gh) (w' : World) (v : Value), Ext w g w' g' → VR w' g' e.v v →
        (∃ c', c' ≤ ops.size ∧ (∀ k, k < c' → effAt ops k → k = i ∨ L k = true) ∧ (c' = ops.size ∨ (effAt ops c' ∧ c' ≠ i ∧ L c' = false)) ∧ SR C.P C.gl w0 g' (memAt tr s'.m c') w') → wpOps C.P ops Q r (a.put o.dst v) w' :=
      fun g' w' v hx hv hm => rec_ _ g' _ w' htop (I.next D ho hL hpre he hd hx hv hm)
    rcases hstep with ⟨hw, hv, hm1, hkd⟩ | ⟨hw, hrun⟩
    · -- it does not run
      have hwant := want_sound' (ops := ops) rfl hw hreads
      simp only [wpOps, ho, hwant, Bool.false_eq_true, if_false]
      refine fin g w undef (Ext.refl _ _) (by rw [hv, VR]; exact ⟨[], rfl, VRs.mk_nil⟩) ?_
      by_cases hei : effAt ops i
      · obtain ⟨c', h1, h2, h3, h4⟩ := hnextE hei
        refine ⟨c', h1, h2, h3, ?_⟩
        rw [h4, hm1]
        rw [hci hei] at hsr
        exact hsr
      · obtain ⟨h1, h2⟩ := hnextN hei
        exact ⟨c, hc1, h1, h2, hsr⟩
    · have hwant := want_sound' (ops := ops) rfl hw hreads
      simp only [wpOps, ho, hwant, if_true]
      refine .inl ?_
      have upon : ∀ (b : A) (m' : Mem), b = e.v → Good C.P C.gl w0 w g m' b ((execOp a.eval o).run C.P w) → (∀ g' w', SR C.P C.gl w0 g' m' w' → ∃ c', c' ≤ ops.size ∧ (∀ k, k < c' → effAt ops k → k = i ∨ L k = true) ∧ (c' = ops.size ∨ (effAt ops c' ∧ c' ≠ i ∧ L c' = false)) ∧ SR C.P C.gl w0 g' (memAt tr s'.m c') w') → o.wp C.P a w (wpOps C.P ops Q r) Q := by
        rintro b m' rfl ⟨v, w', g', hr, hv, hs', hx⟩ hm
        unfold Oper.wp
        rcases hr with hr | ⟨hr, rfl⟩
        · rw [hr]; exact fin g' w' v hx hv (hm g' w' hs')
        · rw [hr]; exact fin g' w' undef hx hv (hm g' w' hs')
      rcases hrun with ⟨gop, args, tys, hh, caps, hop, hfn, hcall, hkd⟩ | ⟨hnc, hopA, hkd⟩
      · -- a call
        have hei : effAt ops i := ⟨o, ho, by rw [hop]; rfl⟩
        have hcc := hci hei
        subst hcc
        have hgm : gop ∈ o.op.operands.toList := by rw [hop]; simp [Op.operands, Call.operands]
        have hgv := hρX gop
        rw [← hagree gop hgm, hfn, VR] at hgv
        obtain ⟨us, hgv, hus⟩ := hgv
        obtain ⟨hcb, hcalls⟩ := hcall
        have hargs : VRs w g (args.toList.map (opd C.gl (tmAt ops.toList tr s.tm c)) ++ caps) (args.toList.map a.eval ++ us) := by
          rw [List.map_congr_left fun x hx => hagree x (by rw [hop]; simp only [Op.operands, Call.operands, Array.toList_append, List.mem_append]; exact .inr hx)]
          exact (VRs_map hρX).append hus
        unfold Oper.wp
        rw [run_call hop hgv hcb, Oper.upon_enter]
        have := hcalls w0 g w _ hsr hargs
        rw [show (args.toList.map a.eval ++ us).toArray = args.map a.eval ++ us.toArray from by apply Array.ext'; simp] at this
        refine this.mono fun en w' hR => ?_
        obtain ⟨g', hs', hx, hres⟩ := hR
        cases en with
        | returned v =>
          obtain ⟨c', h1, h2, h3, h4⟩ := hnextE hei
          exact fin g' w' v hx hres ⟨c', h1, h2, h3, by rw [h4]; exact hs'⟩
        | panicked ch => exact hres.elim
        | outgrown => exact hres.elim
      · rw [opA_congr hagree] at hopA
        by_cases heo : isEff o.op = true
        · have hei : effAt ops i := ⟨o, ho, heo⟩
          have hcc := hci hei
          rw [hcc] at hsr
          refine upon _ _ rfl (opA_sound hsr o hopA hρX) fun g' w' hs' => ?_
          obtain ⟨c', h1, h2, h3, h4⟩ := hnextE hei
          exact ⟨c', h1, h2, h3, by rw [h4]; exact hs'⟩
        · have hei : ¬ effAt ops i := fun ⟨o2, ho2, he2⟩ => by rw [ho] at ho2; cases ho2; exact heo he2
          obtain ⟨hn1, hn2⟩ := hnextN hei
          have heo' : isEff o.op = false := by simpa using heo
          by_cases hl : ∃ t x, o.op = .load t x
          · obtain ⟨t, x, hl⟩ := hl
            have hload : loadA C.P t (ρX x) (memAt tr s'.m c) = some e.v := by
              have hent : tr[i]? = some ⟨.load t (opd C.gl (tmAt ops.toList tr s.tm i) x), e.v, e.m⟩ := by
                rw [he]
                obtain ⟨kd, v, m⟩ := e
                simp only at hkd ⊢
                rw [hkd, hl]
                rfl
              have hchk := chkNeed_mem D.need (D.facts.need i o t x ho hl) _ _ _ _ hent
              have hxa := hagree x (by rw [hl]; simp [Op.operands])
              rw [hxa] at hchk
              have hreq := reqOf_mem (pre := d.pre) (p := i) (c := c) (n := ops.size) I.clo hL hpre (effIdx ops) (fun k hk hkc => hc2 k hkc (effIdx_mem.1 hk)) (List.Pairwise.filter _ (List.pairwise_lt_range))
              rcases hc3 with q | ⟨q1, q2⟩
              · have := hchk.2 (hreq.2 fun k hk => hc2 k (by
                  have := effIdx_mem.1 hk
                  obtain ⟨ok, hok, _⟩ := this
                  have := (Array.getElem?_eq_some_iff.1 hok).1
                  omega) (effIdx_mem.1 hk))
                have hm : memAt tr s'.m c = s'.m := by
                  unfold memAt
                  rw [List.getElem?_eq_none (by rw [D.valid.length]; simp; omega)]
                  rfl
                rw [hm]
                exact this
              · have q1' := q1
                obtain ⟨oc, hoc, _⟩ := q1'
                obtain ⟨ec, hec, hecm, _⟩ := D.step c oc hoc
                have := hchk.1 c (hreq.1 ⟨effIdx_mem.2 q1, q2⟩) ec hec
                rw [← hecm]
                exact this
            have hop' : opA C.P o.op ρX (memAt tr s'.m c) = some (e.v, memAt tr s'.m c) := by
              rw [hl]
              simp only [opA, hload, Option.map_some]
            exact upon _ _ rfl (opA_sound hsr o hop' hρX) fun g' w' hs' => ⟨c, hc1, hn1, hn2, hs'⟩
          · have := (opA_mem (m' := memAt tr s'.m c) heo' (fun t x q => hl ⟨t, x, q⟩) hopA).2
            exact upon _ _ rfl (opA_sound hsr o this hρX) fun g' w' hs' => ⟨c, hc1, hn1, hn2, hs'⟩

/-- A region that draws. -/
theorem draw_sound (hm : C.P.follows .mixedOrders = true) {id : Nat} {k : Option (List Nat)} {w0 w : World} {g : Gh} {a : Act} {x : Ex × St} {ok : Bool} (hok : ok = true → drawOk ops d = true) (hv : Valid C nt ops.toList ops.toList s tr s') (he : drawEnd C.P ok d tr k s' = some x)
    (hsz : a.tmps.size = nt) (hs : SR C.P C.gl w0 g s.m w) (ht : TmR w g s.tm a.tmps) : (Code.region id ops true).wp C.P (Post C w0 w g nt a.defers x) a w := by
  unfold drawEnd at he
  split at he
  · rename_i hc
    obtain ⟨c1, c2⟩ := hc
    replace c1 := hok c1
    simp only [Option.some.injEq] at he
    subst he
    have F := drawOk_facts c1
    have D : Drawn C nt ops d s s' tr := ⟨hv, F, c2⟩
    obtain ⟨hsd, hed⟩ := hs.drew
    refine wp_region_draw fun t => ?_
    refine sched_sound D (w0 := w0) (w1 := w) (g1 := g) (df := a.defers) ?_ _ (fun _ => false) g a w.drew (schedule_topo ops F.lt _ hm t) ?_
    · intro L g' a' w' hall I
      obtain ⟨c, h1, h2, h3, h4⟩ := I.mem
      have hmem : memAt tr s'.m c = s'.m := by
        rcases h3 with q | ⟨⟨oc, hoc, _⟩, q⟩
        · unfold memAt
          rw [List.getElem?_eq_none (by rw [hv.length]; simp; omega)]
          rfl
        · rw [hall c (Array.getElem?_eq_some_iff.1 hoc).1] at q
          cases q
      rw [hmem] at h4
      refine ⟨g', h4, I.ext, TmR.prune _ fun t => ?_, I.size, I.dfr, trivial⟩
      rw [hv.last]
      by_cases hex : ∃ (j : Nat) (o' : Oper), ops[j]? = some o' ∧ o'.dst = some t
      · obtain ⟨j, o', ho', hd'⟩ := hex
        obtain ⟨e', he', _⟩ := D.step j o' ho'
        have hj := (Array.getElem?_eq_some_iff.1 ho').1
        rw [tmAt_new ops.toList tr s.tm ops.toList.length j t o' e' (by simpa using hj) (by simpa using ho') he' hd' fun k o'' hk hk' hdk => F.dst k j o'' o' t (by simpa using hk') ho' hk hdk hd']
        exact I.new j o' t e' ho' (hall j hj) hd' he'
      · rw [tmAt_old ops.toList tr s.tm _ t fun k o'' hk hk' hdk => hex ⟨k, o'', by simpa using hk', hdk⟩]
        exact I.old t fun k o'' hk' hdk => absurd ⟨k, o'', hk', hdk⟩ hex
    · refine ⟨hsz, rfl, (fun i hi => by cases hi), (fun i o t e _ hi => by cases hi), fun t _ => VR.mono hed _ _ (ht t), ?_, hed⟩
      obtain ⟨c, h1, h2, h3, h4⟩ := search (effAt ops) ops.size ops.size 0 (by omega)
      refine ⟨c, h2, fun k hk hek => absurd hek (h3 k (Nat.zero_le _) hk), ?_, ?_⟩
      · rcases h4 with q | q
        · exact .inl q
        · exact .inr ⟨q, rfl⟩
      · have := D.same 0 c (by omega) fun k _ hk hek => h3 k (Nat.zero_le _) (by omega) hek
        rw [Nat.zero_add] at this
        rw [this, hv.head]
        exact hsd
  · cases he
end
end AE
end Go.Proofs.YtdifmcdgnbnhiaaDoor
