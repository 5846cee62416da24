/- Regions that draw their order, the end. -/
import Derived.Test.YthoomlenmgdebaaGreatDoorGB
set_option linter.unusedVariables false
set_option linter.unusedSimpArgs false
set_option linter.unusedSectionVars false
set_option maxHeartbeats 3200000
namespace Go.Proofs.YthoomlenmgdebaaGreatDoor
namespace AE
open Go Go.RowKit
section
variable {C : Cfg} {nt : Nat} {ops : Array Oper} {d : DrawAnn} {po : Option (Nat × A × Mem)} {s s' : St} {tr : List Ent} {w0 w1 : World} {g1 : Gh} {df : List Deferred}
theorem getD_put_same {a : Act} {t : Nat} {v : Value} (h : t < a.tmps.size) : (a.put (some t) v).tmps.getD t undef = v := by
  simp [Act.put, Array.getD_eq_getD_getElem?, Array.getElem?_setIfInBounds, h]
theorem getD_put_ne {a : Act} {dd : Option Nat} {t : Nat} {v : Value} (h : dd ≠ some t) : (a.put dd v).tmps.getD t undef = a.tmps.getD t undef := by
  cases dd with
  | none => rfl
  | some u =>
    have : u ≠ t := fun e => h (by rw [e])
    simp [Act.put, Array.getD_eq_getD_getElem?, Array.getElem?_setIfInBounds, this]
theorem NewOk.next (D : Drawn C nt ops d po s s' tr) {L : Nat → Bool} {g g' : Gh} {a : Act} {w w' : World} {i c : Nat} {o : Oper} {e : Ent} {v : Value} (h : NewOk ops tr L c g a w) (hsz : a.tmps.size = nt)
    (ho : ops[i]? = some o) (he : tr[i]? = some e) (hd : o.dst.all (· < nt) = true) (hx : ExtB w g w' g') (hv : (effAt ops i → i < c) → VR w' g' e.v v) : NewOk ops tr (fun j => if j = i then true else L j) c g' (a.put o.dst v) w' := by
  intro j o' t e' ho' hj ht he' hc
  have hj : (if j = i then true else L j) = true := hj
  by_cases hji : j = i
  · subst hji
    rw [ho] at ho'
    cases ho'
    rw [he] at he'
    cases he'
    rw [ht] at hd ⊢
    simp only [Option.all_some, decide_eq_true_eq] at hd
    rw [getD_put_same (by rw [hsz]; exact hd)]
    exact hv hc
  · rw [if_neg hji] at hj
    rw [getD_put_ne (fun q => D.facts.dst i j o o' t ho ho' (Ne.symm hji) q ht)]
    exact VR.monoB hx _ _ (h j o' t e' ho' hj ht he' hc)
theorem PendAt.next (D : Drawn C nt ops d po s s' tr) {g g' : Gh} {a : Act} {w w' : World} {i j b : Nat} {o : Oper} {v : Value} (h : PendAt C ops d w0 w1 j b g a w) (ho : ops[i]? = some o) (hij : j ≠ i) (hx : Ext w g w' g') : PendAt C ops d w0 w1 j b g' (a.put o.dst v) w' := by
  obtain ⟨h1, h2, h3, h4, o', T, zv, k1, k2, k3, k4, k5, k6⟩ := h
  obtain ⟨q1, q2⟩ := hx.fr b h3 h4
  refine ⟨h1, h2, ?_, q2, o', T, zv, k1, k2, k3, fun t ht => ?_, by rw [q1]; exact k5, k6⟩
  · rw [← q1] at k5
    exact (Array.getElem?_eq_some_iff.1 k5).1
  · rw [getD_put_ne (fun q => D.facts.dst j i o' o t k1 ho hij ht q)]
    exact k4 t ht
theorem advance (D : Drawn C nt ops d po s s' tr) {L : Nat → Bool} {a : Act} {w : World} (hclo : ∀ i, L i = true → ∀ j ∈ d.pre.getD i [], L j = true) (hnp : ∀ p b m, po = some (p, b, m) → L p = false) :
    ∀ (k n : Nat) (g : Gh), n + k = ops.size → SR C.P C.gl w0 g (memAt tr s'.m n) w → (∀ e, e < n → effAt ops e → L e = true) → NewOk ops tr L n g a w → Ext w1 g1 w g →
      (∃ B : Nat → Nat, (∀ i, n ≤ i → effAt ops i → L i = true → PendAt C ops d w0 w1 i (B i) g a w) ∧ ∀ i j, n ≤ i → effAt ops i → L i = true → n ≤ j → effAt ops j → L j = true → B i = B j → i = j) →
      ∃ g', MemP C ops d s s' tr w0 w1 L g' a w ∧ Ext w1 g1 w g' ∧ ExtB w g w g'
  | 0, n, g, hn, hs, he, hN, hx, hB => by
    obtain ⟨B, b1, b2⟩ := hB
    exact ⟨g, ⟨n, none, _, by omega, he, .inl (by omega), hs, hN, rfl, B, fun i hi q1 q2 => .inr (b1 i (by omega) q1 q2), fun i j hi h1 h2 hj => b2 i j (by omega) h1 h2 (by omega)⟩, hx, ExtB.refl _ _⟩
  | k + 1, n, g, hn, hs, he, hN, hx, hB => by
    obtain ⟨B, b1, b2⟩ := hB
    by_cases hef : effAt ops n
    case neg =>
      have hlt : n < ops.size := by omega
      have hst : memAt tr s'.m (n + 1) = memAt tr s'.m n := D.still n ops[n] (Array.getElem?_eq_getElem hlt) (by
        cases hq : isEff ops[n].op with
        | false => rfl
        | true => exact absurd ⟨_, Array.getElem?_eq_getElem hlt, hq⟩ hef)
      refine advance D hclo hnp k (n + 1) g (by omega) (by rw [hst]; exact hs) (fun e h1 h2 => ?_) (fun i o t e h1 h2 h3 h4 h5 => hN i o t e h1 h2 h3 h4 fun hi => ?_) hx ⟨B, fun i hi => b1 i (by omega), fun i j hi h1 h2 hj => b2 i j (by omega) h1 h2 (by omega)⟩
      · rcases Nat.lt_or_ge e n with q | q
        · exact he e q h2
        · have : e = n := by omega
          subst this
          exact absurd h2 hef
      · have := h5 hi
        rcases Nat.lt_or_ge i n with q | q
        · exact q
        · have : i = n := by omega
          subst this
          exact absurd hi hef
    case pos =>
    cases hL : L n with
    | false => exact ⟨g, ⟨n, none, _, by omega, he, .inr ⟨hef, hL⟩, hs, hN, rfl, B, fun i hi q1 q2 => .inr (b1 i (by omega) q1 q2), fun i j hi h1 h2 hj => b2 i j (by omega) h1 h2 (by omega)⟩, hx, ExtB.refl _ _⟩
    | true =>
      obtain ⟨h1, h2, h3, h4, o, T, zv, k1, k2, k3, k4, k5, k6⟩ := b1 n (Nat.le_refl _) hef hL
      obtain ⟨e, e1, e2, e3, e4⟩ := D.step n o k1
      have hrun : e.v = .ptr (memAt tr s'.m n).bx.length 0 ∧ memAt tr s'.m (n + 1) = ⟨(memAt tr s'.m n).bx ++ [zv.cells.toList.map A.ofCell], (memAt tr s'.m n).rw⟩ := by
        rcases e4 with ⟨⟨q, _⟩ | ⟨_, ⟨gop, args, tys, hh, caps, hop, _⟩ | ⟨_, hop, _⟩⟩, _⟩ | ⟨p, b, m, hp, hin, _⟩ | ⟨b, m, hp, _, _, gop, args, tys, hh, caps, hop, _⟩
        · unfold wantA at q
          rw [k3] at q
          cases q
        · rw [k2] at hop; cases hop
        · rw [k2] at hop
          simp only [opA, k6, Option.bind_some, Option.some.injEq, Prod.mk.injEq] at hop
          exact ⟨hop.1.symm, hop.2.symm⟩
        · have := hnp p b m hp
          rw [hclo n hL p hin] at this
          cases this
        · rw [k2] at hop; cases hop
      obtain ⟨g', s1, s2, s3, s4, s5⟩ := hs.adopt h1 h4 k5 (VRs_ofCells _)
      have hx' : Ext w1 g1 w g' := by
        refine ⟨⟨fun b o hF => ?_, Nat.le_trans hx.nb s2.nb, fun i hi => ?_, fun i Lr hLr => ?_⟩, fun b' hb' hl' => ?_, hx.sz⟩
        · obtain ⟨q1, q2⟩ := hx.fx b o hF
          exact ⟨(s2.fx b o q1).1, q2⟩
        · rw [s2.bb i (Nat.lt_of_lt_of_le hi hx.nb), hx.bb i hi]
        · obtain ⟨L1, q1, q2, q3, q4⟩ := hx.rl i Lr hLr
          obtain ⟨L2, r1, r2, r3, r4⟩ := s2.rl i L1 q1
          refine ⟨L2, r1, Nat.le_trans q2 r2, fun e => ?_, r4.trans q4⟩
          have e1 : L1 = Lr := by omega
          have e2 : L2 = L1 := by omega
          exact ⟨(r3 e2).1.trans (q3 e1).1, (r3 e2).2.trans (q3 e1).2⟩
        · obtain ⟨q1, q2⟩ := hx.fr b' hb' hl'
          exact ⟨q1, s5 b' (by omega) q2⟩
      obtain ⟨g'', r1, r2, r3⟩ := advance D hclo hnp k (n + 1) g' (by omega) (by rw [hrun.2]; exact s1) (fun e h1 h2 => by
          rcases Nat.lt_or_ge e n with q | q
          · exact he e q h2
          · have : e = n := by omega
            subst this
            exact hL) (fun i o' t e' q1 q2 q3 q4 q5 => by
          by_cases hin : i = n
          · subst hin
            rw [k1] at q1
            cases q1
            rw [e1] at q4
            cases q4
            rw [hrun.1, k4 t q3, VR]
            exact ⟨by rw [s4]; omega, by rw [s3]⟩
          · refine VR.monoB s2 _ _ (hN i o' t e' q1 q2 q3 q4 fun hi => ?_)
            have := q5 hi
            omega) hx' ⟨B, fun i hi q1 q2 => by
          obtain ⟨p1, p2, p3, p4, p5⟩ := b1 i (by omega) q1 q2
          exact ⟨p1, p2, p3, s5 _ (fun q => by have := b2 i n (by omega) q1 q2 (Nat.le_refl _) hef hL q; omega) p4, p5⟩, fun i j hi q1 q2 hj => b2 i j (by omega) q1 q2 (by omega)⟩
      refine ⟨g'', r1, r2, ⟨fun b o hF => ?_, Nat.le_trans s2.nb r3.nb, fun i hi => ?_, fun i Lr hLr => ?_⟩⟩
      · exact ⟨(r3.fx b o (s2.fx b o hF).1).1, rfl⟩
      · rw [r3.bb i (Nat.lt_of_lt_of_le hi s2.nb), s2.bb i hi]
      · obtain ⟨L1, q1, q2, q3, q4⟩ := s2.rl i Lr hLr
        obtain ⟨L2, p1, p2, p3, p4⟩ := r3.rl i L1 q1
        refine ⟨L2, p1, Nat.le_trans q2 p2, fun e => ?_, p4.trans q4⟩
        have e1 : L1 = Lr := by omega
        have e2 : L2 = L1 := by omega
        exact ⟨(p3 e2).1.trans (q3 e1).1, (p3 e2).2.trans (q3 e1).2⟩
theorem Inv.next (D : Drawn C nt ops d po s s' tr) {L : Nat → Bool} {g g' : Gh} {a : Act} {w w' : World} (I : Inv C nt ops d po s s' tr w0 df w1 g1 L g a w) {i : Nat} {o : Oper} {v : Value}
    (ho : ops[i]? = some o) (hL : L i = false) (hnp : ∀ p b m, po = some (p, b, m) → p ≠ i) (hpre : ∀ j ∈ d.pre.getD i [], L j = true) (hx : ExtB w g w' g') (hx1 : Ext w1 g1 w' g')
    (hm : MemP C ops d s s' tr w0 w1 (fun j => if j = i then true else L j) g' (a.put o.dst v) w') :
    Inv C nt ops d po s s' tr w0 df w1 g1 (fun j => if j = i then true else L j) g' (a.put o.dst v) w' := by
  refine ⟨by rw [put_size]; exact I.size, by rw [put_defers]; exact I.dfr, fun j hj k hk => ?_, fun t ht => ?_, hm, hx1, fun p b m hp => by show (if p = i then true else L p) = false; rw [if_neg (hnp p b m hp)]; exact I.np p b m hp⟩
  · have hj : (if j = i then true else L j) = true := hj
    show (if k = i then true else L k) = true
    split
    · rfl
    · split at hj
      · rename_i h1; subst h1; exact hpre k hk
      · exact I.clo j hj k hk
  · have hne : o.dst ≠ some t := fun q => by
      have := ht i o ho q
      simp at this
    rw [getD_put_ne hne]
    refine VR.monoB hx _ _ (I.old t fun j o' ho' hd' => ?_)
    have : (if j = i then true else L j) = false := ht j o' ho' hd'
    split at this
    · cases this
    · exact this
theorem sched_sound (D : Drawn C nt ops d po s s' tr) (hpl : ∀ p b m, po = some (p, b, m) → p < ops.size) {Q : Exit → Act → World → Prop} (hQ : ∀ L g a w, (∀ i, i < ops.size → L i = true) → Inv C nt ops d po s s' tr w0 df w1 g1 L g a w → Q .normal a w)
    (hP : ∀ p b m L g a w g' w' ch, po = some (p, b, m) → p < ops.size → Inv C nt ops d po s s' tr w0 df w1 g1 L g a w → SR C.P C.gl w0 g' m w' → Ext w g w' g' → ResR w' g' (.pan b) (.panicked ch) → Q (.panic ch) a w') :
    ∀ (l : List Nat) (L : Nat → Bool) (g : Gh) (a : Act) (w : World), Topo ops L l → Inv C nt ops d po s s' tr w0 df w1 g1 L g a w → wpOps C.P ops Q l a w
  | [], L, g, a, w, ht, I => hQ L g a w ht I
  | i :: r, L, g, a, w, ⟨hi, hL, hdir, htop⟩, I => by
    have rec_ := sched_sound D hpl hQ hP r
    obtain ⟨o, ho⟩ : ∃ o, ops[i]? = some o := ⟨ops[i], Array.getElem?_eq_getElem hi⟩
    obtain ⟨e, he, hem, hd, hstep⟩ := D.step i o ho
    have hpre : ∀ j ∈ d.pre.getD i [], L j = true := fun j hj => by
      obtain ⟨ev, hev, hb, q⟩ := D.facts.pre i o ho j hj
      have := hdir o ho ev hev hb
      rcases q with q | q
      · rw [← q]; exact this
      · exact I.clo _ this j q
    obtain ⟨c, lt, M, hc1, hc2, hc3, hsr, hnew, hlate, B, hB1, hB2⟩ := I.mem
    have hreads : ∀ t ∈ readsOf ops o, VR w g (lk t (tmAt ops.toList tr s.tm i)) (a.tmps.getD t undef) := fun t ht => by
      by_cases hex : ∃ (j : Nat) (o' : Oper), ops[j]? = some o' ∧ o'.dst = some t
      · obtain ⟨j, o', ho', hd'⟩ := hex
        rcases D.facts.reads i j o o' t ho ho' ht hd' with ⟨q1, q2⟩ | ⟨q1, q2⟩
        · obtain ⟨e', he', _⟩ := D.step j o' ho'
          rw [tmAt_new ops.toList tr s.tm i j t o' e' q1 (by simpa using ho') he' hd' fun k o'' hk hk' hdk => D.facts.dst k j o'' o' t (by simpa using hk') ho' hk hdk hd']
          refine hnew j o' t e' ho' (hpre j q2) hd' he' fun hej => ?_
          rcases Nat.lt_trichotomy j c with q | q | q
          · exact q
          · subst q
            rcases hc3 with q | ⟨_, q⟩
            · have := (Array.getElem?_eq_some_iff.1 ho').1
              omega
            · rw [hpre j q2] at q; cases q
          · exfalso
            rcases hc3 with q3 | ⟨⟨oc, hoc, hec⟩, q3⟩
            · have := (Array.getElem?_eq_some_iff.1 ho').1
              omega
            · obtain ⟨oj, hoj, hej⟩ := hej
              rw [ho'] at hoj
              cases hoj
              rcases D.facts.effs c j oc o' hoc ho' hec hej q with q4 | q4 | ⟨l, q4⟩
              · have := I.clo j (hpre j q2) c q4
                rw [q3] at this; cases this
              · have := hpre c (q4.2.2 i o t ho hd' ht c oc hoc hec q)
                rw [q3] at this; cases this
              · rw [q4.ds'] at hd'
                cases hd'
        · have hLj : L j = false := by
            cases hq : L j with
            | false => rfl
            | true => have := I.clo j hq i q2; rw [hL] at this; cases this
          rw [tmAt_old ops.toList tr s.tm i t fun k o'' hk hk' hdk => by
            by_cases hkj : k = j
            · omega
            · exact D.facts.dst k j o'' o' t (by simpa using hk') ho' hkj hdk hd']
          refine I.old t fun k o'' hk' hdk => ?_
          by_cases hkj : k = j
          · subst hkj; exact hLj
          · exact absurd hd' (D.facts.dst k j o'' o' t hk' ho' hkj hdk)
      · rw [tmAt_old ops.toList tr s.tm i t fun k o'' hk hk' hdk => hex ⟨k, o'', by simpa using hk', hdk⟩]
        exact I.old t fun k o'' hk' hdk => absurd ⟨k, o'', hk', hdk⟩ hex
    let ρX : Operand → A := fun x => match x with | .tmp t => if t ∈ readsOf ops o then lk t (tmAt ops.toList tr s.tm i) else .undef | x => opd C.gl (tmAt ops.toList tr s.tm i) x
    have hρX : ∀ x, VR w g (ρX x) (a.eval x) := fun x => by
      cases x with
      | tmp t =>
        show VR w g (if t ∈ readsOf ops o then _ else _) _
        split
        · rename_i hin; exact hreads t hin
        · rw [VR]; trivial
      | const v => exact VR_ofV v
      | global n => exact hsr.gl n
      | func f =>
        show VR w g (.fn f []) (.func (.func f) #[] #[])
        rw [VR]
        exact ⟨[], rfl, VRs.mk_nil⟩
    have hagree : ∀ x ∈ o.op.operands.toList, opd C.gl (tmAt ops.toList tr s.tm i) x = ρX x := fun x hx => by
      cases x with
      | tmp t =>
        show lk t _ = if t ∈ readsOf ops o then _ else _
        rw [if_pos]
        unfold readsOf
        rw [List.mem_append]
        exact .inl (List.mem_filterMap.2 ⟨.tmp t, hx, rfl⟩)
      | const v => rfl
      | global n => rfl
      | func f => rfl
    rcases hstep with ⟨hstep, hne0⟩ | ⟨p, b, mp, hpo, hin, _⟩ | ⟨b, mp, hpo, _, hpan⟩
    case inr.inl =>
      have h1 := I.np p b mp hpo
      rw [hpre p hin] at h1
      cases h1
    case inr.inr =>
      obtain ⟨hw, gop, args, tys, hh, caps, hop, hfn, hcall⟩ := hpan
      have hwant := want_sound' (ops := ops) rfl hw hreads
      simp only [wpOps, ho, hwant, if_true]
      refine .inl ?_
      have hei : effAt ops i := ⟨o, ho, by rw [hop]; rfl⟩
      have hcc : c = i := by
        rcases Nat.lt_trichotomy c i with q | q | q
        · rcases hc3 with h | ⟨⟨oc, hoc, hec⟩, hLc⟩
          · omega
          · obtain ⟨o2, ho2, he2⟩ := hei
            rcases D.facts.effs c i oc o2 hoc ho2 hec he2 q with q4 | ⟨⟨T, q4⟩, _⟩ | ⟨l, q4⟩
            · have := hpre c q4
              rw [hLc] at this; cases this
            · rw [ho] at ho2
              cases ho2
              rw [hop] at q4; cases q4
            · rw [ho] at ho2
              cases ho2
              obtain ⟨x, q5⟩ := q4.st'
              rw [hop] at q5; cases q5
        · exact q
        · have := hc2 i q hei
          rw [hL] at this; cases this
      subst hcc
      have hM : M = memAt tr s'.m c := by
        cases lt with
        | none => exact hlate
        | some j =>
          obtain ⟨_, _, oc, oj, l, hoc, _, hlo, _⟩ := hlate
          rw [ho] at hoc
          cases hoc
          obtain ⟨x, q5⟩ := hlo.st
          rw [hop] at q5; cases q5
      subst hM
      have hgm : gop ∈ o.op.operands.toList := by rw [hop]; simp [Op.operands, Call.operands]
      have hgv := hρX gop
      rw [← hagree gop hgm, hfn, VR] at hgv
      obtain ⟨us, hgv, hus⟩ := hgv
      obtain ⟨hcb, hcalls⟩ := hcall
      have hargs : VRs w g (args.toList.map (opd C.gl (tmAt ops.toList tr s.tm c)) ++ caps) (args.toList.map a.eval ++ us) := by
        rw [List.map_congr_left fun x hx => hagree x (by rw [hop]; simp only [Op.operands, Call.operands, Array.toList_append, List.mem_append]; exact .inr hx)]
        exact (VRs_map hρX).append hus
      unfold Oper.wp
      rw [run_call hop hgv hcb, Oper.upon_enter]
      have := hcalls w0 g w _ hsr hargs
      rw [show (args.toList.map a.eval ++ us).toArray = args.map a.eval ++ us.toArray from by apply Array.ext'; simp] at this
      refine this.mono fun en w' hR => ?_
      obtain ⟨g', hs', hx, hres⟩ := hR
      cases en with
      | returned v => exact hres.elim
      | panicked ch => exact hP c b mp L g a w g' w' ch hpo hi I hs' hx hres
      | outgrown => exact hres.elim
    have hnp : ∀ p b m, po = some (p, b, m) → p ≠ i := by
      rintro p b m hpo rfl
      exact hne0 b m hpo
    have hci : effAt ops i → c = i ∨ (c < i ∧ AlOk ops d i o) ∨ (c < i ∧ ∃ oc l, ops[c]? = some oc ∧ LateOk ops d c i oc o l) := fun hei => by
      rcases Nat.lt_trichotomy c i with q | q | q
      · rcases hc3 with h | ⟨⟨oc, hoc, hec⟩, hLc⟩
        · omega
        · obtain ⟨o2, ho2, he2⟩ := hei
          rw [ho] at ho2
          cases ho2
          rcases D.facts.effs c i oc o hoc ho hec he2 q with q4 | q4 | ⟨l, q4⟩
          · have := hpre c q4
            rw [hLc] at this; cases this
          · exact .inr (.inl ⟨q, q4⟩)
          · exact .inr (.inr ⟨q, oc, l, hoc, q4⟩)
      · exact .inl q
      · have := hc2 i q hei
        rw [hL] at this; cases this
    have hclo' : ∀ j, (if j = i then true else L j) = true → ∀ k ∈ d.pre.getD j [], (if k = i then true else L k) = true := fun j hj k hk => by
      split
      · rfl
      · split at hj
        · rename_i h1; subst h1; exact hpre k hk
        · exact I.clo j hj k hk
    have hnp' : ∀ p b m, po = some (p, b, m) → (if p = i then true else L p) = false := fun p b m hp => by rw [if_neg (hnp p b m hp)]; exact I.np p b m hp
    have hpd : ∀ (g' : Gh) (w' : World) (v : Value), Ext w g w' g' → ∀ j, c < j → effAt ops j → (if j = i then true else L j) = true → j ≠ i → lt = some j ∨ PendAt C ops d w0 w1 j (B j) g' (a.put o.dst v) w' := fun g' w' v hx j hj hej hLj hji => by
      rw [if_neg hji] at hLj
      rcases hB1 j hj hej hLj with q | q
      · exact .inl q
      · exact .inr (q.next D ho hji hx)
    /- an effect whose turn it is -/
    have finE : lt = none → c = i → ∀ (g' : Gh) (w' : World) (v : Value), Ext w g w' g' → VR w' g' e.v v → SR C.P C.gl w0 g' (memAt tr s'.m (i + 1)) w' → wpOps C.P ops Q r (a.put o.dst v) w' := fun hlt hci g' w' v hx hv hs2 => by
      subst hci
      obtain ⟨g'', m1, m2, m3⟩ := advance D (L := fun j => if j = c then true else L j) (a := a.put o.dst v) (w := w') (w0 := w0) (w1 := w1) (g1 := g1) hclo' hnp' (ops.size - (c + 1)) (c + 1) g' (by omega) hs2 (fun k hk hek => by
          show (if k = c then true else L k) = true
          split
          · rfl
          · exact hc2 k (by omega) hek)
        (by
          have hN := NewOk.next D (c := c + 1) (fun j o' t e' q1 q2 q3 q4 q5 => hnew j o' t e' q1 q2 q3 q4 fun hej => by
            have := q5 hej
            rcases Nat.lt_or_ge j c with q | q
            · exact q
            · have : j = c := by omega
              subst this
              rw [hL] at q2; cases q2) I.size ho he hd hx.toExtB (fun _ => hv)
          exact hN) (I.ext.trans hx)
        ⟨B, fun j hj hej hLj => (hpd g' w' v hx j (by omega) hej hLj (by omega)).resolve_left (by rw [hlt]; intro h; cases h), fun j k hj hej hLj hk hek hLk hjk => by
          have hLj : (if j = c then true else L j) = true := hLj
          have hLk : (if k = c then true else L k) = true := hLk
          rw [if_neg (by omega)] at hLj hLk
          exact hB2 j k (by omega) hej hLj (by omega) hek hLk hjk⟩
      refine rec_ _ g'' _ w' htop (I.next D ho hL hnp hpre ?_ m2 m1)
      refine ⟨fun b o hF => ?_, Nat.le_trans hx.nb m3.nb, fun i hi => ?_, fun i Lr hLr => ?_⟩
      · obtain ⟨q1, q2⟩ := hx.fx b o hF
        exact ⟨(m3.fx b o q1).1, q2⟩
      · rw [m3.bb i (Nat.lt_of_lt_of_le hi hx.nb), hx.bb i hi]
      · obtain ⟨L1, q1, q2, q3, q4⟩ := hx.rl i Lr hLr
        obtain ⟨L2, p1, p2, p3, p4⟩ := m3.rl i L1 q1
        refine ⟨L2, p1, Nat.le_trans q2 p2, fun e => ?_, p4.trans q4⟩
        have e1 : L1 = Lr := by omega
        have e2 : L2 = L1 := by omega
        exact ⟨(p3 e2).1.trans (q3 e1).1, (p3 e2).2.trans (q3 e1).2⟩
    /- what changes no memory -/
    have finN : ¬ effAt ops i → ∀ (g' : Gh) (w' : World) (v : Value), Ext w g w' g' → VR w' g' e.v v → SR C.P C.gl w0 g' M w' → wpOps C.P ops Q r (a.put o.dst v) w' := fun hne g' w' v hx hv hs2 => by
      have hic : i ≠ c ∨ c = ops.size := by
        by_cases h : i = c
        · subst h
          rcases hc3 with q | ⟨q, _⟩
          · exact .inr q
          · exact absurd q hne
        · exact .inl h
      refine rec_ _ g' _ w' htop (I.next D ho hL hnp hpre hx.toExtB (I.ext.trans hx) ⟨c, lt, M, hc1, fun k hk hek => ?_, ?_, hs2, NewOk.next D hnew I.size ho he hd hx.toExtB (fun _ => hv), ?_, B, fun j hj hej hLj => hpd g' w' v hx j hj hej hLj (fun q => hne (by rw [← q]; exact hej)), fun j k hj hej hLj hk hek hLk hjk => ?_⟩)
      · show (if k = i then true else L k) = true
        split
        · rfl
        · exact hc2 k hk hek
      · rcases hc3 with q | ⟨q1, q2⟩
        · exact .inl q
        · exact .inr ⟨q1, by show (if c = i then true else L c) = false; rw [if_neg (fun q => hne (by rw [← q]; exact q1))]; exact q2⟩
      · cases lt with
        | none => exact hlate
        | some j =>
          obtain ⟨q1, q2, q3⟩ := hlate
          refine ⟨q1, ?_, q3⟩
          show (if j = i then true else L j) = true
          split
          · rfl
          · exact q2
      · have hLj : (if j = i then true else L j) = true := hLj
        have hLk : (if k = i then true else L k) = true := hLk
        rw [if_neg (fun q => hne (by rw [← q]; exact hej))] at hLj
        rw [if_neg (fun q => hne (by rw [← q]; exact hek))] at hLk
        exact hB2 j k hj hej hLj hk hek hLk hjk
    rcases hstep with ⟨hw, hv, hm1, hkd⟩ | ⟨hw, hrun⟩
    · -- it does not run
      have hwant := want_sound' (ops := ops) rfl hw hreads
      simp only [wpOps, ho, hwant, Bool.false_eq_true, if_false]
      have hvu : VR w g e.v undef := by rw [hv, VR]; exact ⟨[], rfl, VRs.mk_nil⟩
      by_cases hei : effAt ops i
      · rcases hci hei with q | ⟨_, q⟩ | ⟨_, oc, l, _, q⟩
        · cases lt with
          | none =>
            refine finE rfl q g w undef (Ext.refl _ _) hvu ?_
            rw [hm1]
            have hlate : M = memAt tr s'.m c := hlate
            rw [hlate, q] at hsr
            exact hsr
          | some j =>
            exfalso
            obtain ⟨_, _, oc, oj, l, hoc, _, hlo, _⟩ := hlate
            rw [q, ho] at hoc
            cases hoc
            unfold wantA at hw
            rw [hlo.gd] at hw
            cases hw
        · exfalso
          unfold wantA at hw
          rw [q.2.1] at hw
          cases hw
        · exfalso
          unfold wantA at hw
          rw [q.gd'] at hw
          cases hw
      · exact finN hei g w undef (Ext.refl _ _) hvu hsr
    · have hwant := want_sound' (ops := ops) rfl hw hreads
      simp only [wpOps, ho, hwant, if_true]
      refine .inl ?_
      have upon : ∀ (b : A) (m' : Mem), b = e.v → Good C.P C.gl w0 w g m' b ((execOp a.eval o).run C.P w) → (∀ g' w' v, Ext w g w' g' → VR w' g' e.v v → SR C.P C.gl w0 g' m' w' → wpOps C.P ops Q r (a.put o.dst v) w') → o.wp C.P a w (wpOps C.P ops Q r) Q := by
        rintro b m' rfl ⟨v, w', g', hr, hv, hs', hx⟩ hm
        unfold Oper.wp
        rcases hr with hr | ⟨hr, rfl⟩
        · rw [hr]; exact hm g' w' v hx hv hs'
        · rw [hr]; exact hm g' w' undef hx hv hs'
      rcases hrun with ⟨gop, args, tys, hh, caps, hop, hfn, hcall, hkd⟩ | ⟨hnc, hopA, hkd⟩
      · -- a call
        have hei : effAt ops i := ⟨o, ho, by rw [hop]; rfl⟩
        have hcc : c = i := by
          rcases hci hei with q | ⟨_, ⟨T, q⟩, _⟩ | ⟨_, oc, l, _, q⟩
          · exact q
          · rw [hop] at q; cases q
          · obtain ⟨x, q5⟩ := q.st'
            rw [hop] at q5; cases q5
        subst hcc
        have hln : lt = none := by
          cases lt with
          | none => rfl
          | some j =>
            obtain ⟨_, _, oc, oj, l, hoc, _, hlo, _⟩ := hlate
            rw [ho] at hoc
            cases hoc
            obtain ⟨x, q5⟩ := hlo.st
            rw [hop] at q5; cases q5
        subst hln
        have hlate : M = memAt tr s'.m c := hlate
        subst hlate
        have hgm : gop ∈ o.op.operands.toList := by rw [hop]; simp [Op.operands, Call.operands]
        have hgv := hρX gop
        rw [← hagree gop hgm, hfn, VR] at hgv
        obtain ⟨us, hgv, hus⟩ := hgv
        obtain ⟨hcb, hcalls⟩ := hcall
        have hargs : VRs w g (args.toList.map (opd C.gl (tmAt ops.toList tr s.tm c)) ++ caps) (args.toList.map a.eval ++ us) := by
          rw [List.map_congr_left fun x hx => hagree x (by rw [hop]; simp only [Op.operands, Call.operands, Array.toList_append, List.mem_append]; exact .inr hx)]
          exact (VRs_map hρX).append hus
        unfold Oper.wp
        rw [run_call hop hgv hcb, Oper.upon_enter]
        have := hcalls w0 g w _ hsr hargs
        rw [show (args.toList.map a.eval ++ us).toArray = args.map a.eval ++ us.toArray from by apply Array.ext'; simp] at this
        refine this.mono fun en w' hR => ?_
        obtain ⟨g', hs', hx, hres⟩ := hR
        cases en with
        | returned v => exact finE rfl rfl g' w' v hx hres hs'
        | panicked ch => exact hres.elim
        | outgrown => exact hres.elim
      · rw [opA_congr hagree] at hopA
        by_cases heo : isEff o.op = true
        · have hei : effAt ops i := ⟨o, ho, heo⟩
          rcases hci hei with hcc | ⟨hcc, hal⟩ | ⟨hcc, oc, l, hoc, hlo⟩
          · cases lt with
            | none =>
              have hlate : M = memAt tr s'.m c := hlate
              have hsr' := hsr
              rw [hlate, hcc] at hsr'
              exact upon _ _ rfl (opA_sound hsr' o hopA hρX) (finE rfl hcc)
            | some j =>
              subst hcc
              obtain ⟨hcj, hLj, oc, oj, l, hoc, hoj, hlo, hrun⟩ := hlate
              rw [ho] at hoc
              cases hoc
              rw [opA_congr hagree] at hrun
              have hev : e.v = .tup [] := by
                obtain ⟨x, hst⟩ := hlo.st
                rw [hst] at hopA
                simp only [opA] at hopA
                obtain ⟨m2, _, h2⟩ := Option.map_eq_some_iff.1 hopA
                simp only [Prod.mk.injEq] at h2
                exact h2.1.symm
              rw [← hev] at hrun
              refine upon _ _ rfl (opA_sound hsr o hrun hρX) fun g' w' v hx hv hs2 => ?_
              have hall : ∀ k, effAt ops k → k = c ∨ L k = true := fun k hek => by
                by_cases hkc : k = c
                · exact .inl hkc
                · by_cases hkj : k = j
                  · rw [hkj]; exact .inr hLj
                  · obtain ⟨ok, hok, hke⟩ := hek
                    exact .inr (hc2 k (hlo.effs k ok hok hke hkc hkj).1 ⟨ok, hok, hke⟩)
              refine rec_ _ g' _ w' htop (I.next D ho hL hnp hpre hx.toExtB (I.ext.trans hx) ⟨ops.size, none, _, Nat.le_refl _, fun k hk hek => ?_, .inl rfl, hs2, ?_, ?_, fun _ => 0, fun k hk hek hLk => ?_, fun k q hk hek hLk => ?_⟩)
              · show (if k = c then true else L k) = true
                split
                · rfl
                · rename_i hkc
                  rcases hall k hek with q | q
                  · exact absurd q hkc
                  · exact q
              · refine NewOk.next D (fun k o' t e' q1 q2 q3 q4 q5 => hnew k o' t e' q1 q2 q3 q4 fun hek => ?_) I.size ho he hd hx.toExtB (fun _ => hv)
                by_cases hkc : k = c
                · subst hkc
                  rw [hL] at q2; cases q2
                · by_cases hkj : k = j
                  · subst hkj
                    rw [hoj] at q1
                    cases q1
                    rw [hlo.ds'] at q3
                    cases q3
                  · obtain ⟨ok, hok, hke⟩ := hek
                    exact (hlo.effs k ok hok hke hkc hkj).1
              · show s'.m = memAt tr s'.m ops.size
                unfold memAt
                rw [List.getElem?_eq_none (by rw [D.valid.length]; simp)]
                rfl
              · obtain ⟨ok, hok, _⟩ := hek
                have := (Array.getElem?_eq_some_iff.1 hok).1
                omega
              · obtain ⟨ok, hok, _⟩ := hek
                have := (Array.getElem?_eq_some_iff.1 hok).1
                omega
          · -- an allocation that comes early
            have hln : lt = none := by
              cases lt with
              | none => rfl
              | some j =>
                obtain ⟨_, hLj, oc, oj, l, _, hoj, hlo, _⟩ := hlate
                have hij : i ≠ j := fun q => by rw [q, hLj] at hL; cases hL
                have := (hlo.effs i o ho heo (by omega) hij).1
                omega
            subst hln
            have hlate : M = memAt tr s'.m c := hlate
            subst hlate
            obtain ⟨⟨T, hT⟩, hgn, _⟩ := hal
            have hopA' := hopA
            rw [hT] at hopA'
            simp only [opA] at hopA'
            obtain ⟨z, hz, _⟩ := Option.bind_eq_some_iff.1 hopA'
            obtain ⟨zv, hzr, hzz⟩ := run_zero (w := w) hz
            obtain ⟨n1, n2, n3⟩ := hsr.newLoose (.cells zv.cells T)
            have hr : (execOp a.eval o).run C.P w = .ok (.value (.pointer (some ⟨w.heap.size, 0, none⟩))) (w.alloc (.cells zv.cells T)) := by
              simp only [execOp, hT, Instr.alloc, Sem.run_bind, hzr, Result.andThen_ok, newVar, newRow, run_newObj, Sem.run_pure]
              rfl
            unfold Oper.wp
            rw [hr]
            show wpOps C.P ops Q r (a.put o.dst (.pointer (some ⟨w.heap.size, 0, none⟩))) (w.alloc (.cells zv.cells T))
            have hsz0 : w1.heap.size ≤ w.heap.size := I.ext.sz
            have hlast : (w.alloc (.cells zv.cells T)).heap[w.heap.size]? = some (.cells zv.cells T) := heap_new _ _
            refine rec_ _ g _ _ htop (I.next D ho hL hnp hpre n2.toExtB (I.ext.trans n2) ⟨c, none, _, hc1, fun k hk hek => ?_, ?_, n1, NewOk.next D hnew I.size ho he hd n2.toExtB (fun q => by have := q hei; omega), ?_, fun j => if j = i then w.heap.size else B j, fun j hj hej hLj => ?_, fun j k hj hej hLj hk hek hLk hjk => ?_⟩)
            · show (if k = i then true else L k) = true
              split
              · rfl
              · exact hc2 k hk hek
            · rcases hc3 with q | ⟨q1, q2⟩
              · exact .inl q
              · exact .inr ⟨q1, by show (if c = i then true else L c) = false; rw [if_neg (by omega)]; exact q2⟩
            · rfl
            · refine .inr ?_
              by_cases hji : j = i
              · subst hji
                simp only [if_true]
                refine ⟨hsr.szB, hsz0, by simp, n3, o, T, zv, ho, hT, hgn, fun t ht => ?_, hlast, by rw [hz, hzz]⟩
                rw [ht] at hd ⊢
                simp only [Option.all_some, decide_eq_true_eq] at hd
                exact getD_put_same (by rw [I.size]; exact hd)
              · simp only [hji, if_false]
                exact (hpd g _ _ n2 j hj hej hLj hji).resolve_left (by intro h; cases h)
            · have hlt : ∀ j, c < j → effAt ops j → (if j = i then true else L j) = true → j ≠ i → B j < w.heap.size := fun j q1 q2 q3 q4 => by
                rw [if_neg q4] at q3
                exact ((hB1 j q1 q2 q3).resolve_left (by intro h; cases h)).lt
              by_cases hji : j = i
              · by_cases hki : k = i
                · rw [hji, hki]
                · simp only [hji, hki, if_true, if_false] at hjk
                  have := hlt k hk hek hLk hki
                  omega
              · by_cases hki : k = i
                · simp only [hji, hki, if_true, if_false] at hjk
                  have := hlt j hj hej hLj hji
                  omega
                · simp only [hji, hki, if_false] at hjk
                  have hLj : (if j = i then true else L j) = true := hLj
                  have hLk : (if k = i then true else L k) = true := hLk
                  rw [if_neg hji] at hLj
                  rw [if_neg hki] at hLk
                  exact hB2 j k hj hej hLj hk hek hLk hjk
          · -- a store that comes early
            have hei' : i < ops.size := hi
            have hln : lt = none := by
              cases lt with
              | none => rfl
              | some j =>
                obtain ⟨_, hLj, oc, oj, l, _, hoj, hlo2, _⟩ := hlate
                have hij : i ≠ j := fun q => by rw [q, hLj] at hL; cases hL
                have := (hlo2.effs i o ho heo (by omega) hij).1
                omega
            subst hln
            have hlate : M = memAt tr s'.m c := hlate
            subst hlate
            have hpo : po = none := by
              cases hq : po with
              | none => rfl
              | some z =>
                exfalso
                obtain ⟨p, b, m⟩ := z
                have hLp := I.np p b m hq
                have hpl : p < ops.size := hpl p b m hq
                obtain ⟨op_, hop_, hpe⟩ := D.pan_eff hq hpl
                by_cases hpc : p = c
                · obtain ⟨e2, _, _, _, hs2⟩ := D.step p op_ hop_
                  rcases hs2 with ⟨_, hne⟩ | ⟨p', b', m', hpo', hin, _⟩ | ⟨b', m', _, _, _, gop, args, tys, hh, caps, hop, _⟩
                  · exact absurd hq (hne b m)
                  · rw [hq] at hpo'
                    simp only [Option.some.injEq, Prod.mk.injEq] at hpo'
                    obtain ⟨rfl, _, _⟩ := hpo'
                    have := D.pre_lt p _ hop_ hin
                    omega
                  · rw [hpc, hoc] at hop_
                    cases hop_
                    obtain ⟨x, q5⟩ := hlo.st
                    rw [hop] at q5; cases q5
                · have := hpre p (hlo.effs p op_ hop_ hpe hpc (hnp p b m hq)).2.2
                  rw [hLp] at this; cases this
            have hnoe : ∀ k, effAt ops k → k ≠ c → k ≠ i → k < c := fun k ⟨ok, hok, hke⟩ h1 h2 => (hlo.effs k ok hok hke h1 h2).1
            have hmi : memAt tr s'.m i = memAt tr s'.m (c + 1) := by
              have := D.same (c + 1) (i - (c + 1)) (by omega) fun k h1 h2 hk => by
                have := hnoe k hk (by omega) (by omega)
                omega
              rwa [show c + 1 + (i - (c + 1)) = i by omega] at this
            have hme : memAt tr s'.m (i + 1) = s'.m := by
              have := D.same (i + 1) (ops.size - (i + 1)) (by omega) fun k h1 h2 hk => by
                have := hnoe k hk (by omega) (by omega)
                omega
              rw [show i + 1 + (ops.size - (i + 1)) = ops.size by omega] at this
              rw [← this]
              unfold memAt
              rw [List.getElem?_eq_none (by rw [D.valid.length]; simp)]
              rfl
            obtain ⟨ec, hec, hecm, _, hsc⟩ := D.step c oc hoc
            obtain ⟨x, hst⟩ := hlo.st
            obtain ⟨y, hst'⟩ := hlo.st'
            have hcrun : opA C.P oc.op (opd C.gl (tmAt ops.toList tr s.tm c)) (memAt tr s'.m c) = some (ec.v, memAt tr s'.m (c + 1)) := by
              rcases hsc with ⟨⟨q, _⟩ | ⟨_, ⟨gop, args, tys, hh, caps, hop, _⟩ | ⟨_, q, _⟩⟩, _⟩ | ⟨p, b, m, hp, _⟩ | ⟨b, m, hp, _⟩
              · unfold wantA at q
                rw [hlo.gd] at q
                cases q
              · rw [hst] at hop; cases hop
              · exact q
              · rw [hpo] at hp; cases hp
              · rw [hpo] at hp; cases hp
            have hirun := hopA
            rw [← opA_congr hagree, hst'] at hirun
            rw [hst] at hcrun
            simp only [opA] at hirun hcrun
            obtain ⟨mc, hsc1, hsc2⟩ := Option.map_eq_some_iff.1 hcrun
            obtain ⟨mi, hsi1, hsi2⟩ := Option.map_eq_some_iff.1 hirun
            simp only [Prod.mk.injEq] at hsc2 hsi2
            rw [hsc2.2] at hsc1
            rw [hsi2.2, hmi, hme] at hsi1
            have hdis : disjA (szOf C.P l.t) (szOf C.P l.u) (opd C.gl (tmAt ops.toList tr s.tm c) (.tmp l.sa)) (opd C.gl (tmAt ops.toList tr s.tm i) (.tmp l.sb)) := by
              have hln := D.late hpo
              have : ∀ (L : List LateAnn), lateNeed C.P tr s'.tm L → l ∈ L → disjA (szOf C.P l.t) (szOf C.P l.u) (lateAddr tr s'.tm l.ka l.sa) (lateAddr tr s'.tm l.kb l.sb) := by
                intro L
                induction L with
                | nil => intro _ h; cases h
                | cons q r ih =>
                  intro h hm
                  rcases List.mem_cons.1 hm with rfl | hm
                  · exact h.1
                  · exact ih h.2 hm
              have := this _ hln hlo.mem
              rw [D.addr hoc hlo.sl, D.addr ho hlo.sl'] at this
              exact this
            obtain ⟨m3, hm3, hm4⟩ := store_comm hdis hsc1 hsi1
            have hrun3 : opA C.P o.op ρX (memAt tr s'.m c) = some (e.v, m3) := by
              rw [← opA_congr hagree, hst']
              simp only [opA, hm3, Option.map_some, ← hsi2.1]
            refine upon _ _ rfl (opA_sound hsr o hrun3 hρX) fun g' w' v hx hv hs2 => ?_
            refine rec_ _ g' _ w' htop (I.next D ho hL hnp hpre hx.toExtB (I.ext.trans hx) ⟨c, some i, m3, hc1, fun k hk hek => ?_, ?_, hs2, NewOk.next D hnew I.size ho he hd hx.toExtB (fun _ => hv), ?_, B, fun k hk hek hLk => .inl ?_, fun k q hk hek hLk hq heq hLq _ => ?_⟩)
            · show (if k = i then true else L k) = true
              split
              · rfl
              · exact hc2 k hk hek
            · rcases hc3 with q | ⟨q1, q2⟩
              · omega
              · exact .inr ⟨q1, by show (if c = i then true else L c) = false; rw [if_neg (by omega)]; exact q2⟩
            · refine ⟨hcc, ?_, oc, o, l, hoc, ho, hlo, ?_⟩
              · show (if i = i then true else L i) = true
                rw [if_pos rfl]
              · rw [hst]
                simp only [opA]
                have : storeA C.P l.t (opd C.gl (tmAt ops.toList tr s.tm c) (.tmp l.sa)) (opd C.gl (tmAt ops.toList tr s.tm c) x) m3 = some s'.m := hm4
                rw [this]
                rfl
            · by_cases hki : k = i
              · rw [hki]
              · have := hnoe k hek (by omega) hki
                omega
            · have h1 : k = i := by
                by_cases hki : k = i
                · exact hki
                · have := hnoe k hek (by omega) hki
                  omega
              have h2 : q = i := by
                by_cases hki : q = i
                · exact hki
                · have := hnoe q heq (by omega) hki
                  omega
              rw [h1, h2]
        · have hei : ¬ effAt ops i := fun ⟨o2, ho2, he2⟩ => by rw [ho] at ho2; cases ho2; exact heo he2
          have heo' : isEff o.op = false := by simpa using heo
          by_cases hl : ∃ t x, o.op = .load t x
          · obtain ⟨t, x, hl⟩ := hl
            have hln : lt = none := by
              cases lt with
              | none => rfl
              | some j =>
                obtain ⟨_, hLj, oc, oj, l, _, hoj, hlo, _⟩ := hlate
                have := I.clo j hLj i (hlo.lds i o t x ho hl)
                rw [hL] at this; cases this
            subst hln
            have hlate : M = memAt tr s'.m c := hlate
            subst hlate
            have hload : loadA C.P t (ρX x) (memAt tr s'.m c) = some e.v := by
              have hent : tr[i]? = some ⟨.load t (opd C.gl (tmAt ops.toList tr s.tm i) x), e.v, e.m⟩ := by
                rw [he]
                obtain ⟨kd, v, m⟩ := e
                simp only at hkd ⊢
                rw [hkd, hl]
                rfl
              have hchk := chkNeed_mem D.need (D.facts.need i o t x ho hl) _ _ _ _ hent
              have hxa := hagree x (by rw [hl]; simp [Op.operands])
              rw [hxa] at hchk
              have hreq := reqOf_mem (pre := d.pre) (p := i) (c := c) (n := ops.size) I.clo hL hpre (effIdx ops) (fun k hk hkc => hc2 k hkc (effIdx_mem.1 hk)) (List.Pairwise.filter _ (List.pairwise_lt_range))
              rcases hc3 with q | ⟨q1, q2⟩
              · have := hchk.2 (hreq.2 fun k hk => hc2 k (by
                  have := effIdx_mem.1 hk
                  obtain ⟨ok, hok, _⟩ := this
                  have := (Array.getElem?_eq_some_iff.1 hok).1
                  omega) (effIdx_mem.1 hk))
                have hm : memAt tr s'.m c = s'.m := by
                  unfold memAt
                  rw [List.getElem?_eq_none (by rw [D.valid.length]; simp; omega)]
                  rfl
                rw [hm]
                exact this
              · have q1' := q1
                obtain ⟨oc, hoc, _⟩ := q1'
                obtain ⟨ec, hec, hecm, _⟩ := D.step c oc hoc
                have := hchk.1 c (hreq.1 ⟨effIdx_mem.2 q1, q2⟩) ec hec
                rw [← hecm]
                exact this
            have hop' : opA C.P o.op ρX (memAt tr s'.m c) = some (e.v, memAt tr s'.m c) := by
              rw [hl]
              simp only [opA, hload, Option.map_some]
            exact upon _ _ rfl (opA_sound hsr o hop' hρX) (finN hei)
          · have := (opA_mem (m' := M) heo' (fun t x q => hl ⟨t, x, q⟩) hopA).2
            exact upon _ _ rfl (opA_sound hsr o this hρX) (finN hei)
theorem draw_sound (hm : C.P.follows .mixedOrders = true) {id : Nat} {k : Option (List Nat)} {w : World} {g : Gh} {a : Act} {x : Ex × St} {ok : Bool} {tr0 : List Ent} {y : Option (A × Mem) × St} (hok : ok = true → drawOk ops d = true) (hr : DrawR C nt ops.toList ops.toList s tr0 y) (he : drawEnd C.P C.gl nt ok d ops.toList tr0 k y = some x)
    (hsz : a.tmps.size = nt) (hs : SR C.P C.gl w0 g s.m w) (ht : TmR w g s.tm a.tmps) : (Code.region id ops true).wp C.P (Post C w0 w g nt a.defers x) a w := by
  have main : ∀ (po : Option (Nat × A × Mem)) (s' : St) (tr : List Ent), Valid C nt d po ops.toList 0 ops.toList s tr s' → ok = true → chkNeed C.P tr s'.m d.need → (po = none → lateNeed C.P tr s'.tm d.late) → (∀ p b m, po = some (p, b, m) → p < ops.size) →
      (∀ L g' a' w', po = none → (∀ i, i < ops.size → L i = true) → Inv C nt ops d po s s' tr w0 a.defers w g L g' a' w' → Drawn C nt ops d po s s' tr → SR C.P C.gl w0 g' s'.m w' → (∀ (i : Nat) (o : Oper) (t : Nat) (e : Ent), ops[i]? = some o → o.dst = some t → tr[i]? = some e → VR w' g' e.v (a'.tmps.getD t undef)) → Post C w0 w g nt a.defers x .normal a' w') →
      (∀ p b m L g1 a' w1 g' w' ch, po = some (p, b, m) → Inv C nt ops d po s s' tr w0 a.defers w g L g1 a' w1 → Drawn C nt ops d po s s' tr → SR C.P C.gl w0 g' m w' → Ext w1 g1 w' g' → ResR w' g' (.pan b) (.panicked ch) → Post C w0 w g nt a.defers x (.panic ch) a' w') →
      (Code.region id ops true).wp C.P (Post C w0 w g nt a.defers x) a w := by
    intro po s' tr hv c1 c2 c3 hlt hN hPn
    replace c1 := hok c1
    have F := drawOk_facts c1
    have D : Drawn C nt ops d po s s' tr := ⟨hv, F, c2, c3⟩
    obtain ⟨hsd, hed⟩ := hs.drew
    refine wp_region_draw fun t => ?_
    refine sched_sound D hlt (w0 := w0) (w1 := w) (g1 := g) (df := a.defers) ?_ ?_ _ (fun _ => false) g a w.drew (schedule_topo ops F.lt _ hm t) ?_
    · intro L g' a' w' hall I
      obtain ⟨c, lt, M, h1, h2, h3, h4, h5, h6, _⟩ := I.mem
      have hcs : c = ops.size := by
        rcases h3 with q | ⟨⟨oc, hoc, _⟩, q⟩
        · exact q
        · rw [hall c (Array.getElem?_eq_some_iff.1 hoc).1] at q
          cases q
      have hM : M = memAt tr s'.m c := by
        cases lt with
        | none => exact h6
        | some j =>
          obtain ⟨_, _, oc, oj, l, hoc, _⟩ := h6
          have := (Array.getElem?_eq_some_iff.1 hoc).1
          omega
      subst hM
      have hmem : memAt tr s'.m c = s'.m := by
        unfold memAt
        rw [List.getElem?_eq_none (by rw [hv.length]; simp; omega)]
        rfl
      rw [hmem] at h4
      have hpo : po = none := by
        cases hq : po with
        | none => rfl
        | some z =>
          obtain ⟨p, b, m⟩ := z
          have h5 := I.np p b m hq
          rw [hall p (hlt p b m hq)] at h5; cases h5
      refine hN L g' a' w' hpo hall I D h4 fun i o t e q1 q2 q3 => h5 i o t e q1 (hall i (Array.getElem?_eq_some_iff.1 q1).1) q2 q3 fun _ => ?_
      rcases h3 with q | ⟨⟨oc, hoc, _⟩, q⟩
      · have := (Array.getElem?_eq_some_iff.1 q1).1
        omega
      · rw [hall c (Array.getElem?_eq_some_iff.1 hoc).1] at q
        cases q
    · intro p b m L g1 a' w1 g' w' ch hpo _ I h1 h2 h3
      exact hPn p b m L g1 a' w1 g' w' ch hpo I D h1 h2 h3
    · refine ⟨hsz, rfl, (fun i hi => by cases hi), fun t _ => VR.mono hed _ _ (ht t), ?_, hed, fun _ _ _ _ => rfl⟩
      obtain ⟨c, h1, h2, h3, h4⟩ := search (effAt ops) ops.size ops.size 0 (by omega)
      refine ⟨c, none, _, h2, fun k hk hek => absurd hek (h3 k (Nat.zero_le _) hk), ?_, ?_, (fun i o t e _ hi => by cases hi), rfl, fun _ => 0, (fun i _ _ hi => by cases hi), fun i j _ _ hi => by cases hi⟩
      · rcases h4 with q | q
        · exact .inl q
        · exact .inr ⟨q, rfl⟩
      · have := D.same 0 c (by omega) fun k _ hk hek => h3 k (Nat.zero_le _) (by omega) hek
        rw [Nat.zero_add] at this
        rw [this, hv.head]
        exact hsd
  obtain ⟨po, s1⟩ := y
  cases po with
  | none =>
    unfold drawEnd at he
    simp only at he
    split at he
    · rename_i hc
      simp only [Option.some.injEq] at he
      subst he
      have hv := hr.valid (d := d) (i := 0)
      refine main none s1 tr0 hv hc.1 hc.2.1 (fun _ => hc.2.2) (fun p b m e => by cases e) ?_ (fun p b m L g1 a' w1 g' w' ch e => by cases e)
      intro L g' a' w' _ hall I D h4 hfin
      have F := D.facts
      refine ⟨g', h4, I.ext, TmR.prune _ fun t => ?_, I.size, I.dfr, trivial⟩
      rw [hv.last]
      by_cases hex : ∃ (j : Nat) (o' : Oper), ops[j]? = some o' ∧ o'.dst = some t
      · obtain ⟨j, o', ho', hd'⟩ := hex
        obtain ⟨e', he', _⟩ := D.step j o' ho'
        have hj := (Array.getElem?_eq_some_iff.1 ho').1
        rw [tmAt_new ops.toList tr0 s.tm ops.toList.length j t o' e' (by simpa using hj) (by simpa using ho') he' hd' fun k o'' hk hk' hdk => F.dst k j o'' o' t (by simpa using hk') ho' hk hdk hd']
        exact hfin j o' t e' ho' hd' he'
      · rw [tmAt_old ops.toList tr0 s.tm _ t fun k o'' hk hk' hdk => hex ⟨k, o'', by simpa using hk', hdk⟩]
        exact I.old t fun k o'' hk' hdk => absurd ⟨k, o'', hk', hdk⟩ hex
    · cases he
  | some z =>
    obtain ⟨b, mp⟩ := z
    unfold drawEnd at he
    simp only at he
    obtain ⟨⟨tr2, s'⟩, h1, h2⟩ := Option.bind_eq_some_iff.1 he
    simp only at h2
    split at h2
    · rename_i hc
      simp only [Option.some.injEq] at h2
      subst h2
      have hpos := hr.pan_pos
      have hv := hr.valid_pan (d := d) (i := 0) (p := tr0.length - 1) (tr2 := tr2) (s' := s') (by omega) (by rw [Nat.zero_add]; exact h1)
      have hvl := hv.length
      refine main _ s' _ hv hc.1 hc.2 (fun e => by cases e) (fun p b m e => by simp only [Option.some.injEq, Prod.mk.injEq] at e; simp at hvl; omega) (fun L g' a' w' e => by cases e) ?_
      intro p b' m' L g1 a' w1 g' w' ch hpo I D h3 h4 h5
      simp only [Option.some.injEq, Prod.mk.injEq] at hpo
      obtain ⟨rfl, rfl, rfl⟩ := hpo
      refine ⟨g', h3, I.ext.trans h4, fun t => ?_, I.size, I.dfr, h5⟩
      have hmask : ∀ (l : List Oper) (tm : List (Nat × A)), (∃ o ∈ l, o.dst = some t) → lk t ((l.filterMap fun o => o.dst.map fun t => (t, A.undef)) ++ tm) = .undef := by
        intro l tm
        induction l with
        | nil => rintro ⟨o, ho, _⟩; cases ho
        | cons o r ih =>
          intro hex
          cases hd : o.dst with
          | none =>
            simp only [List.filterMap_cons, hd, Option.map_none]
            refine ih ?_
            obtain ⟨o', ho', hd'⟩ := hex
            rcases List.mem_cons.1 ho' with rfl | h
            · rw [hd] at hd'; cases hd'
            · exact ⟨o', h, hd'⟩
          | some u =>
            simp only [List.filterMap_cons, hd, Option.map_some, List.cons_append, lk]
            split
            · rfl
            · rename_i hut
              refine ih ?_
              obtain ⟨o', ho', hd'⟩ := hex
              rcases List.mem_cons.1 ho' with rfl | h
              · rw [hd] at hd'; exact absurd (Option.some.inj hd') hut
              · exact ⟨o', h, hd'⟩
      have hmask2 : ∀ (l : List Oper) (tm : List (Nat × A)), (∀ o ∈ l, o.dst ≠ some t) → lk t ((l.filterMap fun o => o.dst.map fun t => (t, A.undef)) ++ tm) = lk t tm := by
        intro l tm
        induction l with
        | nil => intro _; rfl
        | cons o r ih =>
          intro hne
          cases hd : o.dst with
          | none =>
            simp only [List.filterMap_cons, hd, Option.map_none]
            exact ih fun o' ho' => hne o' (by simp [ho'])
          | some u =>
            have hut : ¬ u = t := fun e => hne o (by simp) (by rw [hd, e])
            simp only [List.filterMap_cons, hd, Option.map_some, List.cons_append, lk, if_neg hut]
            exact ih fun o' ho' => hne o' (by simp [ho'])
      by_cases hex : ∃ o ∈ ops.toList, o.dst = some t
      · show VR _ _ (lk t (maskTm ops.toList s1.tm)) _
        rw [maskTm, hmask _ _ hex, VR]
        trivial
      · have hno : ∀ o ∈ ops.toList, o.dst ≠ some t := fun o ho e => hex ⟨o, ho, e⟩
        show VR _ _ (lk t (maskTm ops.toList s1.tm)) _
        rw [maskTm, hmask2 _ _ hno, hr.slots hno]
        refine VR.mono h4 _ _ (I.old t fun k o'' hk' hdk => absurd hdk (hno o'' ?_))
        have := (Array.getElem?_eq_some_iff.1 hk')
        rw [← this.2]
        exact Array.getElem_mem_toList this.1
    · cases h2
end
end AE
end Go.Proofs.YthoomlenmgdebaaGreatDoor
/- THE EVALUATOR IS SOUND: functions that defer a call that recovers. -/
set_option linter.unusedVariables false
set_option linter.unusedSimpArgs false
set_option linter.unusedSectionVars false
set_option maxHeartbeats 1600000
namespace Go.Proofs.YthoomlenmgdebaaGreatDoor
namespace AE
open Go Go.RowKit
section
variable {C : Cfg}
theorem argsTm_lk : ∀ (l : List A) (us : List Value) (w : World) (g : Gh) (n t : Nat) (rest : Array Value) (pre : List Value), pre.length = n → VRs w g l us → VR w g (lk t (argsTm n l)) ((pre.toArray ++ us.toArray ++ rest).getD t undef)
  | [], us, w, g, n, t, rest, pre, _, h => by rw [argsTm, lk, VR]; trivial
  | a :: r, us, w, g, n, t, rest, pre, hp, h => by
    rw [VRs.cons_iff] at h
    obtain ⟨u, us', rfl, h1, h2⟩ := h
    rw [argsTm, lk]
    split
    · rename_i ht
      subst ht
      have : (pre.toArray ++ (u :: us').toArray ++ rest).getD n undef = u := by
        rw [Array.getD_eq_getD_getElem?]
        have : (pre.toArray ++ (u :: us').toArray ++ rest)[n]? = some u := by
          rw [← Array.getElem?_toList]
          simp [List.getElem?_append_right, hp]
        rw [this]
        rfl
      rw [this]
      exact h1
    · have := argsTm_lk r us' w g (n + 1) t rest (pre ++ [u]) (by simp [hp]) h2
      have e : ((pre ++ [u]).toArray ++ us'.toArray ++ rest) = (pre.toArray ++ (u :: us').toArray ++ rest) := by
        apply Array.ext'
        simp
      rwa [e] at this
theorem deferAt_some {a : Code} {t : Nat} {g : FuncId} {caps : List Operand} (h : deferAt a = some (t, g, caps)) :
    ∃ id ops cs ty1 ty2 p1 p2 e1 e2 tys, a = .region id ops false ∧ cs.toList = caps ∧
      ops.toList = [⟨some t, .makeFunc (.func g) #[] cs, ty1, p1, e1, none⟩, ⟨none, .defer { callee := .value (.tmp t), args := #[], argTypes := tys }, ty2, p2, e2, none⟩] := by
  unfold deferAt at h
  split at h
  · rename_i id ops
    split at h
    · rename_i heq
      split at h
      · rename_i hc
        simp only [Option.some.injEq, Prod.mk.injEq] at h
        obtain ⟨rfl, rfl, rfl⟩ := h
        obtain ⟨rfl, h1, h2⟩ := hc
        rw [Array.eq_empty_of_size_eq_zero h1, Array.eq_empty_of_size_eq_zero h2] at heq
        exact ⟨_, _, _, _, _, _, _, _, _, _, rfl, rfl, heq⟩
      · cases h
    · cases h
  · cases h
theorem recBody_some {P : Program} {g : FuncId} {nt d : Nat} {rest : Code} {t : Nat} (h : recBody P g = some (nt, t, d, rest)) :
    ∃ fn id ops ty1 ty2 p1 p2 e1 e2, P.funcs[g]? = some fn ∧ fn.name ≠ "runtime.NumGoroutine" ∧ fn.results = #[] ∧ fn.ntmps = nt ∧ fn.body = some (.seq (.region id ops false) rest) ∧ t < nt ∧ d < nt ∧
      ops.toList = [⟨some t, .call { callee := .builtin .recover, args := #[], argTypes := #[] }, ty1, p1, e1, none⟩, ⟨some d, .assign (.tmp t), ty2, p2, e2, none⟩] := by
  unfold recBody at h
  split at h
  · cases h
  · rename_i fn hfn
    split at h
    · cases h
    · rename_i hn
      simp only [not_or, ne_eq, Decidable.not_not] at hn
      split at h
      · rename_i id ops rest' hb
        split at h
        · rename_i heq
          split at h
          · rename_i hc
            simp only [Option.some.injEq, Prod.mk.injEq] at h
            obtain ⟨rfl, rfl, rfl, rfl⟩ := h
            obtain ⟨rfl, h1, h2, h3, h4⟩ := hc
            rw [Array.eq_empty_of_size_eq_zero h3, Array.eq_empty_of_size_eq_zero h4] at heq
            exact ⟨fn, _, _, _, _, _, _, _, _, hfn, hn.1, Array.eq_empty_of_size_eq_zero hn.2, rfl, hb, h1, h2, heq⟩
          · cases h
        · cases h
      · cases h
theorem ops_at {ops : Array Oper} {x y : Oper} (h : ops.toList = [x, y]) : ops[0]? = some x ∧ ops[1]? = some y ∧ ops.size = 2 := by
  have h0 : ops = #[x, y] := by apply Array.ext'; rw [h]
  subst h0
  exact ⟨rfl, rfl, rfl⟩
theorem stepS_value {P : Program} {ops : Array Oper} {Q : Exit → Act → List Frame → World → Prop} {i : Nat} {rest : List Nat} {a : Act} {cs : List Frame} {w : World} {o : Oper} {v : Value} (ho : ops[i]? = some o) (hw : o.guard = none) (hr : (execOp a.eval o).run P w = .ok (.value v) w) (h : wpOpsS P ops Q rest (a.put o.dst v) cs w) : wpOpsS P ops Q (i :: rest) a cs w := by
  have hw' : Region.wanted o (yielded ops a.tmps) = true := by unfold Region.wanted; rw [hw]
  simp only [wpOpsS, ho, hw', if_true, hr]
  exact h
theorem stepS_recover {P : Program} {ops : Array Oper} {Q : Exit → Act → List Frame → World → Prop} {i : Nat} {rest : List Nat} {a : Act} {cs : List Frame} {w : World} {o : Oper} {v : Value} {cs1 : List Frame} (ho : ops[i]? = some o) (hw : o.guard = none) (hr : (execOp a.eval o).run P w = .ok .recover w)
    (hc : (recoverD cs = none ∧ v = .nilIface ∧ cs1 = cs) ∨ recoverD cs = some (v, cs1)) (h : wpOpsS P ops Q rest (a.put o.dst v) cs1 w) : wpOpsS P ops Q (i :: rest) a cs w := by
  have hw' : Region.wanted o (yielded ops a.tmps) = true := by unfold Region.wanted; rw [hw]
  simp only [wpOpsS, ho, hw', if_true, hr]
  rcases hc with ⟨h1, rfl, rfl⟩ | h1
  · rw [h1]; exact h
  · rw [h1]; exact h
theorem rec_sound (hC : CfgOk C) {evR : FuncId → Nat → Code → St → Option (Ex × St)} {evK : FuncId → Nat → Code → St → Option (Ex × St)}
    (hrk : ∀ f nt c s x, evR f nt c s = some x → RecOk C f nt c s x) (hk : ∀ f nt c s x, evK f nt c s = some x → CodeOk C f nt c s x)
    (f : FuncId) (nt : Nat) (c : Code) (s : St) (x : Ex × St)
    (h : (match c with
      | .seq a b =>
        match deferAt a with
        | some d =>
          if d.1 < nt then (do
            let x ← evK f nt b ⟨put (some d.1) (.fn d.2.1 (d.2.2.map (opd C.gl s.tm))) s.tm, s.m⟩
            match endVal x.1, recBody C.P d.2.1 with
              | some v, some r =>
                if d.2.2.length ≤ r.1 then (do
                  let y ← evK d.2.1 r.1 r.2.2.2 ⟨put (some r.2.2.1) v (put (some r.2.1) v (argsTm 0 (d.2.2.map (opd C.gl s.tm)))), x.2.m⟩
                  match y.1 with
                    | .normal => some (.ret, ⟨x.2.tm, y.2.m⟩)
                    | .ret => some (.ret, ⟨x.2.tm, y.2.m⟩)
                    | _ => none)
                else none
              | _, _ => none)
          else none
        | none => (do
          let x ← evK f nt a s
          match x.1 with
            | .normal => evR f nt b x.2
            | e => some (e, x.2))
      | c => evK f nt c s) = some x) : RecOk C f nt c s x := by
  intro hpart fn R w0 g w a hsz hdf hs ht hfin
  have plain : ∀ c', PartOf C f c' → evK f nt c' s = some x → c'.wp C.P (bodyPostD C.P fn R) a w := by
    intro c' hp h
    refine wp_mono (hk _ _ _ _ _ h hp w0 g w a hsz hs ht).1 fun ex a' w' hp => ?_
    obtain ⟨g', p1, p2, p3, p4, p5, p6⟩ := hp
    have := hfin ex g' w' a'.tmps p1 p2 p3 p6
    obtain ⟨tmps, df⟩ := a'
    rw [hdf] at p5
    simp only at p5
    subst p5
    exact this
  split at h
  case h_2 => exact plain _ hpart h
  case h_1 c1 c2 =>
  cases hd : deferAt c1 with
  | none =>
    simp only [hd] at h
    refine wp_seq ?_
    obtain ⟨⟨e, s'⟩, h1, h2⟩ := Option.bind_eq_some_iff.1 h
    refine wp_mono (hk _ _ _ _ _ h1 (hpart.sub (by simp [Sub, Sub.refl])) w0 g w a hsz hs ht).1 fun ex a' w' hp => ?_
    obtain ⟨g', p1, p2, p3, p4, p5, p6⟩ := hp
    by_cases hne : e = .normal
    · subst hne
      simp only at h2
      cases ex <;> first | exact p6.elim | skip
      exact hrk _ _ _ _ _ h2 (hpart.sub (by simp [Sub, Sub.refl])) fn R w0 g' w' a' p4 (by rw [p5, hdf]) p1 p3 fun e2 g2 w2 tm2 q1 q2 q3 q4 => hfin e2 g2 w2 tm2 q1 (p2.trans q2) q3 q4
    · have : x = (e, s') := by cases e <;> first | exact absurd rfl hne | (simp only [Option.some.injEq] at h2; exact h2.symm)
      subst this
      have := hfin ex g' w' a'.tmps p1 p2 p3 p6
      have hb : bodyPostD C.P fn R ex a' w' := by
        obtain ⟨tmps, df⟩ := a'
        rw [hdf] at p5
        simp only at p5
        subst p5
        exact this
      cases ex with
      | normal => cases e <;> first | exact absurd rfl hne | exact p6.elim
      | _ => exact hb
  | some d =>
    obtain ⟨t, gf, caps⟩ := d
    simp only [hd] at h
    split at h
    case isFalse => cases h
    case isTrue htn =>
    obtain ⟨⟨e, s'⟩, h1, h2⟩ := Option.bind_eq_some_iff.1 h
    simp only at h2
    cases hv : endVal e with
    | none => simp only [hv] at h2; cases h2
    | some rv =>
    cases hrb : recBody C.P gf with
    | none => simp only [hv, hrb] at h2; cases h2
    | some r =>
    obtain ⟨gnt, gt, gd, rest⟩ := r
    simp only [hv, hrb] at h2
    split at h2
    case isFalse => cases h2
    case isTrue hcl =>
    obtain ⟨⟨ey, sy⟩, h3, h4⟩ := Option.bind_eq_some_iff.1 h2
    obtain ⟨id, ops, cs, ty1, ty2, p1, p2, e1, e2, tys, rfl, rfl, hops⟩ := deferAt_some hd
    obtain ⟨hop0, hop1, hops2⟩ := ops_at hops
    obtain ⟨gfn, gid, gops, gty1, gty2, gp1, gp2, ge1, ge2, hgf, hgn, hgr, rfl, hgb, hgt, hgdn, hgops⟩ := recBody_some hrb
    obtain ⟨hg0, hg1, hgsz⟩ := ops_at hgops
    have hopd := ht.opd (C := C) hs.gl
    have hcaps : VRs w g (cs.toList.map (opd C.gl s.tm)) (cs.toList.map a.eval) := VRs_map hopd
    refine wp_seq (wp_region ?_)
    rw [hops2]
    show wpOps C.P ops _ [0, 1] a w
    have hw0 : Region.wanted (⟨some t, .makeFunc (.func gf) #[] cs, ty1, p1, e1, none⟩ : Oper) (yielded ops a.tmps) = true := rfl
    simp only [wpOps, hop0, hw0, if_true]
    refine .inl ?_
    unfold Oper.wp
    have hr0 : (execOp a.eval (⟨some t, .makeFunc (.func gf) #[] cs, ty1, p1, e1, none⟩ : Oper)).run C.P w = .ok (.value (.func (.func gf) #[] (cs.map a.eval))) w := by
      simp only [execOp, Instr.makeFunc, Sem.run_bind, Sem.run_pure, Result.andThen_ok, Array.map_empty]
    rw [hr0, Oper.upon_value]
    simp only [wpOps, hop1]
    have hfnv : VR w g (.fn gf (cs.toList.map (opd C.gl s.tm))) (.func (.func gf) #[] (cs.map a.eval)) := by
      rw [VR]
      exact ⟨cs.toList.map a.eval, by rw [← Array.toList_map, Array.toArray_toList], hcaps⟩
    have htn' : (some t).all (· < a.tmps.size) = true := by simp [hsz, htn]
    have ht1 := ht.put htn' hfnv
    generalize ha1 : a.put (some t) (.func (.func gf) #[] (cs.map a.eval)) = a1 at ht1
    have hsz1 : a1.tmps.size = nt := by rw [← ha1, put_size, hsz]
    have hdf1 : a1.defers = [] := by rw [← ha1, put_defers, hdf]
    have hev1 : a1.eval (.tmp t) = .func (.func gf) #[] (cs.map a.eval) := by
      rw [← ha1]
      simp only [Act.eval, Act.put, Array.getD_eq_getD_getElem?, Array.getElem?_setIfInBounds, if_true, hsz, htn, Option.getD_some]
    refine .inl ?_
    have hr1 : (execOp a1.eval (⟨none, .defer { callee := .value (.tmp t), args := #[], argTypes := tys }, ty2, p2, e2, none⟩ : Oper)).run C.P w = .ok (.defer { target := .fn (.func gf) (cs.map a.eval), args := #[] }) w := by
      simp only [execOp, resolve, hev1, Deferred.ofValue, Sem.run_bind, Sem.run_pure, Result.andThen_ok, Array.map_empty, Array.empty_append]
    show Oper.upon C.P _ a1 _ _ ((execOp a1.eval _).run C.P w)
    rw [hr1, Oper.upon_defer]
    show Exit.then _ _ .normal _ w
    simp only [Exit.then]
    refine wp_mono (hk _ _ _ _ _ h1 (hpart.sub (by simp [Sub, Sub.refl])) w0 g w { a1 with defers := { target := .fn (.func gf) (cs.map a.eval), args := #[] } :: a1.defers } hsz1 hs ht1).1 fun ex a' w' hp => ?_
    obtain ⟨g', p1, p2, p3, p4, p5, p6⟩ := hp
    rw [hdf1] at p5
    have hcaps' := hcaps.mono p2
    have henter : (invoke (.fn (.func gf) (cs.map a.eval)) #[]).run C.P w' = .ok (.enter gf (cs.map a.eval)) w' := by
      have h3' : (gfn.name == "runtime.NumGoroutine") = false := by simpa using hgn
      simp only [invoke, callFunc, Sem.run_bind, run_program, Result.andThen_ok, hgf, h3', Bool.false_eq_true, if_false, hgb, Option.isNone_some, Array.empty_append, Sem.run_pure]
    have hvl : (cs.map a.eval).size ≤ gfn.ntmps := by simpa using hcl
    /- the rest of the function that was deferred -/
    have hrest : ∀ (v : Value) (K : Exit → Act → World → Prop), VR w' g' rv v →
        (∀ g2 w2 (a2 : Act), SR C.P C.gl w0 g2 sy.m w2 → Ext w' g' w2 g2 → a2.defers = [] → x = (.ret, ⟨s'.tm, sy.m⟩) → K .normal a2 w2 ∧ K .ret a2 w2) →
        ∀ b : Act, b.defers = [] → b.tmps = ((cs.map a.eval ++ Array.replicate (gfn.ntmps - (cs.map a.eval).size) undef).setIfInBounds gt v).setIfInBounds gd v →
        rest.wp C.P K b w' := by
      intro v K hvv hK b hbd hbt
      have hbs : b.tmps.size = gfn.ntmps := by rw [hbt]; simp; simp at hvl; omega
      have hargs : TmR w' g' (argsTm 0 (cs.toList.map (opd C.gl s.tm))) (cs.map a.eval ++ Array.replicate (gfn.ntmps - (cs.map a.eval).size) undef) := fun u => by
        have := argsTm_lk _ _ w' g' 0 u (Array.replicate (gfn.ntmps - (cs.map a.eval).size) undef) [] rfl hcaps'
        rw [show ([] : List Value).toArray ++ (cs.toList.map a.eval).toArray = cs.map a.eval from by apply Array.ext'; simp] at this
        exact this
      have hall : TmR w' g' (put (some gd) rv (put (some gt) rv (argsTm 0 (cs.toList.map (opd C.gl s.tm))))) b.tmps := by
        have hz : (cs.map a.eval ++ Array.replicate (gfn.ntmps - (cs.map a.eval).size) undef).size = gfn.ntmps := by simp; simp at hvl; omega
        have h1 := TmR.put (a := { tmps := cs.map a.eval ++ Array.replicate (gfn.ntmps - (cs.map a.eval).size) undef, defers := [] }) (d := some gt) hargs (by simp only [Option.all_some, decide_eq_true_eq, hz]; exact hgt) hvv
        have h2 := TmR.put (d := some gd) h1 (by simp only [Option.all_some, decide_eq_true_eq, put_size, hz]; exact hgdn) hvv
        rw [hbt]
        exact h2
      refine wp_mono (hk _ _ _ _ _ h3 ⟨gfn, _, hgf, hgb, by simp [Sub, Sub.refl]⟩ w0 g' w' b hbs p1 hall).1 fun ex2 a2 w2 hp2 => ?_
      obtain ⟨g2, q1, q2, q3, q4, q5, q6⟩ := hp2
      cases ey with
      | exit i => cases h4
      | pan b => cases h4
      | normal =>
        simp only [Option.some.injEq] at h4
        cases ex2 <;> first | exact q6.elim | skip
        exact (hK g2 w2 a2 q1 q2 (by rw [q5, hbd]) h4.symm).1
      | ret =>
        simp only [Option.some.injEq] at h4
        cases ex2 <;> first | exact q6.elim | skip
        exact (hK g2 w2 a2 q1 q2 (by rw [q5, hbd]) h4.symm).2
    have hcall : ∀ (u u2 : FrameMode) (v : Value), u ≠ .run → VR w' g' rv v → settle u2 = .returning →
        (∀ (c0 : Frame) (cs0 : List Frame), c0.mode = u → (recoverD (c0 :: cs0) = none ∧ v = .nilIface ∧ u2 = u) ∨ recoverD (c0 :: cs0) = some (v, { c0 with mode := u2 } :: cs0)) →
        Leaves C.P fn a'.tmps R [{ target := .fn (.func gf) (cs.map a.eval), args := #[] }] u w' := by
      intro u u2 v hu hvv hset hrec
      refine leaves_cons hu henter (callsD_of_wpS hgf hgb fun c0 cs0 hc0 => wpS_seq (wpS_region ?_))
      rw [hgsz]
      show wpOpsS C.P gops _ [0, 1] _ _ w'
      refine stepS_recover (v := v) (cs1 := { c0 with mode := u2 } :: cs0) hg0 rfl rfl ?_ ?_
      · rcases hrec c0 cs0 hc0 with ⟨h1, h2, h3⟩ | h1
        · exact .inl ⟨h1, h2, by rw [h3, ← hc0]⟩
        · exact .inr h1
      have hz : (cs.map a.eval ++ Array.replicate (gfn.ntmps - (cs.map a.eval).size) undef).size = gfn.ntmps := by simp; simp at hvl; omega
      have hev : (Act.put { tmps := cs.map a.eval ++ Array.replicate (gfn.ntmps - (cs.map a.eval).size) undef, defers := [] } (some gt) v).eval (.tmp gt) = v := by
        simp only [Act.eval, Act.put, Array.getD_eq_getD_getElem?, Array.getElem?_setIfInBounds, if_true, hz, hgt, Option.getD_some]
      refine stepS_value (v := v) hg1 rfl ?_ ?_
      · show Result.ok (Next.value (Act.eval _ (.tmp gt))) w' = _
        rw [hev]
      show rest.wpS C.P _ _ _ w'
      refine wpS_of_wp (hrest v _ hvv ?_ _ rfl rfl)
      intro g2 w2 a2 q1 q2 q3 hx
      subst hx
      have hl : Leaves C.P fn a'.tmps R [] (settle u2) w2 := by
        rw [hset]
        exact hfin .ret g2 w2 a'.tmps q1 (p2.trans q2) (p3.mono q2) trivial
      have hres : (results gfn a2.tmps).run C.P w2 = .ok (.tuple #[]) w2 := by
        unfold results
        rw [hgr, Sem.run_bind, Array.mapM_eq_mapM_toList, Sem.run_map]
        rfl
      exact ⟨⟨q3, u2, rfl, _, hres, hl⟩, ⟨q3, u2, rfl, _, hres, hl⟩⟩
    have hret : endVal e = some .nili → Leaves C.P fn a'.tmps R a'.defers .returning w' := by
      intro he
      rw [he] at hv
      simp only [Option.some.injEq] at hv
      subst hv
      rw [p5]
      refine hcall .returning .returning .nilIface (by simp) (by rw [VR]) rfl fun c0 cs0 hc0 => .inl ⟨?_, rfl, rfl⟩
      simp only [recoverD, hc0]
    cases e with
    | exit i => cases hv
    | normal =>
      cases ex <;> first | exact p6.elim | skip
      exact hret rfl
    | ret =>
      cases ex <;> first | exact p6.elim | skip
      exact hret rfl
    | pan b =>
      cases ex <;> first | exact p6.elim | skip
      rename_i chain
      obtain ⟨v, rfl, hvb⟩ := p6
      simp only [endVal, Option.some.injEq] at hv
      subst hv
      show Leaves C.P fn a'.tmps R a'.defers (.panicking [{ v, recovered := false }]) w'
      rw [p5]
      refine hcall _ (.panicking [{ v, recovered := true }]) v (by simp) hvb rfl fun c0 cs0 hc0 => .inr ?_
      simp only [recoverD, hc0]
end
end AE
end Go.Proofs.YthoomlenmgdebaaGreatDoor
/- THE EVALUATOR IS SOUND: codes, calls. -/
set_option linter.unusedVariables false
set_option linter.unusedSimpArgs false
set_option linter.unusedSectionVars false
set_option maxHeartbeats 1600000
namespace Go.Proofs.YthoomlenmgdebaaGreatDoor
namespace AE
open Go Go.RowKit
section
variable {C : Cfg}
theorem Post.exit_ne {w0 w : World} {g : Gh} {nt : Nat} {df : List Deferred} {e : Ex} {s : St} {ex : Exit} {a : Act} {W : World} (hne : e ≠ .normal) (h : Post C w0 w g nt df (e, s) ex a W) (N : Act → World → Prop) (Q : Exit → Act → World → Prop) (hQ : Q ex a W) : Exit.then N Q ex a W := by
  obtain ⟨g', h1, h2, h3, h4, h5, h6⟩ := h
  cases ex with
  | normal =>
    cases e <;> first | exact absurd rfl hne | exact h6.elim
  | exit i => exact hQ
  | goto l => exact hQ
  | ret => exact hQ
  | panic ch => exact hQ
  | outgrown => exact hQ
theorem code_sound (hC : CfgOk C) {evK : FuncId → Nat → Code → St → Option (Ex × St)} {evO : FuncId → Nat → List Oper → List Oper → St → Option (Ex × St)}
    (hk : ∀ f nt c s x, evK f nt c s = some x → CodeOk C f nt c s x) (hoo : ∀ f nt all l s x, evO f nt all l s = some x → OpsOk C f nt all l s x)
    {evD : FuncId → Nat → List Oper → List Oper → St → Option (List Ent × Option (A × Mem) × St)} (hdd : ∀ f nt all l s x, evD f nt all l s = some x → DrawR C nt all l s x.1 x.2)
    (f nt : Nat) (c : Code) (s : St) (x : Ex × St)
    (h : (match c with
      | .skip => some (Ex.normal, s)
      | .region id ops draw =>
        if draw then (do
          let y ← evD f nt ops.toList ops.toList s
          drawEnd C.P C.gl nt (C.ann.dok f id) (C.ann.draw f id) ops.toList y.1 (C.ann.reg f id) y.2)
        else (do
        let x ← evO f nt ops.toList ops.toList s
        match x.1 with
          | .normal => some (Ex.normal, ⟨prune (C.ann.reg f id) x.2.tm, x.2.m⟩)
          | e => some (e, x.2))
      | .seq a b => (do
        let x ← evK f nt a s
        match x.1 with
          | .normal => evK f nt b x.2
          | e => some (e, x.2))
      | .cond c a b =>
        match opd C.gl s.tm c with
        | .bool t => if t then evK f nt a s else evK f nt b s
        | _ => none
      | .block id b => (do
        let x ← evK f nt b s
        match x.1 with
          | .exit i => if i = id then some (.normal, x.2) else some (.exit i, x.2)
          | e => some (e, x.2))
      | .loop b => (do
        let x ← evK f nt b ⟨prune (C.ann.loop f (headId b)) s.tm, s.m⟩
        match x.1 with
          | .normal => (do
            let s1 ← endRound (C.ann.loop f (headId b)) s.m x.2
            evK f nt (.loop b) s1)
          | e => some (e, x.2))
      | .exit id => some (.exit id, s)
      | .ret => some (.ret, s)
      | _ => none) = some x) : CodeOk C f nt c s x := by
  intro hpart w0 g w a hsz hs ht
  have done : ∀ e : Ex, ∀ ex : Exit, ExR w g e ex → Post C w0 w g nt a.defers (e, s) ex a w := fun e ex he => ⟨g, hs, Ext.refl _ _, ht, hsz, rfl, he⟩
  cases c <;> simp only [reduceCtorEq] at h
  case skip =>
    simp only [Option.some.injEq] at h
    subst h
    exact ⟨wp_skip (done _ _ trivial), fun b e => by cases e⟩
  case exit id =>
    simp only [Option.some.injEq] at h
    subst h
    exact ⟨wp_exit (done _ _ rfl), fun b e => by cases e⟩
  case ret =>
    simp only [Option.some.injEq] at h
    subst h
    exact ⟨wp_ret (done _ _ trivial), fun b e => by cases e⟩
  case region id ops draw =>
    refine ⟨?_, fun b e => by cases e⟩
    cases draw with
    | true =>
      simp only [if_true] at h
      obtain ⟨y, h1, h2⟩ := Option.bind_eq_some_iff.1 h
      exact draw_sound hC.mixed (hC.dok f id ops hpart) (hdd _ _ _ _ _ _ h1) h2 hsz hs ht
    | false =>
      simp only [Bool.false_eq_true, if_false] at h
      obtain ⟨⟨e, s'⟩, h1, h2⟩ := Option.bind_eq_some_iff.1 h
      refine wp_region ?_
      have := hoo _ _ _ _ _ _ h1 w0 g w a ops 0 (Post C w0 w g nt a.defers x) rfl rfl hsz hs ht ?_
      · rw [show List.range ops.size = List.range' 0 ops.toList.length from by rw [List.range_eq_range', Array.length_toList]]
        exact this
      · rintro ex a' w' ⟨g', p1, p2, p3, p4, p5, p6⟩
        cases e with
        | normal =>
          simp only [Option.some.injEq] at h2
          subst h2
          exact ⟨g', p1, p2, p3.prune _, p4, p5, p6⟩
        | exit i => simp only [Option.some.injEq] at h2; subst h2; exact ⟨g', p1, p2, p3, p4, p5, p6⟩
        | ret => simp only [Option.some.injEq] at h2; subst h2; exact ⟨g', p1, p2, p3, p4, p5, p6⟩
        | pan b => simp only [Option.some.injEq] at h2; subst h2; exact ⟨g', p1, p2, p3, p4, p5, p6⟩
  case seq c1 c2 =>
    refine ⟨wp_seq ?_, fun b e => by cases e⟩
    obtain ⟨⟨e, s'⟩, h1, h2⟩ := Option.bind_eq_some_iff.1 h
    refine wp_mono (hk _ _ _ _ _ h1 (hpart.sub (by simp [Sub, Sub.refl])) w0 g w a hsz hs ht).1 fun ex a' w' hp => ?_
    by_cases hne : e = .normal
    · subst hne
      simp only at h2
      obtain ⟨g', p1, p2, p3, p4, p5, p6⟩ := hp
      cases ex <;> first | exact p6.elim | skip
      refine wp_mono (hk _ _ _ _ _ h2 (hpart.sub (by simp [Sub, Sub.refl])) w0 g' w' a' p4 p1 p3).1 fun ex a'' w'' hp => ?_
      rw [p5] at hp
      exact Post.ext p2 hp
    · have : x = (e, s') := by cases e <;> first | exact absurd rfl hne | (simp only [Option.some.injEq] at h2; exact h2.symm)
      subst this
      exact Post.exit_ne hne hp _ _ hp
  case cond c c1 c2 =>
    refine ⟨?_, fun b e => by cases e⟩
    have hopd := ht.opd (C := C) hs.gl c
    cases hc : opd C.gl s.tm c <;> simp only [hc, reduceCtorEq] at h
    rename_i t
    rw [hc, VR] at hopd
    cases t with
    | true => exact wp_cond hopd (hk _ _ _ _ _ (by simpa using h) (hpart.sub (by simp [Sub, Sub.refl])) w0 g w a hsz hs ht).1
    | false => exact wp_cond hopd (hk _ _ _ _ _ (by simpa using h) (hpart.sub (by simp [Sub, Sub.refl])) w0 g w a hsz hs ht).1
  case block id b =>
    refine ⟨wp_block ?_, fun b e => by cases e⟩
    obtain ⟨⟨e, s'⟩, h1, h2⟩ := Option.bind_eq_some_iff.1 h
    refine wp_mono (hk _ _ _ _ _ h1 (hpart.sub (by simp [Sub, Sub.refl])) w0 g w a hsz hs ht).1 fun ex a' w' hp => ?_
    obtain ⟨g', p1, p2, p3, p4, p5, p6⟩ := hp
    cases e with
    | normal =>
      simp only [Option.some.injEq] at h2
      subst h2
      cases ex <;> first | exact p6.elim | skip
      exact ⟨g', p1, p2, p3, p4, p5, trivial⟩
    | ret =>
      simp only [Option.some.injEq] at h2
      subst h2
      cases ex <;> first | exact p6.elim | skip
      exact ⟨g', p1, p2, p3, p4, p5, trivial⟩
    | pan b =>
      simp only [Option.some.injEq] at h2
      subst h2
      cases ex <;> first | exact p6.elim | skip
      exact ⟨g', p1, p2, p3, p4, p5, p6⟩
    | exit i =>
      cases ex <;> first | exact p6.elim | skip
      rename_i j
      have hij : i = j := p6
      subst hij
      simp only at h2
      by_cases hi : i = id
      · rw [if_pos hi] at h2
        simp only [Option.some.injEq] at h2
        subst h2
        simp only [Exit.inBlock]
        rw [if_pos hi]
        exact ⟨g', p1, p2, p3, p4, p5, trivial⟩
      · rw [if_neg hi] at h2
        simp only [Option.some.injEq] at h2
        subst h2
        simp only [Exit.inBlock]
        rw [if_neg hi]
        exact ⟨g', p1, p2, p3, p4, p5, rfl⟩
  case loop b =>
    have key : b.wp C.P (Exit.then (LoopArr C.P b (Post C w0 w g nt a.defers x)) (Post C w0 w g nt a.defers x)) a w := by
      obtain ⟨⟨e, s'⟩, h1, h2⟩ := Option.bind_eq_some_iff.1 h
      refine wp_mono (hk _ _ _ _ _ h1 (hpart.sub (by simp [Sub, Sub.refl])) w0 g w a hsz hs (ht.prune _)).1 fun ex a' w' hp => ?_
      by_cases hne : e = .normal
      · subst hne
        obtain ⟨s1, h3, h4⟩ := Option.bind_eq_some_iff.1 h2
        obtain ⟨g', p1, p2, p3, p4, p5, p6⟩ := hp
        cases ex <;> first | exact p6.elim | skip
        obtain ⟨g'', q1, q2, q3⟩ := endRound_sound hC h3 hs p1 p2 p3
        refine ((hk _ _ _ _ _ h4 hpart w0 g'' w' a' p4 q1 q3).2 b rfl).mono fun ex a'' w'' hp => ?_
        rw [p5] at hp
        exact Post.ext q2 hp
      · have : x = (e, s') := by cases e <;> first | exact absurd rfl hne | (simp only [Option.some.injEq] at h2; exact h2.symm)
        subst this
        exact Post.exit_ne hne hp _ _ hp
    exact ⟨loop_wp key, fun b' e => by cases e; exact loop_arr key⟩
theorem results_sound {fn : Func} {tm : List (Nat × A)} {m : Mem} {b : A} {w0 w : World} {g : Gh} {tmps : Array Value} (hs : SR C.P C.gl w0 g m w) (h : resultsA C.P fn.results.toList tm m = some b) (ht : TmR w g tm tmps) : ∃ v, (results fn tmps).run C.P w = .ok v w ∧ VR w g b v := by
  have one : ∀ (r : ResultVar) (b : A), resA C.P tm m r = some b → ∃ u, (match r with | .tmp t => pure (tmps.getD t undef) | .cell a t => do loadVar t (← asAddr (tmps.getD a undef)) : Sem Value).run C.P w = .ok u w ∧ VR w g b u := by
    intro r b h
    cases r with
    | tmp t =>
      simp only [resA, Option.some.injEq] at h
      subst h
      exact ⟨_, rfl, ht t⟩
    | cell a t =>
      simp only [resA] at h
      obtain ⟨u, hu, hv⟩ := loadA_sound hs h (ht a)
      refine ⟨u, ?_, hv⟩
      rw [← hu]
      unfold Instr.loadAt
      rw [Sem.run_bind, Sem.run_bind] at *
      cases hp : tmps.getD a undef with
      | pointer p =>
        cases p with
        | some p => rfl
        | none => rw [hp] at hu; cases hu
      | _ => rw [hp] at hu; cases hu
  have hm : ∀ (l : List ResultVar) (vs : List A), resL C.P tm m l = some vs →
      ∃ us, (l.mapM (m := Sem) fun | .tmp t => pure (tmps.getD t undef) | .cell a t => do loadVar t (← asAddr (tmps.getD a undef))).run C.P w = .ok us w ∧ VRs w g vs us ∧ vs.length = l.length := by
    intro l
    induction l with
    | nil =>
      intro vs h
      simp only [resL, Option.some.injEq] at h
      cases h
      exact ⟨[], rfl, VRs.mk_nil, rfl⟩
    | cons r l ih =>
      intro vs h
      simp only [resL] at h
      obtain ⟨a, h1, h2⟩ := Option.bind_eq_some_iff.1 h
      obtain ⟨as_, h3, rfl⟩ := Option.map_eq_some_iff.1 h2
      obtain ⟨u, hu1, hu2⟩ := one r a h1
      obtain ⟨us, hu, hv, hl⟩ := ih as_ h3
      refine ⟨u :: us, ?_, .mk_cons hu2 hv, by simp [hl]⟩
      rw [List.mapM_cons, Sem.run_bind]
      erw [hu1]
      rw [Result.andThen_ok, Sem.run_bind]
      erw [hu]
      rfl
  have hrun : ∀ us : List Value, (fn.results.toList.mapM (m := Sem) fun | .tmp t => pure (tmps.getD t undef) | .cell a t => do loadVar t (← asAddr (tmps.getD a undef))).run C.P w = .ok us w →
      (results fn tmps).run C.P w = .ok (if h : us.toArray.size = 1 then us.toArray[0] else .tuple us.toArray) w := by
    intro us hu
    unfold results
    rw [Sem.run_bind, Array.mapM_eq_mapM_toList, Sem.run_map]
    erw [hu]
    rfl
  unfold resultsA at h
  split at h
  · rename_i r heq
    obtain ⟨us, hu, hv, hl⟩ := hm [r] [b] (by simp [resL, h])
    match us, hv.length with
    | [u], _ =>
      refine ⟨u, ?_, ?_⟩
      · have := hrun [u] (by rw [heq]; exact hu)
        simpa using this
      · rw [VRs.cons_iff] at hv
        obtain ⟨u', us', he, h1, _⟩ := hv
        simp only [List.cons.injEq] at he
        rw [he.1]
        exact h1
  · rename_i rs hn1
    obtain ⟨vs, hvs, rfl⟩ := Option.map_eq_some_iff.1 h
    obtain ⟨us, hu, hv, hl⟩ := hm _ _ hvs
    have := hrun us hu
    have hlen : ¬ us.toArray.size = 1 := by
      intro hl1
      have h1 : fn.results.toList.length = 1 := by have := hv.length; simp at hl1; omega
      match hr : fn.results.toList, h1 with
      | [r], _ => exact hn1 r hr
    rw [dif_neg hlen] at this
    exact ⟨_, this, by rw [VR]; exact ⟨us, rfl, hv⟩⟩
theorem leaves_sound (hC : CfgOk C) {m0 m : Mem} {r : Res} {x : Res × Mem} {w0 w w' : World} {g g' : Gh} {e : Ending} (h : (∃ k, leave C.P k m0 r m = some x) ∨ x = (r, m)) (hs0 : SR C.P C.gl w0 g m0 w) (hs : SR C.P C.gl w0 g' m w') (he : Ext w g w' g') (hr : ResR w' g' r e) :
    ∃ g'', SR C.P C.gl w0 g'' x.2 w' ∧ Ext w g w' g'' ∧ ResR w' g'' x.1 e := by
  rcases h with ⟨k, h⟩ | rfl
  · exact leave_sound hC h hs0 hs he hr
  · exact ⟨g', hs, he, hr⟩
theorem call_sound (hC : CfgOk C) {evK : FuncId → Nat → Code → St → Option (Ex × St)} {evR : FuncId → Nat → Code → St → Option (Ex × St)}
    (hrk : ∀ f nt c s x, evR f nt c s = some x → RecOk C f nt c s x) (hk : ∀ f nt c s x, evK f nt c s = some x → CodeOk C f nt c s x)
    {lv : FuncId → Mem → Res → Mem → Option (Res × Mem)} (hlv : ∀ f m0 r m x, lv f m0 r m = some x → (∃ k, leave C.P k m0 r m = some x) ∨ x = (r, m))
    (f : FuncId) (args : List A) (m : Mem) (r : Res × Mem)
    (h : (match C.ext f with
      | some g => g args m
      | none =>
        match C.P.funcs[f]? with
        | none => none
        | some fn =>
          match fn.body with
          | none => none
          | some c =>
            if fn.name = "runtime.NumGoroutine" ∨ fn.ntmps < args.length then none else ((if C.ann.recov f = true then evR f fn.ntmps c ⟨argsTm 0 args, m⟩ else evK f fn.ntmps c ⟨argsTm 0 args, m⟩) >>= fun x =>
            match x.1 with
              | .normal => (do
                let a ← resultsA C.P fn.results.toList x.2.tm x.2.m
                lv f m (.ret a) x.2.m)
              | .ret => (do
                let a ← resultsA C.P fn.results.toList x.2.tm x.2.m
                lv f m (.ret a) x.2.m)
              | .pan a => lv f m (.pan a) x.2.m
              | .exit _ => none)) = some r) : CallOk C f args m r := by
  cases hx : C.ext f with
  | some gx =>
    simp only [hx] at h
    exact hC.ext f gx hx args m r h
  | none =>
  simp only [hx] at h
  cases hf : C.P.funcs[f]? with
  | none => simp [hf] at h
  | some fn =>
  simp only [hf] at h
  cases hb : fn.body with
  | none => simp [hb] at h
  | some c =>
  simp only [hb] at h
  split at h
  · cases h
  · rename_i hne
    simp only [not_or, Nat.not_lt] at hne
    obtain ⟨hn, hlen⟩ := hne
    refine ⟨⟨fn, c, hf, hb, hn⟩, fun w0 g w vals hs hv => ?_⟩
    obtain ⟨⟨e, s'⟩, h1, h2⟩ := Option.bind_eq_some_iff.1 h
    have hvl := hv.length
    have htm : TmR w g (argsTm 0 args) (vals.toArray ++ Array.replicate (fn.ntmps - vals.toArray.size) undef) := fun t => by
      have := argsTm_lk args vals w g 0 t (Array.replicate (fn.ntmps - vals.toArray.size) undef) [] rfl hv
      simpa using this
    have hsz : (vals.toArray ++ Array.replicate (fn.ntmps - vals.toArray.size) undef).size = fn.ntmps := by
      simp
      omega
    have hend : ∀ ex g' w' tmps, SR C.P C.gl w0 g' s'.m w' → Ext w g w' g' → TmR w' g' s'.tm tmps → ExR w' g' e ex →
        (match ex with
        | .normal | .ret => ∃ v, (results fn tmps).run C.P w' = .ok v w' ∧ ∃ g', SR C.P C.gl w0 g' r.2 w' ∧ Ext w g w' g' ∧ ResR w' g' r.1 (.returned v)
        | .panic chain => ∃ g', SR C.P C.gl w0 g' r.2 w' ∧ Ext w g w' g' ∧ ResR w' g' r.1 (.panicked chain)
        | _ => False) := by
      intro ex g' w' tmps p1 p2 p3 p6
      cases e with
      | exit i => cases h2
      | normal =>
        obtain ⟨b, h3, h4⟩ := Option.bind_eq_some_iff.1 h2
        cases ex <;> first | exact p6.elim | skip
        obtain ⟨v, hr, hv⟩ := results_sound (C := C) p1 h3 p3
        obtain ⟨g'', q1, q2, q3⟩ := leaves_sound hC (e := .returned v) (hlv _ _ _ _ _ h4) hs p1 p2 hv
        exact ⟨v, hr, g'', q1, q2, q3⟩
      | ret =>
        obtain ⟨b, h3, h4⟩ := Option.bind_eq_some_iff.1 h2
        cases ex <;> first | exact p6.elim | skip
        obtain ⟨v, hr, hv⟩ := results_sound (C := C) p1 h3 p3
        obtain ⟨g'', q1, q2, q3⟩ := leaves_sound hC (e := .returned v) (hlv _ _ _ _ _ h4) hs p1 p2 hv
        exact ⟨v, hr, g'', q1, q2, q3⟩
      | pan b =>
        cases ex <;> first | exact p6.elim | skip
        rename_i chain
        obtain ⟨g'', q1, q2, q3⟩ := leaves_sound hC (e := .panicked chain) (hlv _ _ _ _ _ h2) hs p1 p2 p6
        exact ⟨g'', q1, q2, q3⟩
    cases hrec : C.ann.recov f with
    | false =>
      simp only [hrec, Bool.false_eq_true, if_false] at h1
      refine calls_of_wp hf hb ?_
      refine wp_mono (hk _ _ _ _ _ h1 ⟨fn, c, hf, hb, Sub.refl c⟩ w0 g w { tmps := _, defers := [] } hsz hs htm).1 fun ex a' w' hp => ?_
      obtain ⟨g', p1, p2, p3, p4, p5, p6⟩ := hp
      have := hend ex g' w' a'.tmps p1 p2 p3 p6
      cases ex <;> first | exact this.elim | exact ⟨p5, this⟩
    | true =>
      simp only [hrec, if_true] at h1
      refine calls_of_wp_defers hf hb ?_
      refine hrk _ _ _ _ _ h1 ⟨fn, c, hf, hb, Sub.refl c⟩ fn _ w0 g w { tmps := _, defers := [] } hsz rfl hs htm fun ex g' w' tmps p1 p2 p3 p6 => ?_
      have := hend ex g' w' tmps p1 p2 p3 p6
      cases ex <;> first | exact this.elim | exact this
theorem sound (hC : CfgOk C) : ∀ f args m r, evCall C f args m = some r → CallOk C f args m r :=
  (evCall.mutual_partial_correctness C (CallOk C) (CodeOk C) (OpsOk C) (fun f nt all l s x => DrawR C nt all l s x.1 x.2) (RecOk C)
    (fun evK evR hk hr => call_sound hC hr hk (lv := fun f => leave C.P (C.ann.keep f)) (fun f m0 r m x h => .inl ⟨_, h⟩))
    (fun evK evO evD hk hoo hdd => code_sound hC hk hoo hdd)
    (fun evC evO hc hoo => ops_sound hc hoo)
    (fun evC evD hc hd => draw_valid hc hd)
    (fun evK evR hk hr => rec_sound hC hr hk)).1
#print axioms sound
end
end AE
end Go.Proofs.YthoomlenmgdebaaGreatDoor
/- The evaluator with a number of steps: the kernel can run it. What it answers holds; what a call answers on an empty store it answers on any. -/
set_option linter.unusedVariables false
set_option linter.unusedSimpArgs false
set_option linter.unusedSectionVars false
namespace Go.Proofs.YthoomlenmgdebaaGreatDoor
namespace AE
open Go Go.RowKit
mutual
def eqA : A → A → Bool
  | .undef, .undef => true
  | .int k n, .int k' n' => (k == k') && (n == n')
  | .bool b, .bool b' => b == b'
  | .str s, .str s' => s == s'
  | .nilp, .nilp => true
  | .nili, .nili => true
  | .nilf, .nilf => true
  | .nils, .nils => true
  | .ifc t x, .ifc t' x' => (t == t') && eqA x x'
  | .agg cs, .agg cs' => eqL cs cs'
  | .tup cs, .tup cs' => eqL cs cs'
  | .isl f n cs, .isl f' n' cs' => (f == f') && (n == n') && eqL cs cs'
  | .rp cs, .rp cs' => eqL cs cs'
  | .ptr i o, .ptr i' o' => (i == i') && (o == o')
  | .sl a b c d, .sl a' b' c' d' => (a == a') && (b == b') && (c == c') && (d == d')
  | .rptr a b c, .rptr a' b' c' => (a == a') && (b == b') && (c == c')
  | .fn f cs, .fn f' cs' => (f == f') && eqL cs cs'
  | _, _ => false
def eqL : List A → List A → Bool
  | [], [] => true
  | a :: r, b :: q => eqA a b && eqL r q
  | _, _ => false
end
mutual
theorem eqA_eq : ∀ (a b : A), eqA a b = true → a = b
  | .undef, b, h => by cases b <;> simp [eqA] at h ⊢
  | .int k n, b, h => by cases b <;> simp [eqA] at h ⊢; exact h
  | .bool x, b, h => by cases b <;> simp [eqA] at h ⊢; exact h
  | .str s, b, h => by cases b <;> simp [eqA] at h ⊢; exact h
  | .nilp, b, h => by cases b <;> simp [eqA] at h ⊢
  | .nili, b, h => by cases b <;> simp [eqA] at h ⊢
  | .nilf, b, h => by cases b <;> simp [eqA] at h ⊢
  | .nils, b, h => by cases b <;> simp [eqA] at h ⊢
  | .ifc t x, b, h => by cases b <;> simp [eqA] at h ⊢; exact ⟨h.1, eqA_eq _ _ h.2⟩
  | .agg cs, b, h => by cases b <;> simp [eqA] at h ⊢; exact eqL_eq _ _ h
  | .tup cs, b, h => by cases b <;> simp [eqA] at h ⊢; exact eqL_eq _ _ h
  | .isl f n cs, b, h => by cases b <;> simp [eqA] at h ⊢; exact ⟨h.1.1, h.1.2, eqL_eq _ _ h.2⟩
  | .rp cs, b, h => by cases b <;> simp [eqA] at h ⊢; exact eqL_eq _ _ h
  | .ptr i o, b, h => by cases b <;> simp [eqA] at h ⊢; exact h
  | .sl x y z u, b, h => by cases b <;> simp [eqA] at h ⊢; exact ⟨h.1.1.1, h.1.1.2, h.1.2, h.2⟩
  | .rptr x y z, b, h => by cases b <;> simp [eqA] at h ⊢; exact ⟨h.1.1, h.1.2, h.2⟩
  | .fn f cs, b, h => by cases b <;> simp [eqA] at h ⊢; exact ⟨h.1, eqL_eq _ _ h.2⟩
theorem eqL_eq : ∀ (a b : List A), eqL a b = true → a = b
  | [], b, h => by cases b <;> simp [eqL] at h ⊢
  | a :: r, b, h => by
    cases b <;> simp [eqL] at h ⊢
    exact ⟨eqA_eq _ _ h.1, eqL_eq _ _ h.2⟩
end
def eqR (a b : Row) : Bool := (a.el == b.el) && eqL a.cs b.cs
theorem eqR_eq {a b : Row} (h : eqR a b = true) : a = b := by
  unfold eqR at h
  simp at h
  obtain ⟨e, c⟩ := a
  obtain ⟨e', c'⟩ := b
  simp only [Row.mk.injEq]
  exact ⟨h.1, eqL_eq _ _ h.2⟩
def keptL {α : Type} (eq : α → α → Bool) (cl : α → Bool) : List α → List α → Bool
  | [], _ => true
  | a :: r, b :: q => (cl b || eq a b) && keptL eq cl r q
  | _ :: _, [] => false
theorem keptL_ok {α : Type} {eq : α → α → Bool} {cl : α → Bool} (he : ∀ a b, eq a b = true → a = b) : ∀ {l m : List α}, keptL eq cl l m = true → l.length ≤ m.length ∧ ∀ i, i < l.length → m[i]? = l[i]? ∨ ∃ c, m[i]? = some c ∧ cl c = true
  | [], m, h => ⟨Nat.zero_le _, fun i hi => by simp at hi⟩
  | a :: r, [], h => by simp [keptL] at h
  | a :: r, b :: q, h => by
    rw [keptL, Bool.and_eq_true, Bool.or_eq_true] at h
    obtain ⟨h1, h2⟩ := keptL_ok he h.2
    refine ⟨by simp; exact h1, fun i hi => ?_⟩
    cases i with
    | zero =>
      rcases h.1 with h3 | h3
      · exact .inr ⟨b, rfl, h3⟩
      · exact .inl (by rw [he _ _ h3]; rfl)
    | succ i =>
      have := h2 i (by simpa using hi)
      simpa using this
def rowsL (cl : Row → Bool) : List Row → List Row → Bool
  | [], _ => true
  | b :: q, a :: r => (cl b || eqR a b) && rowsL cl q r
  | b :: q, [] => cl b && rowsL cl q []
theorem rowsL_ok {cl : Row → Bool} : ∀ {m l : List Row}, rowsL cl m l = true → ∀ i, i < m.length → m[i]? = l[i]? ∨ ∃ c, m[i]? = some c ∧ cl c = true
  | [], l, h, i, hi => by simp at hi
  | b :: q, a :: r, h, i, hi => by
    rw [rowsL, Bool.and_eq_true, Bool.or_eq_true] at h
    cases i with
    | zero =>
      rcases h.1 with h3 | h3
      · exact .inr ⟨b, rfl, h3⟩
      · exact .inl (by rw [eqR_eq h3]; rfl)
    | succ i =>
      have := rowsL_ok h.2 i (by simpa using hi)
      simpa using this
  | b :: q, [], h, i, hi => by
    rw [rowsL, Bool.and_eq_true] at h
    cases i with
    | zero => exact .inr ⟨b, rfl, h.1⟩
    | succ i =>
      have := rowsL_ok h.2 i (by simpa using hi)
      simpa using this
def endRoundB (k : Option (List Nat)) (m0 : Mem) (s : St) : Option St :=
  match k with
  | none => some s
  | some l =>
    if (l.all fun t => closed m0.bx.length s.m.rw.length (lk t s.tm)) && keptL eqL (fun cs => cs.all (closed m0.bx.length s.m.rw.length)) m0.bx s.m.bx && rowsL (fun r => r.cs.all (closed m0.bx.length s.m.rw.length)) s.m.rw m0.rw
    then some ⟨prune k s.tm, ⟨s.m.bx.take m0.bx.length, s.m.rw⟩⟩ else none
theorem endRoundB_ok {k : Option (List Nat)} {m0 : Mem} {s s' : St} (h : endRoundB k m0 s = some s') : endRound k m0 s = some s' := by
  unfold endRoundB at h
  unfold endRound
  split
  · exact h
  · rename_i l
    simp only at h
    split at h
    · rename_i hc
      simp only [Bool.and_eq_true, List.all_eq_true] at hc
      obtain ⟨⟨h1, h2⟩, h3⟩ := hc
      obtain ⟨h4, h5⟩ := keptL_ok eqL_eq h2
      rw [if_pos ⟨h1, h4, h5, rowsL_ok h3⟩]
      exact h
    · cases h
def lostF (nb nr : Nat) : A → Bool
  | .fn _ cs => !closed.closedL nb nr cs
  | .ifc _ x => lostF nb nr x
  | .agg cs | .tup cs | .isl _ _ cs | .rp cs => lostL cs
  | _ => false
where
  lostL : List A → Bool
    | [] => false
    | a :: r => lostF nb nr a || lostL r
def leaveB (P : Program) (m0 : Mem) (r : Res) (m : Mem) : Option (Res × Mem) :=
  if lostF m0.bx.length m0.rw.length r.val then some (r, m)
  else if keptL eqL (fun cs => cs.all (closed m0.bx.length m0.rw.length)) m0.bx m.bx && keptL eqR (fun r => r.cs.all (closed m0.bx.length m0.rw.length)) m0.rw m.rw then
    some (erR (er P m0.bx.length m0.rw.length m.rw 4) r, cutM m0 m)
  else if keptL eqL (fun cs => cs.all (closed m0.bx.length m.rw.length)) m0.bx m.bx && rowsL (fun r => r.cs.all (closed m0.bx.length m.rw.length)) m.rw m0.rw && closed m0.bx.length m.rw.length r.val then
    some (r, ⟨m.bx.take m0.bx.length, m.rw⟩)
  else none
theorem leaveB_ok {P : Program} {m0 m : Mem} {r : Res} {x : Res × Mem} (h : leaveB P m0 r m = some x) : (∃ k, leave P k m0 r m = some x) ∨ x = (r, m) := by
  unfold leaveB at h
  split at h
  · exact .inr (Option.some.inj h).symm
  left
  split at h
  · rename_i hc
    rw [Bool.and_eq_true] at hc
    obtain ⟨h4, h5⟩ := keptL_ok eqL_eq hc.1
    obtain ⟨h6, h7⟩ := keptL_ok (fun _ _ => eqR_eq) hc.2
    refine ⟨false, ?_⟩
    unfold leave
    rw [if_neg (by simp), if_pos ⟨h4, h6, h5, h7⟩]
    exact h
  · split at h
    · rename_i hc
      rw [Bool.and_eq_true, Bool.and_eq_true] at hc
      obtain ⟨h4, h5⟩ := keptL_ok eqL_eq hc.1.1
      refine ⟨true, ?_⟩
      unfold leave
      rw [if_pos rfl, if_pos ⟨⟨h4, h5, rowsL_ok hc.1.2⟩, hc.2⟩]
      exact h
    · cases h
def isA (x : Option A) (v : A) : Bool := match x with | some a => eqA a v | none => false
theorem isA_eq {x : Option A} {v : A} (h : isA x v = true) : x = some v := by
  unfold isA at h
  split at h
  · rw [eqA_eq _ _ h]
  · cases h
def chkNeedB (P : Program) (tr : List Ent) (fin : Mem) : List (Nat × List Nat × Bool) → Bool
  | [] => true
  | (p, es, f) :: r =>
    (match tr[p]? with
      | some ⟨.load t x, v, _⟩ => (es.all fun e => match tr[e]? with | some en => isA (loadA P t x en.m) v | none => true) && (!f || isA (loadA P t x fin) v)
      | _ => true) && chkNeedB P tr fin r
theorem chkNeedB_ok {P : Program} {tr : List Ent} {fin : Mem} : ∀ {l : List (Nat × List Nat × Bool)}, chkNeedB P tr fin l = true → chkNeed P tr fin l
  | [], h => trivial
  | (p, es, f) :: r, h => by
    rw [chkNeedB, Bool.and_eq_true] at h
    rw [chkNeed]
    refine ⟨?_, chkNeedB_ok h.2⟩
    have h1 := h.1
    split
    · rename_i t x v m0 he
      rw [he] at h1
      simp only [Bool.and_eq_true, List.all_eq_true] at h1
      refine ⟨fun e hin en hen => ?_, fun hf => ?_⟩
      · have := h1.1 e hin
        rw [hen] at this
        exact isA_eq this
      · have := h1.2
        rw [hf] at this
        exact isA_eq (by simpa using this)
    · trivial
def disjB (n k : Nat) (a b : A) : Bool := match a, b with
  | .ptr _ _, .rptr _ _ _ => true
  | .rptr _ _ _, .ptr _ _ => true
  | .ptr i o, .ptr j q => !decide (i = j) || decide (o + n ≤ q) || decide (q + k ≤ o)
  | .rptr i _ o, .rptr j _ q => !decide (i = j) || decide (o + n ≤ q) || decide (q + k ≤ o)
  | _, _ => false
theorem disjB_ok {n k : Nat} {a b : A} (h : disjB n k a b = true) : disjA n k a b := by
  unfold disjB at h
  split at h
  · trivial
  · trivial
  · simp only [Bool.or_eq_true, Bool.not_eq_true', decide_eq_false_iff_not, decide_eq_true_eq, or_assoc] at h
    exact h
  · simp only [Bool.or_eq_true, Bool.not_eq_true', decide_eq_false_iff_not, decide_eq_true_eq, or_assoc] at h
    exact h
  · cases h
def lateNeedB (P : Program) (tr : List Ent) (tm : List (Nat × A)) (l : List LateAnn) : Bool := l.all fun l => disjB (szOf P l.t) (szOf P l.u) (lateAddr tr tm l.ka l.sa) (lateAddr tr tm l.kb l.sb)
theorem lateNeedB_ok {P : Program} {tr : List Ent} {tm : List (Nat × A)} : ∀ {l : List LateAnn}, lateNeedB P tr tm l = true → lateNeed P tr tm l
  | [], _ => trivial
  | l :: r, h => by
    unfold lateNeedB at h
    rw [List.all_cons, Bool.and_eq_true] at h
    exact ⟨disjB_ok h.1, lateNeedB_ok (l := r) h.2⟩
def drawEndB (P : Program) (gl : Nat → A) (nt : Nat) (ok : Bool) (d : DrawAnn) (all : List Oper) (tr : List Ent) (k : Option (List Nat)) (y : Option (A × Mem) × St) : Option (Ex × St) :=
  match y with
  | (none, s) => if ok && (chkNeedB P tr s.m d.need && lateNeedB P tr s.tm d.late) then some (.normal, ⟨prune k s.tm, s.m⟩) else none
  | (some (a, m), s) => (afterP P gl nt d all (tr.length - 1) tr.length (all.drop tr.length) s).bind fun z =>
    if ok && chkNeedB P (tr ++ z.1) z.2.m d.need then some (.pan a, ⟨maskTm all s.tm, m⟩) else none
theorem drawEndB_ok {P : Program} {gl : Nat → A} {nt : Nat} {ok : Bool} {d : DrawAnn} {all : List Oper} {tr : List Ent} {k : Option (List Nat)} {y : Option (A × Mem) × St} {x : Ex × St} (h : drawEndB P gl nt ok d all tr k y = some x) : drawEnd P gl nt ok d all tr k y = some x := by
  obtain ⟨po, s⟩ := y
  cases po with
  | none =>
    simp only [drawEndB, drawEnd] at h ⊢
    split at h
    · rename_i hc
      rw [Bool.and_eq_true, Bool.and_eq_true] at hc
      rw [if_pos ⟨hc.1, chkNeedB_ok hc.2.1, lateNeedB_ok hc.2.2⟩]
      exact h
    · cases h
  | some z =>
    obtain ⟨a, m⟩ := z
    simp only [drawEndB, drawEnd] at h ⊢
    obtain ⟨z, h1, h2⟩ := Option.bind_eq_some_iff.1 h
    rw [h1]
    simp only [Option.bind_some]
    split at h2
    · rename_i hc
      rw [Bool.and_eq_true] at hc
      rw [if_pos ⟨hc.1, chkNeedB_ok hc.2⟩]
      exact h2
    · cases h2
structure EvR where
  call : FuncId → List A → Mem → Option (Res × Mem)
  rcv : FuncId → Nat → Code → St → Option (Ex × St)
  code : FuncId → Nat → Code → St → Option (Ex × St)
  ops : FuncId → Nat → List Oper → List Oper → St → Option (Ex × St)
  draw : FuncId → Nat → List Oper → List Oper → St → Option (List Ent × Option (A × Mem) × St)
def callN (C : Cfg) (r : EvR) (f : FuncId) (args : List A) (m : Mem) : Option (Res × Mem) :=
  match C.ext f with
  | some g => g args m
  | none =>
    match C.P.funcs[f]? with
    | none => none
    | some fn =>
      match fn.body with
      | none => none
      | some c =>
        if fn.name = "runtime.NumGoroutine" ∨ fn.ntmps < args.length then none else
        (if C.ann.recov f then r.rcv f fn.ntmps c ⟨argsTm 0 args, m⟩ else r.code f fn.ntmps c ⟨argsTm 0 args, m⟩) >>= fun x =>
          match x.1 with
          | .normal | .ret => (resultsA C.P fn.results.toList x.2.tm x.2.m) >>= fun a => leaveB C.P m (.ret a) x.2.m
          | .pan a => leaveB C.P m (.pan a) x.2.m
          | .exit _ => none
def rcvN (C : Cfg) (r : EvR) (f : FuncId) (nt : Nat) (c : Code) (s : St) : Option (Ex × St) :=
  match c with
  | .seq a b =>
    match deferAt a with
    | some d =>
      if d.1 < nt then
        (r.code f nt b ⟨put (some d.1) (.fn d.2.1 (d.2.2.map (opd C.gl s.tm))) s.tm, s.m⟩) >>= fun x =>
          match endVal x.1, recBody C.P d.2.1 with
          | some v, some rb =>
            if d.2.2.length ≤ rb.1 then
              (r.code d.2.1 rb.1 rb.2.2.2 ⟨put (some rb.2.2.1) v (put (some rb.2.1) v (argsTm 0 (d.2.2.map (opd C.gl s.tm)))), x.2.m⟩) >>= fun y =>
                match y.1 with
                | .normal | .ret => some (.ret, ⟨x.2.tm, y.2.m⟩)
                | _ => none
            else none
          | _, _ => none
      else none
    | none =>
      (r.code f nt a s) >>= fun x =>
        match x.1 with
        | .normal => r.rcv f nt b x.2
        | e => some (e, x.2)
  | c => r.code f nt c s
def codeN (C : Cfg) (r : EvR) (f : FuncId) (nt : Nat) (c : Code) (s : St) : Option (Ex × St) :=
  match c with
  | .skip => some (.normal, s)
  | .region id ops draw =>
    if draw then
      (r.draw f nt ops.toList ops.toList s) >>= fun y =>
        drawEndB C.P C.gl nt (C.ann.dok f id) (C.ann.draw f id) ops.toList y.1 (C.ann.reg f id) y.2
    else
    (r.ops f nt ops.toList ops.toList s) >>= fun x =>
      match x.1 with
      | .normal => some (.normal, ⟨prune (C.ann.reg f id) x.2.tm, x.2.m⟩)
      | e => some (e, x.2)
  | .seq a b =>
    (r.code f nt a s) >>= fun x =>
      match x.1 with
      | .normal => r.code f nt b x.2
      | e => some (e, x.2)
  | .cond c a b =>
    match opd C.gl s.tm c with
    | .bool t => if t then r.code f nt a s else r.code f nt b s
    | _ => none
  | .block id b =>
    (r.code f nt b s) >>= fun x =>
      match x.1 with
      | .exit i => if i = id then some (.normal, x.2) else some (.exit i, x.2)
      | e => some (e, x.2)
  | .loop b =>
    (r.code f nt b ⟨prune (C.ann.loop f (headId b)) s.tm, s.m⟩) >>= fun x =>
      match x.1 with
      | .normal => (endRoundB (C.ann.loop f (headId b)) s.m x.2) >>= fun s1 => r.code f nt (.loop b) s1
      | e => some (e, x.2)
  | .exit id => some (.exit id, s)
  | .ret => some (.ret, s)
  | _ => none
def opsN (C : Cfg) (r : EvR) (f : FuncId) (nt : Nat) (all l : List Oper) (s : St) : Option (Ex × St) :=
  match l with
  | [] => some (.normal, s)
  | o :: rest =>
    match o.dst.all (· < nt), wantA o all s.tm with
    | true, some true =>
      match o.op with
      | .panic x => (panA (opd C.gl s.tm x)).map fun a => (.pan a, s)
      | .call { callee := .value g, args, argTypes } =>
        match opd C.gl s.tm g with
        | .fn h caps =>
          (r.call h (args.toList.map (opd C.gl s.tm) ++ caps) s.m) >>= fun x =>
            match x.1 with
            | .ret a => r.ops f nt all rest ⟨put o.dst a s.tm, x.2⟩
            | .pan a => some (.pan a, ⟨s.tm, x.2⟩)
        | _ => none
      | .convert t u x =>
        match strM C.P t u (opd C.gl s.tm x) s.m with
        | some a => r.ops f nt all rest ⟨put o.dst a s.tm, s.m⟩
        | none => (opA C.P (.convert t u x) (opd C.gl s.tm) s.m) >>= fun x => r.ops f nt all rest ⟨put o.dst x.1 s.tm, x.2⟩
      | op => (opA C.P op (opd C.gl s.tm) s.m) >>= fun x => r.ops f nt all rest ⟨put o.dst x.1 s.tm, x.2⟩
    | true, some false => r.ops f nt all rest ⟨put o.dst (.tup []) s.tm, s.m⟩
    | _, _ => none
def drawN (C : Cfg) (r : EvR) (f : FuncId) (nt : Nat) (all l : List Oper) (s : St) : Option (List Ent × Option (A × Mem) × St) :=
  match l with
  | [] => some ([], none, s)
  | o :: rest =>
    match o.dst.all (· < nt), wantA o all s.tm with
    | true, some true =>
      match o.op with
      | .call { callee := .value g, args, argTypes } =>
        match opd C.gl s.tm g with
        | .fn h caps =>
          (r.call h (args.toList.map (opd C.gl s.tm) ++ caps) s.m) >>= fun x =>
            match x.1 with
            | .ret a => (r.draw f nt all rest ⟨put o.dst a s.tm, x.2⟩) >>= fun y => some (⟨.eff, a, s.m⟩ :: y.1, y.2)
            | .pan a => some ([⟨.eff, .undef, s.m⟩], some (a, x.2), ⟨put o.dst .undef s.tm, s.m⟩)
        | _ => none
      | op => (opA C.P op (opd C.gl s.tm) s.m) >>= fun x => (r.draw f nt all rest ⟨put o.dst x.1 s.tm, x.2⟩) >>= fun y => some (⟨kindA op (opd C.gl s.tm), x.1, s.m⟩ :: y.1, y.2)
    | true, some false => (r.draw f nt all rest ⟨put o.dst (.tup []) s.tm, s.m⟩) >>= fun y => some (⟨kindS o.op, .tup [], s.m⟩ :: y.1, y.2)
    | _, _ => none
def evR (C : Cfg) : Nat → EvR
  | 0 => ⟨fun _ _ _ => none, fun _ _ _ _ => none, fun _ _ _ _ => none, fun _ _ _ _ _ => none, fun _ _ _ _ _ => none⟩
  | n + 1 => ⟨callN C (evR C n), rcvN C (evR C n), codeN C (evR C n), opsN C (evR C n), drawN C (evR C n)⟩
section
variable {C : Cfg}
structure RecsOk (C : Cfg) (r : EvR) : Prop where
  call : ∀ f args m x, r.call f args m = some x → CallOk C f args m x
  rcv : ∀ f nt c s x, r.rcv f nt c s = some x → RecOk C f nt c s x
  code : ∀ f nt c s x, r.code f nt c s = some x → CodeOk C f nt c s x
  ops : ∀ f nt all l s x, r.ops f nt all l s = some x → OpsOk C f nt all l s x
  draw : ∀ f nt all l s x, r.draw f nt all l s = some x → DrawR C nt all l s x.1 x.2
theorem callN_ok (hC : CfgOk C) {r : EvR} (hr : RecsOk C r) (f : FuncId) (args : List A) (m : Mem) (x : Res × Mem) (h : callN C r f args m = some x) : CallOk C f args m x := by
  refine call_sound hC hr.rcv hr.code (lv := fun _ => leaveB C.P) (fun f m0 r m x h => leaveB_ok h) f args m x ?_
  unfold callN at h
  cases hx : C.ext f with
  | some gx => rw [hx] at h; exact h
  | none =>
  simp only [hx] at h ⊢
  cases hf : C.P.funcs[f]? with
  | none => simp only [hf] at h; cases h
  | some fn =>
  simp only [hf] at h ⊢
  cases hb : fn.body with
  | none => simp only [hb] at h; cases h
  | some c =>
  simp only [hb] at h ⊢
  split at h
  · cases h
  · rename_i hn
    rw [if_neg hn]
    obtain ⟨⟨e, s'⟩, h1, h2⟩ := Option.bind_eq_some_iff.1 h
    refine Option.bind_eq_some_iff.2 ⟨(e, s'), h1, ?_⟩
    cases e with
    | exit i => cases h2
    | pan a => exact h2
    | normal =>
      obtain ⟨a, h3, h4⟩ := Option.bind_eq_some_iff.1 h2
      exact Option.bind_eq_some_iff.2 ⟨a, h3, h4⟩
    | ret =>
      obtain ⟨a, h3, h4⟩ := Option.bind_eq_some_iff.1 h2
      exact Option.bind_eq_some_iff.2 ⟨a, h3, h4⟩
theorem codeN_ok (hC : CfgOk C) {r : EvR} (hr : RecsOk C r) (f : FuncId) (nt : Nat) (c : Code) (s : St) (x : Ex × St) (h : codeN C r f nt c s = some x) : CodeOk C f nt c s x := by
  refine code_sound hC hr.code hr.ops hr.draw f nt c s x ?_
  unfold codeN at h
  cases c with
  | region id ops draw =>
    cases draw with
    | true =>
      simp only [if_true] at h ⊢
      obtain ⟨y, h1, h2⟩ := Option.bind_eq_some_iff.1 h
      exact Option.bind_eq_some_iff.2 ⟨y, h1, drawEndB_ok h2⟩
    | false => exact h
  | loop b =>
    obtain ⟨⟨e, s'⟩, h1, h2⟩ := Option.bind_eq_some_iff.1 h
    refine Option.bind_eq_some_iff.2 ⟨(e, s'), h1, ?_⟩
    cases e with
    | normal =>
      obtain ⟨s1, h3, h4⟩ := Option.bind_eq_some_iff.1 h2
      exact Option.bind_eq_some_iff.2 ⟨s1, endRoundB_ok h3, h4⟩
    | exit i => exact h2
    | ret => exact h2
    | pan a => exact h2
  | _ => exact h
theorem evR_ok (hC : CfgOk C) : ∀ n, RecsOk C (evR C n)
  | 0 => ⟨fun _ _ _ _ h => (nomatch h), fun _ _ _ _ _ h => (nomatch h), fun _ _ _ _ _ h => (nomatch h), fun _ _ _ _ _ _ h => (nomatch h), fun _ _ _ _ _ _ h => (nomatch h)⟩
  | n + 1 =>
    have hr := evR_ok hC n
    ⟨callN_ok hC hr, fun f nt c s x h => rec_sound hC hr.rcv hr.code f nt c s x h, codeN_ok hC hr, fun f nt all l s x h => ops_sound hr.call hr.ops f nt all l s x h, fun f nt all l s x h => draw_valid hr.call hr.draw f nt all l s x h⟩
theorem call_frame (hgl : ∀ n, closed 0 0 (C.gl n) = true) {f : FuncId} {b : Bool} {m1 : Mem} (h : CallOk C f [] ⟨[], []⟩ (.ret (.bool b), m1)) (m : Mem) : CallOk C f [] m (.ret (.bool b), m) := by
  refine ⟨h.1, fun w0 g w vals hs hv => ?_⟩
  have hgl' : ∀ n, VR w { g with F := fun k _ => k < w.heap.size, nb := 0, rl := [] } (C.gl n) (.pointer (some ⟨n, 0, none⟩)) := fun n => by
    have h1 := VR.cut (nb := 0) (nr := 0) _ _ (hgl n) (hs.gl n)
    refine VR.monoB (⟨fun k o hF => ⟨?_, rfl⟩, Nat.zero_le _, fun i hi => ?_, fun i L hL => ?_⟩ : ExtB w (cutG g 0 0) w _) _ _ h1
    · rcases hF with hF | ⟨id, L, _, h2, rfl, _⟩
      · exact hs.lim k o hF
      · exact hs.br_lt (List.getElem?_eq_some_iff.1 h2).1
    · exact absurd hi (by simp [cutG])
    · simp [cutG] at hL
  have hs0 : SR C.P C.gl w { g with F := fun k _ => k < w.heap.size, nb := 0, rl := [] } ⟨[], []⟩ w := {
    below := Below.refl _ _
    nb := rfl
    rl := rfl
    es := fun i r h => by simp at h
    bx := fun i r h => by simp at h
    rw := fun i r h => by simp at h
    ownb := fun i h => by simp at h
    ownr := fun i h => by simp at h
    injb := fun i j h => by simp at h
    injr := fun i j h => by simp at h
    dis := fun i j h => by simp at h
    old := fun b o h => h
    lim := fun b o h => h
    gl := hgl'
    dr := fun _ => Nat.le_refl _
    tb := fun hf => (hs.tb hf).up hs.below }
  refine (h.2 w _ w vals hs0 ?_).mono fun e w' hR => ?_
  · rw [VRs] at hv ⊢; exact hv
  obtain ⟨g', hs', hx, hres⟩ := hR
  have hbel := hs'.below
  have hcell : ∀ k o, k < w.heap.size → w'.cell? ⟨k, o, none⟩ = w.cell? ⟨k, o, none⟩ := fun k o hk => (hx.fx k o hk).2
  have hext : Ext w g w' g := ⟨⟨fun k o hF => ⟨hF, hcell k o (hs.lim k o hF)⟩, Nat.le_refl _, fun _ _ => rfl, fun i L h => ⟨L, h, Nat.le_refl _, fun _ => ⟨rfl, rfl⟩, rfl⟩⟩, fun b hb hl => ⟨hbel.block b hb, hl⟩, hbel.size⟩
  refine ⟨g, ?_, hext, ?_⟩
  · exact {
      below := hs.below.trans (hbel.mono hs.szB)
      nb := hs.nb
      rl := hs.rl
      es := hs.es
      bx := fun i cs hi => by
        obtain ⟨us, t, h1, h2⟩ := hs.bx i cs hi
        refine ⟨us, t, ?_, h2.mono hext⟩
        rw [hbel.block _ (Array.getElem?_eq_some_iff.1 h1).1]
        exact h1
      rw := fun i r hi => by
        obtain ⟨us, ss, rest, h1, h2, h3, h4⟩ := hs.rw i r hi
        refine ⟨us, ss, rest, ?_, h2, h3, h4.mono hext⟩
        rw [hbel.block _ (Array.getElem?_eq_some_iff.1 h1).1]
        exact h1
      ownb := hs.ownb
      ownr := hs.ownr
      injb := hs.injb
      injr := hs.injr
      dis := hs.dis
      old := hs.old
      lim := fun b o hF => Nat.lt_of_lt_of_le (hs.lim b o hF) hbel.size
      gl := fun n => (hs.gl n).mono hext
      dr := fun hf => Nat.le_trans (hs.dr hf) (hs'.dr hf)
      tb := hs.tb }
  · cases e with
    | returned v => exact hres
    | panicked ch => exact hres.elim
    | outgrown => exact hres.elim
end
def saysTrue (x : Option (Res × Mem)) : Bool := match x with | some (.ret (.bool b), _) => b | _ => false
theorem saysTrue_ok {x : Option (Res × Mem)} (h : saysTrue x = true) : ∃ m, x = some (.ret (.bool true), m) := by
  unfold saysTrue at h
  split at h
  · rename_i b m; exact ⟨m, by rw [h]⟩
  · cases h
end AE
end Go.Proofs.YthoomlenmgdebaaGreatDoor
