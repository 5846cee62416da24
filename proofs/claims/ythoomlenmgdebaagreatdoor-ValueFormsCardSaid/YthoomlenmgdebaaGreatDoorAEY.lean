/- Regions that draw their order, the end. -/
import Derived.Test.YthoomlenmgdebaaGreatDoorAEX
set_option linter.unusedVariables false
set_option linter.unusedSimpArgs false
set_option linter.unusedSectionVars false
set_option maxHeartbeats 3200000
namespace Go.Proofs.YthoomlenmgdebaaGreatDoor
namespace AE
open Go Go.RowKit

section
variable {C : Cfg} {nt : Nat} {ops : Array Oper} {d : DrawAnn} {po : Option (Nat × A × Mem)} {s s' : St} {tr : List Ent} {w0 w1 : World} {g1 : Gh} {df : List Deferred}

theorem getD_put_same {a : Act} {t : Nat} {v : Value} (h : t < a.tmps.size) : (a.put (some t) v).tmps.getD t undef = v := by
  simp [Act.put, Array.getD_eq_getD_getElem?, Array.getElem?_setIfInBounds, h]
theorem getD_put_ne {a : Act} {dd : Option Nat} {t : Nat} {v : Value} (h : dd ≠ some t) : (a.put dd v).tmps.getD t undef = a.tmps.getD t undef := by
  cases dd with
  | none => rfl
  | some u =>
    have : u ≠ t := fun e => h (by rw [e])
    simp [Act.put, Array.getD_eq_getD_getElem?, Array.getElem?_setIfInBounds, this]

theorem NewOk.next (D : Drawn C nt ops d po s s' tr) {L : Nat → Bool} {g g' : Gh} {a : Act} {w w' : World} {i c : Nat} {o : Oper} {e : Ent} {v : Value} (h : NewOk ops tr L c g a w) (hsz : a.tmps.size = nt)
    (ho : ops[i]? = some o) (he : tr[i]? = some e) (hd : o.dst.all (· < nt) = true) (hx : ExtB w g w' g') (hv : (effAt ops i → i < c) → VR w' g' e.v v) : NewOk ops tr (fun j => if j = i then true else L j) c g' (a.put o.dst v) w' := by
  intro j o' t e' ho' hj ht he' hc
  have hj : (if j = i then true else L j) = true := hj
  by_cases hji : j = i
  · subst hji
    rw [ho] at ho'
    cases ho'
    rw [he] at he'
    cases he'
    rw [ht] at hd ⊢
    simp only [Option.all_some, decide_eq_true_eq] at hd
    rw [getD_put_same (by rw [hsz]; exact hd)]
    exact hv hc
  · rw [if_neg hji] at hj
    rw [getD_put_ne (fun q => D.facts.dst i j o o' t ho ho' (Ne.symm hji) q ht)]
    exact VR.monoB hx _ _ (h j o' t e' ho' hj ht he' hc)
theorem PendAt.next (D : Drawn C nt ops d po s s' tr) {g g' : Gh} {a : Act} {w w' : World} {i j b : Nat} {o : Oper} {v : Value} (h : PendAt C ops d w0 w1 j b g a w) (ho : ops[i]? = some o) (hij : j ≠ i) (hx : Ext w g w' g') : PendAt C ops d w0 w1 j b g' (a.put o.dst v) w' := by
  obtain ⟨h1, h2, h3, h4, o', T, zv, k1, k2, k3, k4, k5, k6⟩ := h
  obtain ⟨q1, q2⟩ := hx.fr b h3 h4
  refine ⟨h1, h2, ?_, q2, o', T, zv, k1, k2, k3, fun t ht => ?_, by rw [q1]; exact k5, k6⟩
  · rw [← q1] at k5
    exact (Array.getElem?_eq_some_iff.1 k5).1
  · rw [getD_put_ne (fun q => D.facts.dst j i o' o t k1 ho hij ht q)]
    exact k4 t ht

/-- The allocations that came early and whose turn it is now. -/
theorem advance (D : Drawn C nt ops d po s s' tr) {L : Nat → Bool} {a : Act} {w : World} (hclo : ∀ i, L i = true → ∀ j ∈ d.pre.getD i [], L j = true) (hnp : ∀ p b m, po = some (p, b, m) → L p = false) :
    ∀ (k n : Nat) (g : Gh), n + k = ops.size → SR C.P C.gl w0 g (memAt tr s'.m n) w → (∀ e, e < n → effAt ops e → L e = true) → NewOk ops tr L n g a w → Ext w1 g1 w g →
      (∃ B : Nat → Nat, (∀ i, n ≤ i → effAt ops i → L i = true → PendAt C ops d w0 w1 i (B i) g a w) ∧ ∀ i j, n ≤ i → effAt ops i → L i = true → n ≤ j → effAt ops j → L j = true → B i = B j → i = j) →
      ∃ g', MemP C ops d s' tr w0 w1 L g' a w ∧ Ext w1 g1 w g' ∧ ExtB w g w g'
  | 0, n, g, hn, hs, he, hN, hx, hB => by
    obtain ⟨B, b1, b2⟩ := hB
    exact ⟨g, ⟨n, by omega, he, .inl (by omega), hs, hN, B, fun i hi => b1 i (by omega), fun i j hi h1 h2 hj => b2 i j (by omega) h1 h2 (by omega)⟩, hx, ExtB.refl _ _⟩
  | k + 1, n, g, hn, hs, he, hN, hx, hB => by
    obtain ⟨B, b1, b2⟩ := hB
    by_cases hef : effAt ops n
    case neg =>
      have hlt : n < ops.size := by omega
      have hst : memAt tr s'.m (n + 1) = memAt tr s'.m n := D.still n ops[n] (Array.getElem?_eq_getElem hlt) (by
        cases hq : isEff ops[n].op with
        | false => rfl
        | true => exact absurd ⟨_, Array.getElem?_eq_getElem hlt, hq⟩ hef)
      refine advance D hclo hnp k (n + 1) g (by omega) (by rw [hst]; exact hs) (fun e h1 h2 => ?_) (fun i o t e h1 h2 h3 h4 h5 => hN i o t e h1 h2 h3 h4 fun hi => ?_) hx ⟨B, fun i hi => b1 i (by omega), fun i j hi h1 h2 hj => b2 i j (by omega) h1 h2 (by omega)⟩
      · rcases Nat.lt_or_ge e n with q | q
        · exact he e q h2
        · have : e = n := by omega
          subst this
          exact absurd h2 hef
      · have := h5 hi
        rcases Nat.lt_or_ge i n with q | q
        · exact q
        · have : i = n := by omega
          subst this
          exact absurd hi hef
    case pos =>
    cases hL : L n with
    | false => exact ⟨g, ⟨n, by omega, he, .inr ⟨hef, hL⟩, hs, hN, B, fun i hi => b1 i (by omega), fun i j hi h1 h2 hj => b2 i j (by omega) h1 h2 (by omega)⟩, hx, ExtB.refl _ _⟩
    | true =>
      obtain ⟨h1, h2, h3, h4, o, T, zv, k1, k2, k3, k4, k5, k6⟩ := b1 n (Nat.le_refl _) hef hL
      obtain ⟨e, e1, e2, e3, e4⟩ := D.step n o k1
      have hrun : e.v = .ptr (memAt tr s'.m n).bx.length 0 ∧ memAt tr s'.m (n + 1) = ⟨(memAt tr s'.m n).bx ++ [zv.cells.toList.map A.ofCell], (memAt tr s'.m n).rw⟩ := by
        rcases e4 with ⟨⟨q, _⟩ | ⟨_, ⟨gop, args, tys, hh, caps, hop, _⟩ | ⟨_, hop, _⟩⟩, _⟩ | ⟨p, b, m, hp, hin, _⟩ | ⟨b, m, hp, _, _, gop, args, tys, hh, caps, hop, _⟩
        · unfold wantA at q
          rw [k3] at q
          cases q
        · rw [k2] at hop; cases hop
        · rw [k2] at hop
          simp only [opA, k6, Option.bind_some, Option.some.injEq, Prod.mk.injEq] at hop
          exact ⟨hop.1.symm, hop.2.symm⟩
        · have := hnp p b m hp
          rw [hclo n hL p hin] at this
          cases this
        · rw [k2] at hop; cases hop
      obtain ⟨g', s1, s2, s3, s4, s5⟩ := hs.adopt h1 h4 k5 (VRs_ofCells _)
      have hx' : Ext w1 g1 w g' := by
        refine ⟨⟨fun b o hF => ?_, Nat.le_trans hx.nb s2.nb, fun i hi => ?_, fun i Lr hLr => ?_⟩, fun b' hb' hl' => ?_, hx.sz⟩
        · obtain ⟨q1, q2⟩ := hx.fx b o hF
          exact ⟨(s2.fx b o q1).1, q2⟩
        · rw [s2.bb i (Nat.lt_of_lt_of_le hi hx.nb), hx.bb i hi]
        · obtain ⟨L1, q1, q2, q3, q4⟩ := hx.rl i Lr hLr
          obtain ⟨L2, r1, r2, r3, r4⟩ := s2.rl i L1 q1
          refine ⟨L2, r1, Nat.le_trans q2 r2, fun e => ?_, r4.trans q4⟩
          have e1 : L1 = Lr := by omega
          have e2 : L2 = L1 := by omega
          exact ⟨(r3 e2).1.trans (q3 e1).1, (r3 e2).2.trans (q3 e1).2⟩
        · obtain ⟨q1, q2⟩ := hx.fr b' hb' hl'
          exact ⟨q1, s5 b' (by omega) q2⟩
      obtain ⟨g'', r1, r2, r3⟩ := advance D hclo hnp k (n + 1) g' (by omega) (by rw [hrun.2]; exact s1) (fun e h1 h2 => by
          rcases Nat.lt_or_ge e n with q | q
          · exact he e q h2
          · have : e = n := by omega
            subst this
            exact hL) (fun i o' t e' q1 q2 q3 q4 q5 => by
          by_cases hin : i = n
          · subst hin
            rw [k1] at q1
            cases q1
            rw [e1] at q4
            cases q4
            rw [hrun.1, k4 t q3, VR]
            exact ⟨by rw [s4]; omega, by rw [s3]⟩
          · refine VR.monoB s2 _ _ (hN i o' t e' q1 q2 q3 q4 fun hi => ?_)
            have := q5 hi
            omega) hx' ⟨B, fun i hi q1 q2 => by
          obtain ⟨p1, p2, p3, p4, p5⟩ := b1 i (by omega) q1 q2
          exact ⟨p1, p2, p3, s5 _ (fun q => by have := b2 i n (by omega) q1 q2 (Nat.le_refl _) hef hL q; omega) p4, p5⟩, fun i j hi q1 q2 hj => b2 i j (by omega) q1 q2 (by omega)⟩
      refine ⟨g'', r1, r2, ⟨fun b o hF => ?_, Nat.le_trans s2.nb r3.nb, fun i hi => ?_, fun i Lr hLr => ?_⟩⟩
      · exact ⟨(r3.fx b o (s2.fx b o hF).1).1, rfl⟩
      · rw [r3.bb i (Nat.lt_of_lt_of_le hi s2.nb), s2.bb i hi]
      · obtain ⟨L1, q1, q2, q3, q4⟩ := s2.rl i Lr hLr
        obtain ⟨L2, p1, p2, p3, p4⟩ := r3.rl i L1 q1
        refine ⟨L2, p1, Nat.le_trans q2 p2, fun e => ?_, p4.trans q4⟩
        have e1 : L1 = Lr := by omega
        have e2 : L2 = L1 := by omega
        exact ⟨(p3 e2).1.trans (q3 e1).1, (p3 e2).2.trans (q3 e1).2⟩

theorem Inv.next (D : Drawn C nt ops d po s s' tr) {L : Nat → Bool} {g g' : Gh} {a : Act} {w w' : World} (I : Inv C nt ops d po s s' tr w0 df w1 g1 L g a w) {i : Nat} {o : Oper} {v : Value}
    (ho : ops[i]? = some o) (hL : L i = false) (hnp : ∀ p b m, po = some (p, b, m) → p ≠ i) (hpre : ∀ j ∈ d.pre.getD i [], L j = true) (hx : ExtB w g w' g') (hx1 : Ext w1 g1 w' g')
    (hm : MemP C ops d s' tr w0 w1 (fun j => if j = i then true else L j) g' (a.put o.dst v) w') :
    Inv C nt ops d po s s' tr w0 df w1 g1 (fun j => if j = i then true else L j) g' (a.put o.dst v) w' := by
  refine ⟨by rw [put_size]; exact I.size, by rw [put_defers]; exact I.dfr, fun j hj k hk => ?_, fun t ht => ?_, hm, hx1, fun p b m hp => by show (if p = i then true else L p) = false; rw [if_neg (hnp p b m hp)]; exact I.np p b m hp⟩
  · have hj : (if j = i then true else L j) = true := hj
    show (if k = i then true else L k) = true
    split
    · rfl
    · split at hj
      · rename_i h1; subst h1; exact hpre k hk
      · exact I.clo j hj k hk
  · have hne : o.dst ≠ some t := fun q => by
      have := ht i o ho q
      simp at this
    rw [getD_put_ne hne]
    refine VR.monoB hx _ _ (I.old t fun j o' ho' hd' => ?_)
    have : (if j = i then true else L j) = false := ht j o' ho' hd'
    split at this
    · cases this
    · exact this

theorem sched_sound (D : Drawn C nt ops d po s s' tr) {Q : Exit → Act → World → Prop} (hQ : ∀ L g a w, (∀ i, i < ops.size → L i = true) → Inv C nt ops d po s s' tr w0 df w1 g1 L g a w → Q .normal a w)
    (hP : ∀ p b m L g a w g' w' ch, po = some (p, b, m) → p < ops.size → Inv C nt ops d po s s' tr w0 df w1 g1 L g a w → SR C.P C.gl w0 g' m w' → Ext w g w' g' → ResR w' g' (.pan b) (.panicked ch) → Q (.panic ch) a w') :
    ∀ (l : List Nat) (L : Nat → Bool) (g : Gh) (a : Act) (w : World), Topo ops L l → Inv C nt ops d po s s' tr w0 df w1 g1 L g a w → wpOps C.P ops Q l a w
  | [], L, g, a, w, ht, I => hQ L g a w ht I
  | i :: r, L, g, a, w, ⟨hi, hL, hdir, htop⟩, I => by
    have rec_ := sched_sound D hQ hP r
    obtain ⟨o, ho⟩ : ∃ o, ops[i]? = some o := ⟨ops[i], Array.getElem?_eq_getElem hi⟩
    obtain ⟨e, he, hem, hd, hstep⟩ := D.step i o ho
    have hpre : ∀ j ∈ d.pre.getD i [], L j = true := fun j hj => by
      obtain ⟨ev, hev, hb, q⟩ := D.facts.pre i o ho j hj
      have := hdir o ho ev hev hb
      rcases q with q | q
      · rw [← q]; exact this
      · exact I.clo _ this j q
    obtain ⟨c, hc1, hc2, hc3, hsr, hnew, B, hB1, hB2⟩ := I.mem
    have hreads : ∀ t ∈ readsOf ops o, VR w g (lk t (tmAt ops.toList tr s.tm i)) (a.tmps.getD t undef) := fun t ht => by
      by_cases hex : ∃ (j : Nat) (o' : Oper), ops[j]? = some o' ∧ o'.dst = some t
      · obtain ⟨j, o', ho', hd'⟩ := hex
        rcases D.facts.reads i j o o' t ho ho' ht hd' with ⟨q1, q2⟩ | ⟨q1, q2⟩
        · obtain ⟨e', he', _⟩ := D.step j o' ho'
          rw [tmAt_new ops.toList tr s.tm i j t o' e' q1 (by simpa using ho') he' hd' fun k o'' hk hk' hdk => D.facts.dst k j o'' o' t (by simpa using hk') ho' hk hdk hd']
          refine hnew j o' t e' ho' (hpre j q2) hd' he' fun hej => ?_
          rcases Nat.lt_trichotomy j c with q | q | q
          · exact q
          · subst q
            rcases hc3 with q | ⟨_, q⟩
            · have := (Array.getElem?_eq_some_iff.1 ho').1
              omega
            · rw [hpre j q2] at q; cases q
          · exfalso
            rcases hc3 with q3 | ⟨⟨oc, hoc, hec⟩, q3⟩
            · have := (Array.getElem?_eq_some_iff.1 ho').1
              omega
            · obtain ⟨oj, hoj, hej⟩ := hej
              rw [ho'] at hoj
              cases hoj
              rcases D.facts.effs c j oc o' hoc ho' hec hej q with q4 | q4
              · have := I.clo j (hpre j q2) c q4
                rw [q3] at this; cases this
              · have := hpre c (q4.2.2 i o t ho hd' ht c oc hoc hec q)
                rw [q3] at this; cases this
        · have hLj : L j = false := by
            cases hq : L j with
            | false => rfl
            | true => have := I.clo j hq i q2; rw [hL] at this; cases this
          rw [tmAt_old ops.toList tr s.tm i t fun k o'' hk hk' hdk => by
            by_cases hkj : k = j
            · omega
            · exact D.facts.dst k j o'' o' t (by simpa using hk') ho' hkj hdk hd']
          refine I.old t fun k o'' hk' hdk => ?_
          by_cases hkj : k = j
          · subst hkj; exact hLj
          · exact absurd hd' (D.facts.dst k j o'' o' t hk' ho' hkj hdk)
      · rw [tmAt_old ops.toList tr s.tm i t fun k o'' hk hk' hdk => hex ⟨k, o'', by simpa using hk', hdk⟩]
        exact I.old t fun k o'' hk' hdk => absurd ⟨k, o'', hk', hdk⟩ hex
    -- the operands
    let ρX : Operand → A := fun x => match x with | .tmp t => if t ∈ readsOf ops o then lk t (tmAt ops.toList tr s.tm i) else .undef | x => opd C.gl (tmAt ops.toList tr s.tm i) x
    have hρX : ∀ x, VR w g (ρX x) (a.eval x) := fun x => by
      cases x with
      | tmp t =>
        show VR w g (if t ∈ readsOf ops o then _ else _) _
        split
        · rename_i hin; exact hreads t hin
        · rw [VR]; trivial
      | const v => exact VR_ofV v
      | global n => exact hsr.gl n
      | func f =>
        show VR w g (.fn f []) (.func (.func f) #[] #[])
        rw [VR]
        exact ⟨[], rfl, VRs.mk_nil⟩
    have hagree : ∀ x ∈ o.op.operands.toList, opd C.gl (tmAt ops.toList tr s.tm i) x = ρX x := fun x hx => by
      cases x with
      | tmp t =>
        show lk t _ = if t ∈ readsOf ops o then _ else _
        rw [if_pos]
        unfold readsOf
        rw [List.mem_append]
        exact .inl (List.mem_filterMap.2 ⟨.tmp t, hx, rfl⟩)
      | const v => rfl
      | global n => rfl
      | func f => rfl
    -- it does not wait for the one that panics
    rcases hstep with ⟨hstep, hne0⟩ | ⟨p, b, mp, hpo, hin, _⟩ | ⟨b, mp, hpo, _, hpan⟩
    case inr.inl =>
      have h1 := I.np p b mp hpo
      rw [hpre p hin] at h1
      cases h1
    case inr.inr =>
      obtain ⟨hw, gop, args, tys, hh, caps, hop, hfn, hcall⟩ := hpan
      have hwant := want_sound' (ops := ops) rfl hw hreads
      simp only [wpOps, ho, hwant, if_true]
      refine .inl ?_
      have hei : effAt ops i := ⟨o, ho, by rw [hop]; rfl⟩
      have hcc : c = i := by
        rcases Nat.lt_trichotomy c i with q | q | q
        · rcases hc3 with h | ⟨⟨oc, hoc, hec⟩, hLc⟩
          · omega
          · obtain ⟨o2, ho2, he2⟩ := hei
            rcases D.facts.effs c i oc o2 hoc ho2 hec he2 q with q4 | ⟨⟨T, q4⟩, _⟩
            · have := hpre c q4
              rw [hLc] at this; cases this
            · rw [ho] at ho2
              cases ho2
              rw [hop] at q4; cases q4
        · exact q
        · have := hc2 i q hei
          rw [hL] at this; cases this
      subst hcc
      have hgm : gop ∈ o.op.operands.toList := by rw [hop]; simp [Op.operands, Call.operands]
      have hgv := hρX gop
      rw [← hagree gop hgm, hfn, VR] at hgv
      obtain ⟨us, hgv, hus⟩ := hgv
      obtain ⟨hcb, hcalls⟩ := hcall
      have hargs : VRs w g (args.toList.map (opd C.gl (tmAt ops.toList tr s.tm c)) ++ caps) (args.toList.map a.eval ++ us) := by
        rw [List.map_congr_left fun x hx => hagree x (by rw [hop]; simp only [Op.operands, Call.operands, Array.toList_append, List.mem_append]; exact .inr hx)]
        exact (VRs_map hρX).append hus
      unfold Oper.wp
      rw [run_call hop hgv hcb, Oper.upon_enter]
      have := hcalls w0 g w _ hsr hargs
      rw [show (args.toList.map a.eval ++ us).toArray = args.map a.eval ++ us.toArray from by apply Array.ext'; simp] at this
      refine this.mono fun en w' hR => ?_
      obtain ⟨g', hs', hx, hres⟩ := hR
      cases en with
      | returned v => exact hres.elim
      | panicked ch => exact hP c b mp L g a w g' w' ch hpo hi I hs' hx hres
      | outgrown => exact hres.elim
    have hnp : ∀ p b m, po = some (p, b, m) → p ≠ i := by
      rintro p b m hpo rfl
      exact hne0 b m hpo
    -- the memory
    have hci : effAt ops i → c = i ∨ (c < i ∧ AlOk ops d i o) := fun hei => by
      rcases Nat.lt_trichotomy c i with q | q | q
      · rcases hc3 with h | ⟨⟨oc, hoc, hec⟩, hLc⟩
        · omega
        · obtain ⟨o2, ho2, he2⟩ := hei
          rw [ho] at ho2
          cases ho2
          rcases D.facts.effs c i oc o hoc ho hec he2 q with q4 | q4
          · have := hpre c q4
            rw [hLc] at this; cases this
          · exact .inr ⟨q, q4⟩
      · exact .inl q
      · have := hc2 i q hei
        rw [hL] at this; cases this
    have hclo' : ∀ j, (if j = i then true else L j) = true → ∀ k ∈ d.pre.getD j [], (if k = i then true else L k) = true := fun j hj k hk => by
      split
      · rfl
      · split at hj
        · rename_i h1; subst h1; exact hpre k hk
        · exact I.clo j hj k hk
    have hnp' : ∀ p b m, po = some (p, b, m) → (if p = i then true else L p) = false := fun p b m hp => by rw [if_neg (hnp p b m hp)]; exact I.np p b m hp
    have hpd : ∀ (g' : Gh) (w' : World) (v : Value), Ext w g w' g' → ∀ j, c < j → effAt ops j → (if j = i then true else L j) = true → j ≠ i → PendAt C ops d w0 w1 j (B j) g' (a.put o.dst v) w' := fun g' w' v hx j hj hej hLj hji => by
      rw [if_neg hji] at hLj
      exact (hB1 j hj hej hLj).next D ho hji hx
    /- an effect whose turn it is -/
    have finE : c = i → ∀ (g' : Gh) (w' : World) (v : Value), Ext w g w' g' → VR w' g' e.v v → SR C.P C.gl w0 g' (memAt tr s'.m (i + 1)) w' → wpOps C.P ops Q r (a.put o.dst v) w' := fun hci g' w' v hx hv hs2 => by
      subst hci
      obtain ⟨g'', m1, m2, m3⟩ := advance D (L := fun j => if j = c then true else L j) (a := a.put o.dst v) (w := w') (w0 := w0) (w1 := w1) (g1 := g1) hclo' hnp' (ops.size - (c + 1)) (c + 1) g' (by omega) hs2 (fun k hk hek => by
          show (if k = c then true else L k) = true
          split
          · rfl
          · exact hc2 k (by omega) hek)
        (by
          have hN := NewOk.next D (c := c + 1) (fun j o' t e' q1 q2 q3 q4 q5 => hnew j o' t e' q1 q2 q3 q4 fun hej => by
            have := q5 hej
            rcases Nat.lt_or_ge j c with q | q
            · exact q
            · have : j = c := by omega
              subst this
              rw [hL] at q2; cases q2) I.size ho he hd hx.toExtB (fun _ => hv)
          exact hN) (I.ext.trans hx)
        ⟨B, fun j hj hej hLj => hpd g' w' v hx j (by omega) hej hLj (by omega), fun j k hj hej hLj hk hek hLk hjk => by
          have hLj : (if j = c then true else L j) = true := hLj
          have hLk : (if k = c then true else L k) = true := hLk
          rw [if_neg (by omega)] at hLj hLk
          exact hB2 j k (by omega) hej hLj (by omega) hek hLk hjk⟩
      refine rec_ _ g'' _ w' htop (I.next D ho hL hnp hpre ?_ m2 m1)
      refine ⟨fun b o hF => ?_, Nat.le_trans hx.nb m3.nb, fun i hi => ?_, fun i Lr hLr => ?_⟩
      · obtain ⟨q1, q2⟩ := hx.fx b o hF
        exact ⟨(m3.fx b o q1).1, q2⟩
      · rw [m3.bb i (Nat.lt_of_lt_of_le hi hx.nb), hx.bb i hi]
      · obtain ⟨L1, q1, q2, q3, q4⟩ := hx.rl i Lr hLr
        obtain ⟨L2, p1, p2, p3, p4⟩ := m3.rl i L1 q1
        refine ⟨L2, p1, Nat.le_trans q2 p2, fun e => ?_, p4.trans q4⟩
        have e1 : L1 = Lr := by omega
        have e2 : L2 = L1 := by omega
        exact ⟨(p3 e2).1.trans (q3 e1).1, (p3 e2).2.trans (q3 e1).2⟩
    /- what changes no memory -/
    have finN : ¬ effAt ops i → ∀ (g' : Gh) (w' : World) (v : Value), Ext w g w' g' → VR w' g' e.v v → SR C.P C.gl w0 g' (memAt tr s'.m c) w' → wpOps C.P ops Q r (a.put o.dst v) w' := fun hne g' w' v hx hv hs2 => by
      have hic : i ≠ c ∨ c = ops.size := by
        by_cases h : i = c
        · subst h
          rcases hc3 with q | ⟨q, _⟩
          · exact .inr q
          · exact absurd q hne
        · exact .inl h
      refine rec_ _ g' _ w' htop (I.next D ho hL hnp hpre hx.toExtB (I.ext.trans hx) ⟨c, hc1, fun k hk hek => ?_, ?_, hs2, NewOk.next D hnew I.size ho he hd hx.toExtB (fun _ => hv), B, fun j hj hej hLj => hpd g' w' v hx j hj hej hLj (fun q => hne (by rw [← q]; exact hej)), fun j k hj hej hLj hk hek hLk hjk => ?_⟩)
      · show (if k = i then true else L k) = true
        split
        · rfl
        · exact hc2 k hk hek
      · rcases hc3 with q | ⟨q1, q2⟩
        · exact .inl q
        · exact .inr ⟨q1, by show (if c = i then true else L c) = false; rw [if_neg (fun q => hne (by rw [← q]; exact q1))]; exact q2⟩
      · have hLj : (if j = i then true else L j) = true := hLj
        have hLk : (if k = i then true else L k) = true := hLk
        rw [if_neg (fun q => hne (by rw [← q]; exact hej))] at hLj
        rw [if_neg (fun q => hne (by rw [← q]; exact hek))] at hLk
        exact hB2 j k hj hej hLj hk hek hLk hjk
    rcases hstep with ⟨hw, hv, hm1, hkd⟩ | ⟨hw, hrun⟩
    · -- it does not run
      have hwant := want_sound' (ops := ops) rfl hw hreads
      simp only [wpOps, ho, hwant, Bool.false_eq_true, if_false]
      have hvu : VR w g e.v undef := by rw [hv, VR]; exact ⟨[], rfl, VRs.mk_nil⟩
      by_cases hei : effAt ops i
      · rcases hci hei with q | ⟨_, q⟩
        · refine finE q g w undef (Ext.refl _ _) hvu ?_
          rw [hm1]
          rw [q] at hsr
          exact hsr
        · exfalso
          unfold wantA at hw
          rw [q.2.1] at hw
          cases hw
      · exact finN hei g w undef (Ext.refl _ _) hvu hsr
    · have hwant := want_sound' (ops := ops) rfl hw hreads
      simp only [wpOps, ho, hwant, if_true]
      refine .inl ?_
      have upon : ∀ (b : A) (m' : Mem), b = e.v → Good C.P C.gl w0 w g m' b ((execOp a.eval o).run C.P w) → (∀ g' w' v, Ext w g w' g' → VR w' g' e.v v → SR C.P C.gl w0 g' m' w' → wpOps C.P ops Q r (a.put o.dst v) w') → o.wp C.P a w (wpOps C.P ops Q r) Q := by
        rintro b m' rfl ⟨v, w', g', hr, hv, hs', hx⟩ hm
        unfold Oper.wp
        rcases hr with hr | ⟨hr, rfl⟩
        · rw [hr]; exact hm g' w' v hx hv hs'
        · rw [hr]; exact hm g' w' undef hx hv hs'
      rcases hrun with ⟨gop, args, tys, hh, caps, hop, hfn, hcall, hkd⟩ | ⟨hnc, hopA, hkd⟩
      · -- a call
        have hei : effAt ops i := ⟨o, ho, by rw [hop]; rfl⟩
        have hcc : c = i := by
          rcases hci hei with q | ⟨_, ⟨T, q⟩, _⟩
          · exact q
          · rw [hop] at q; cases q
        subst hcc
        have hgm : gop ∈ o.op.operands.toList := by rw [hop]; simp [Op.operands, Call.operands]
        have hgv := hρX gop
        rw [← hagree gop hgm, hfn, VR] at hgv
        obtain ⟨us, hgv, hus⟩ := hgv
        obtain ⟨hcb, hcalls⟩ := hcall
        have hargs : VRs w g (args.toList.map (opd C.gl (tmAt ops.toList tr s.tm c)) ++ caps) (args.toList.map a.eval ++ us) := by
          rw [List.map_congr_left fun x hx => hagree x (by rw [hop]; simp only [Op.operands, Call.operands, Array.toList_append, List.mem_append]; exact .inr hx)]
          exact (VRs_map hρX).append hus
        unfold Oper.wp
        rw [run_call hop hgv hcb, Oper.upon_enter]
        have := hcalls w0 g w _ hsr hargs
        rw [show (args.toList.map a.eval ++ us).toArray = args.map a.eval ++ us.toArray from by apply Array.ext'; simp] at this
        refine this.mono fun en w' hR => ?_
        obtain ⟨g', hs', hx, hres⟩ := hR
        cases en with
        | returned v => exact finE rfl g' w' v hx hres hs'
        | panicked ch => exact hres.elim
        | outgrown => exact hres.elim
      · rw [opA_congr hagree] at hopA
        by_cases heo : isEff o.op = true
        · have hei : effAt ops i := ⟨o, ho, heo⟩
          rcases hci hei with hcc | ⟨hcc, hal⟩
          · have hsr' := hsr
            rw [hcc] at hsr'
            exact upon _ _ rfl (opA_sound hsr' o hopA hρX) (finE hcc)
          · -- an allocation that comes early
            obtain ⟨⟨T, hT⟩, hgn, _⟩ := hal
            have hopA' := hopA
            rw [hT] at hopA'
            simp only [opA] at hopA'
            obtain ⟨z, hz, _⟩ := Option.bind_eq_some_iff.1 hopA'
            obtain ⟨zv, hzr, hzz⟩ := run_zero (w := w) hz
            obtain ⟨n1, n2, n3⟩ := hsr.newLoose (.cells zv.cells T)
            have hr : (execOp a.eval o).run C.P w = .ok (.value (.pointer (some ⟨w.heap.size, 0, none⟩))) (w.alloc (.cells zv.cells T)) := by
              simp only [execOp, hT, Instr.alloc, Sem.run_bind, hzr, Result.andThen_ok, newVar, newRow, run_newObj, Sem.run_pure]
              rfl
            unfold Oper.wp
            rw [hr]
            show wpOps C.P ops Q r (a.put o.dst (.pointer (some ⟨w.heap.size, 0, none⟩))) (w.alloc (.cells zv.cells T))
            have hsz0 : w1.heap.size ≤ w.heap.size := I.ext.sz
            have hlast : (w.alloc (.cells zv.cells T)).heap[w.heap.size]? = some (.cells zv.cells T) := heap_new _ _
            refine rec_ _ g _ _ htop (I.next D ho hL hnp hpre n2.toExtB (I.ext.trans n2) ⟨c, hc1, fun k hk hek => ?_, ?_, n1, NewOk.next D hnew I.size ho he hd n2.toExtB (fun q => by have := q hei; omega), fun j => if j = i then w.heap.size else B j, fun j hj hej hLj => ?_, fun j k hj hej hLj hk hek hLk hjk => ?_⟩)
            · show (if k = i then true else L k) = true
              split
              · rfl
              · exact hc2 k hk hek
            · rcases hc3 with q | ⟨q1, q2⟩
              · exact .inl q
              · exact .inr ⟨q1, by show (if c = i then true else L c) = false; rw [if_neg (by omega)]; exact q2⟩
            · by_cases hji : j = i
              · subst hji
                simp only [if_true]
                refine ⟨hsr.szB, hsz0, by simp, n3, o, T, zv, ho, hT, hgn, fun t ht => ?_, hlast, by rw [hz, hzz]⟩
                rw [ht] at hd ⊢
                simp only [Option.all_some, decide_eq_true_eq] at hd
                exact getD_put_same (by rw [I.size]; exact hd)
              · simp only [hji, if_false]
                exact hpd g _ _ n2 j hj hej hLj hji
            · have hlt : ∀ j, c < j → effAt ops j → (if j = i then true else L j) = true → j ≠ i → B j < w.heap.size := fun j q1 q2 q3 q4 => by
                rw [if_neg q4] at q3
                exact (hB1 j q1 q2 q3).lt
              by_cases hji : j = i
              · by_cases hki : k = i
                · rw [hji, hki]
                · simp only [hji, hki, if_true, if_false] at hjk
                  have := hlt k hk hek hLk hki
                  omega
              · by_cases hki : k = i
                · simp only [hji, hki, if_true, if_false] at hjk
                  have := hlt j hj hej hLj hji
                  omega
                · simp only [hji, hki, if_false] at hjk
                  have hLj : (if j = i then true else L j) = true := hLj
                  have hLk : (if k = i then true else L k) = true := hLk
                  rw [if_neg hji] at hLj
                  rw [if_neg hki] at hLk
                  exact hB2 j k hj hej hLj hk hek hLk hjk
        · have hei : ¬ effAt ops i := fun ⟨o2, ho2, he2⟩ => by rw [ho] at ho2; cases ho2; exact heo he2
          have heo' : isEff o.op = false := by simpa using heo
          by_cases hl : ∃ t x, o.op = .load t x
          · obtain ⟨t, x, hl⟩ := hl
            have hload : loadA C.P t (ρX x) (memAt tr s'.m c) = some e.v := by
              have hent : tr[i]? = some ⟨.load t (opd C.gl (tmAt ops.toList tr s.tm i) x), e.v, e.m⟩ := by
                rw [he]
                obtain ⟨kd, v, m⟩ := e
                simp only at hkd ⊢
                rw [hkd, hl]
                rfl
              have hchk := chkNeed_mem D.need (D.facts.need i o t x ho hl) _ _ _ _ hent
              have hxa := hagree x (by rw [hl]; simp [Op.operands])
              rw [hxa] at hchk
              have hreq := reqOf_mem (pre := d.pre) (p := i) (c := c) (n := ops.size) I.clo hL hpre (effIdx ops) (fun k hk hkc => hc2 k hkc (effIdx_mem.1 hk)) (List.Pairwise.filter _ (List.pairwise_lt_range))
              rcases hc3 with q | ⟨q1, q2⟩
              · have := hchk.2 (hreq.2 fun k hk => hc2 k (by
                  have := effIdx_mem.1 hk
                  obtain ⟨ok, hok, _⟩ := this
                  have := (Array.getElem?_eq_some_iff.1 hok).1
                  omega) (effIdx_mem.1 hk))
                have hm : memAt tr s'.m c = s'.m := by
                  unfold memAt
                  rw [List.getElem?_eq_none (by rw [D.valid.length]; simp; omega)]
                  rfl
                rw [hm]
                exact this
              · have q1' := q1
                obtain ⟨oc, hoc, _⟩ := q1'
                obtain ⟨ec, hec, hecm, _⟩ := D.step c oc hoc
                have := hchk.1 c (hreq.1 ⟨effIdx_mem.2 q1, q2⟩) ec hec
                rw [← hecm]
                exact this
            have hop' : opA C.P o.op ρX (memAt tr s'.m c) = some (e.v, memAt tr s'.m c) := by
              rw [hl]
              simp only [opA, hload, Option.map_some]
            exact upon _ _ rfl (opA_sound hsr o hop' hρX) (finN hei)
          · have := (opA_mem (m' := memAt tr s'.m c) heo' (fun t x q => hl ⟨t, x, q⟩) hopA).2
            exact upon _ _ rfl (opA_sound hsr o this hρX) (finN hei)

/-- A region that draws. -/
theorem draw_sound (hm : C.P.follows .mixedOrders = true) {id : Nat} {k : Option (List Nat)} {w : World} {g : Gh} {a : Act} {x : Ex × St} {ok : Bool} {tr0 : List Ent} {y : Option (A × Mem) × St} (hok : ok = true → drawOk ops d = true) (hr : DrawR C nt ops.toList ops.toList s tr0 y) (he : drawEnd C.P C.gl nt ok d ops.toList tr0 k y = some x)
    (hsz : a.tmps.size = nt) (hs : SR C.P C.gl w0 g s.m w) (ht : TmR w g s.tm a.tmps) : (Code.region id ops true).wp C.P (Post C w0 w g nt a.defers x) a w := by
  have main : ∀ (po : Option (Nat × A × Mem)) (s' : St) (tr : List Ent), Valid C nt d po ops.toList 0 ops.toList s tr s' → ok = true → chkNeed C.P tr s'.m d.need → (∀ p b m, po = some (p, b, m) → p < ops.size) →
      (∀ L g' a' w', po = none → (∀ i, i < ops.size → L i = true) → Inv C nt ops d po s s' tr w0 a.defers w g L g' a' w' → Drawn C nt ops d po s s' tr → SR C.P C.gl w0 g' s'.m w' → (∀ (i : Nat) (o : Oper) (t : Nat) (e : Ent), ops[i]? = some o → o.dst = some t → tr[i]? = some e → VR w' g' e.v (a'.tmps.getD t undef)) → Post C w0 w g nt a.defers x .normal a' w') →
      (∀ p b m L g1 a' w1 g' w' ch, po = some (p, b, m) → Inv C nt ops d po s s' tr w0 a.defers w g L g1 a' w1 → Drawn C nt ops d po s s' tr → SR C.P C.gl w0 g' m w' → Ext w1 g1 w' g' → ResR w' g' (.pan b) (.panicked ch) → Post C w0 w g nt a.defers x (.panic ch) a' w') →
      (Code.region id ops true).wp C.P (Post C w0 w g nt a.defers x) a w := by
    intro po s' tr hv c1 c2 hlt hN hPn
    replace c1 := hok c1
    have F := drawOk_facts c1
    have D : Drawn C nt ops d po s s' tr := ⟨hv, F, c2⟩
    obtain ⟨hsd, hed⟩ := hs.drew
    refine wp_region_draw fun t => ?_
    refine sched_sound D (w0 := w0) (w1 := w) (g1 := g) (df := a.defers) ?_ ?_ _ (fun _ => false) g a w.drew (schedule_topo ops F.lt _ hm t) ?_
    · intro L g' a' w' hall I
      obtain ⟨c, h1, h2, h3, h4, h5, _⟩ := I.mem
      have hmem : memAt tr s'.m c = s'.m := by
        rcases h3 with q | ⟨⟨oc, hoc, _⟩, q⟩
        · unfold memAt
          rw [List.getElem?_eq_none (by rw [hv.length]; simp; omega)]
          rfl
        · rw [hall c (Array.getElem?_eq_some_iff.1 hoc).1] at q
          cases q
      rw [hmem] at h4
      have hpo : po = none := by
        cases hq : po with
        | none => rfl
        | some z =>
          obtain ⟨p, b, m⟩ := z
          have h5 := I.np p b m hq
          rw [hall p (hlt p b m hq)] at h5; cases h5
      refine hN L g' a' w' hpo hall I D h4 fun i o t e q1 q2 q3 => h5 i o t e q1 (hall i (Array.getElem?_eq_some_iff.1 q1).1) q2 q3 fun _ => ?_
      rcases h3 with q | ⟨⟨oc, hoc, _⟩, q⟩
      · have := (Array.getElem?_eq_some_iff.1 q1).1
        omega
      · rw [hall c (Array.getElem?_eq_some_iff.1 hoc).1] at q
        cases q
    · intro p b m L g1 a' w1 g' w' ch hpo _ I h1 h2 h3
      exact hPn p b m L g1 a' w1 g' w' ch hpo I D h1 h2 h3
    · refine ⟨hsz, rfl, (fun i hi => by cases hi), fun t _ => VR.mono hed _ _ (ht t), ?_, hed, fun _ _ _ _ => rfl⟩
      obtain ⟨c, h1, h2, h3, h4⟩ := search (effAt ops) ops.size ops.size 0 (by omega)
      refine ⟨c, h2, fun k hk hek => absurd hek (h3 k (Nat.zero_le _) hk), ?_, ?_, (fun i o t e _ hi => by cases hi), fun _ => 0, (fun i _ _ hi => by cases hi), fun i j _ _ hi => by cases hi⟩
      · rcases h4 with q | q
        · exact .inl q
        · exact .inr ⟨q, rfl⟩
      · have := D.same 0 c (by omega) fun k _ hk hek => h3 k (Nat.zero_le _) (by omega) hek
        rw [Nat.zero_add] at this
        rw [this, hv.head]
        exact hsd
  obtain ⟨po, s1⟩ := y
  cases po with
  | none =>
    unfold drawEnd at he
    simp only at he
    split at he
    · rename_i hc
      simp only [Option.some.injEq] at he
      subst he
      have hv := hr.valid (d := d) (i := 0)
      refine main none s1 tr0 hv hc.1 hc.2 (fun p b m e => by cases e) ?_ (fun p b m L g1 a' w1 g' w' ch e => by cases e)
      intro L g' a' w' _ hall I D h4 hfin
      have F := D.facts
      refine ⟨g', h4, I.ext, TmR.prune _ fun t => ?_, I.size, I.dfr, trivial⟩
      rw [hv.last]
      by_cases hex : ∃ (j : Nat) (o' : Oper), ops[j]? = some o' ∧ o'.dst = some t
      · obtain ⟨j, o', ho', hd'⟩ := hex
        obtain ⟨e', he', _⟩ := D.step j o' ho'
        have hj := (Array.getElem?_eq_some_iff.1 ho').1
        rw [tmAt_new ops.toList tr0 s.tm ops.toList.length j t o' e' (by simpa using hj) (by simpa using ho') he' hd' fun k o'' hk hk' hdk => F.dst k j o'' o' t (by simpa using hk') ho' hk hdk hd']
        exact hfin j o' t e' ho' hd' he'
      · rw [tmAt_old ops.toList tr0 s.tm _ t fun k o'' hk hk' hdk => hex ⟨k, o'', by simpa using hk', hdk⟩]
        exact I.old t fun k o'' hk' hdk => absurd ⟨k, o'', hk', hdk⟩ hex
    · cases he
  | some z =>
    obtain ⟨b, mp⟩ := z
    unfold drawEnd at he
    simp only at he
    obtain ⟨⟨tr2, s'⟩, h1, h2⟩ := Option.bind_eq_some_iff.1 he
    simp only at h2
    split at h2
    · rename_i hc
      simp only [Option.some.injEq] at h2
      subst h2
      have hpos := hr.pan_pos
      have hv := hr.valid_pan (d := d) (i := 0) (p := tr0.length - 1) (tr2 := tr2) (s' := s') (by omega) (by rw [Nat.zero_add]; exact h1)
      have hvl := hv.length
      refine main _ s' _ hv hc.1 hc.2 (fun p b m e => by simp only [Option.some.injEq, Prod.mk.injEq] at e; simp at hvl; omega) (fun L g' a' w' e => by cases e) ?_
      intro p b' m' L g1 a' w1 g' w' ch hpo I D h3 h4 h5
      simp only [Option.some.injEq, Prod.mk.injEq] at hpo
      obtain ⟨rfl, rfl, rfl⟩ := hpo
      refine ⟨g', h3, I.ext.trans h4, fun t => ?_, I.size, I.dfr, h5⟩
      have hmask : ∀ (l : List Oper) (tm : List (Nat × A)), (∃ o ∈ l, o.dst = some t) → lk t ((l.filterMap fun o => o.dst.map fun t => (t, A.undef)) ++ tm) = .undef := by
        intro l tm
        induction l with
        | nil => rintro ⟨o, ho, _⟩; cases ho
        | cons o r ih =>
          intro hex
          cases hd : o.dst with
          | none =>
            simp only [List.filterMap_cons, hd, Option.map_none]
            refine ih ?_
            obtain ⟨o', ho', hd'⟩ := hex
            rcases List.mem_cons.1 ho' with rfl | h
            · rw [hd] at hd'; cases hd'
            · exact ⟨o', h, hd'⟩
          | some u =>
            simp only [List.filterMap_cons, hd, Option.map_some, List.cons_append, lk]
            split
            · rfl
            · rename_i hut
              refine ih ?_
              obtain ⟨o', ho', hd'⟩ := hex
              rcases List.mem_cons.1 ho' with rfl | h
              · rw [hd] at hd'; exact absurd (Option.some.inj hd') hut
              · exact ⟨o', h, hd'⟩
      have hmask2 : ∀ (l : List Oper) (tm : List (Nat × A)), (∀ o ∈ l, o.dst ≠ some t) → lk t ((l.filterMap fun o => o.dst.map fun t => (t, A.undef)) ++ tm) = lk t tm := by
        intro l tm
        induction l with
        | nil => intro _; rfl
        | cons o r ih =>
          intro hne
          cases hd : o.dst with
          | none =>
            simp only [List.filterMap_cons, hd, Option.map_none]
            exact ih fun o' ho' => hne o' (by simp [ho'])
          | some u =>
            have hut : ¬ u = t := fun e => hne o (by simp) (by rw [hd, e])
            simp only [List.filterMap_cons, hd, Option.map_some, List.cons_append, lk, if_neg hut]
            exact ih fun o' ho' => hne o' (by simp [ho'])
      by_cases hex : ∃ o ∈ ops.toList, o.dst = some t
      · show VR _ _ (lk t (maskTm ops.toList s1.tm)) _
        rw [maskTm, hmask _ _ hex, VR]
        trivial
      · have hno : ∀ o ∈ ops.toList, o.dst ≠ some t := fun o ho e => hex ⟨o, ho, e⟩
        show VR _ _ (lk t (maskTm ops.toList s1.tm)) _
        rw [maskTm, hmask2 _ _ hno, hr.slots hno]
        refine VR.mono h4 _ _ (I.old t fun k o'' hk' hdk => absurd hdk (hno o'' ?_))
        have := (Array.getElem?_eq_some_iff.1 hk')
        rw [← this.2]
        exact Array.getElem_mem_toList this.1
    · cases h2
end
end AE
end Go.Proofs.YthoomlenmgdebaaGreatDoor
