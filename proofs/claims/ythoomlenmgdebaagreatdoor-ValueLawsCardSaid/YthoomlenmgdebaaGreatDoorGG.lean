/- The program's merging of elements; evaluated. -/
import Derived.Test.YthoomlenmgdebaaGreatDoorGF
import Derived.Test.YthoomlenmgdebaaGreatDoorGE
set_option linter.unusedVariables false
set_option linter.unusedSimpArgs false
namespace Go.Proofs.YthoomlenmgdebaaGreatDoor
namespace AE
open Go

theorem perm_sum {l r : List Int} (h : l.Perm r) : l.sum = r.sum := by
  induction h with
  | nil => rfl
  | cons x _ ih => simp [ih]
  | swap x y l => simp only [List.sum_cons]; omega
  | trans _ _ ih1 ih2 => rw [ih1, ih2]
theorem insP_len (u : Val) (w : Int) : ∀ o : List (Val × Int), (insP u w o).length ≤ o.length + 1
  | [] => by rw [insP]; simp
  | p :: r => by
    have := insP_len u w r
    rw [insP]
    split
    · simp
    · split
      · simp
      · simp; omega
def elA (n : Nat) (ps : List (Val × Int)) : A := if ps.length = 0 then .nils else .sl n (ps.length * 4) 0 ps.length
def elR (ps : List (Val × Int)) : List Row := if ps.length = 0 then [] else [⟨144, elemsC ps⟩]
theorem ev_vMerged0 (f : Fun) (hk : setsK f.kind = true) (h7 : f.kind ≠ 7) (m : Mem) : evCall C0 88 [.agg f.cells, .agg [.int .i64 0, .nils, .isl false 0 []]] m = some (.ret (.agg (Val.mk 0 [] []).cells), m) := by
  rw [evCall_body C0 (C0_ext _ (by decide)) (by rw [C0_P]; exact Tryz.func88) rfl (by rw [C0_ann]; rfl) (by decide) (by simp [Tryz.f88])]
  simp [Tryz.f88, a88, reg88, loop88, draw88, dok88]
  rw [evCode_loop]
  simp [round, Tryz.f88, a88, reg88, loop88, draw88, dok88, ev_SortFunc, sortFG_nil]
  rw [evCode_loop]
  simp [round, Tryz.f88, a88, reg88, loop88, draw88, dok88, h7]
set_option maxHeartbeats 8000000 in
theorem ev_vMerged (f : Fun) (xs : List Val) (ws : List Int) (ia : Nat) (hx0 : 0 < xs.length) (hk : setsK f.kind = true) (hb : ∀ x, x ∈ xs → x.nodes ≤ 1000000 ∧ slimV x) (hl : xs.length ≤ 1000000) (hw : wtd f.kind = true → ws.length = xs.length ∧ (∀ w, w ∈ ws → 1 ≤ w) ∧ ws.sum ≤ 1048576) (m : Mem) (hRa : m.rw[ia]? = some ⟨28, Val.cellsL xs⟩) :
    evCall C0 88 [.agg f.cells, .agg [.int .i64 0, .sl ia (xs.length * 3) 0 xs.length, .isl false ws.length (ints ws)]] m = some (.ret (.agg (mergeV f.kind 0 xs ws).cells), m) := by
  have hia : ia < m.rw.length := (List.getElem?_eq_some_iff.1 hRa).1
  have hia2 : ∀ x, ia < m.rw.length + x := fun x => by omega
  have hRa2 := (List.getElem?_eq_some_iff.1 hRa).2
  have hwl : (wsOf f.kind xs ws).length = xs.length := by
    unfold wsOf
    cases hwk : wtd f.kind
    · simp
    · simpa using (hw hwk).1
  have hk5 : wtd f.kind = false → f.kind = 5 := fun h => by
    unfold setsK at hk
    rw [h, Bool.or_false] at hk
    simpa using hk
  have hk5' : wtd f.kind = true → ¬ f.kind = 5 := fun h h5 => by rw [h5] at h; exact absurd h (by decide)
  generalize hps : xs.zip (wsOf f.kind xs ws) = ps
  have hpl : ps.length = xs.length := by rw [← hps, List.length_zip]; omega
  have hpf : ps.map (·.1) = xs := by rw [← hps]; exact List.map_fst_zip (by omega)
  have hsnd : ps.map (·.2) = wsOf f.kind xs ws := by rw [← hps]; exact List.map_snd_zip (by omega)
  have hmem : ∀ p, p ∈ ps → p.1.nodes ≤ 1000000000 ∧ slimV p.1 := fun p hp => by
    have h1 : p.1 ∈ xs := by rw [← hpf]; exact List.mem_map_of_mem hp
    exact ⟨by have := (hb _ h1).1; omega, (hb _ h1).2⟩
  have hsort : ∀ bx, evCall C0 118 [.sl m.rw.length (ps.length * 4) 0 ps.length, .fn 119 []] ⟨bx, m.rw ++ [⟨144, elemsC ps⟩]⟩ = some (.ret (.tup []), ⟨bx, m.rw ++ [⟨144, elemsC (sortP ps)⟩]⟩) := fun bx => by
    rw [ev_SortFunc, sortFG_row (ps := ps) (t := 144) (by simp) rfl rfl (by omega) (by omega) hmem]
    simp
  rw [evCall_body C0 (C0_ext _ (by decide)) (by rw [C0_P]; exact Tryz.func88) rfl (by rw [C0_ann]; rfl) (by decide) (by simp [Tryz.f88])]
  simp [Tryz.f88, a88, reg88, loop88, draw88, dok88, at_lt, hia, hia2, hRa2]
  refine loop_in (fun x : Nat × List (Val × Int) => ⟨[(2, .ptr m.bx.length 0), (3, .ptr (m.bx.length + 1) 0), (4, .ptr (m.bx.length + 2) 0), (5, elA m.rw.length x.2), (16, .sl ia (xs.length * 3) 0 xs.length), (17, .int .i64 xs.length), (18, .int .i64 x.1)],
      ⟨m.bx ++ [f.cells, [.int .i64 0, .sl ia (xs.length * 3) 0 xs.length, .isl false ws.length (ints ws)], [.int .i64 0, .nils, .nils]], m.rw ++ elR x.2⟩⟩)
    (fun x => some (.ret (.agg (mergeV f.kind 0 xs ws).cells), m)) (fun x => xs.length - x.1)
    (fun x => x.1 ≤ xs.length ∧ x.2 = ps.take x.1) (0, []) ?_ ?_ ?_ ?_ ?_
  · simp [elA, elR]
  · simp
  · simp
  · intro x; simp [Tryz.f88, a88, reg88, loop88, draw88, dok88]
  · rintro ⟨i, o⟩ ⟨hi, ho⟩ hrec
    simp only at hi ho ⊢
    by_cases hlt : i < xs.length
    · have w2 : IntKind.i64.wrap (i + 1) = i + 1 := wrap_id _ (by omega)
      have h3 : (i + 1) * 3 ≤ xs.length * 3 := by omega
      have h3' : i * 3 + 3 ≤ xs.length * 3 := by omega
      have hip : i < ps.length := by omega
      have hol : o.length = i := by rw [ho, List.length_take]; omega
      have hp1 : ps[i].1 = xs[i] := by simp only [← hpf, List.getElem_map]
      have hnx : ps.take (i + 1) = o ++ [ps[i]] := by rw [ho, List.take_succ_eq_append_getElem hip]
      have hec := elemC_eq ps[i]
      rw [hp1] at hec
      have hp2 : ps[i].2 = (wsOf f.kind xs ws)[i]'(by omega) := by simp only [← hsnd, List.getElem_map]
      have helc := elemsC_closed
      have helf := elemsC_flat
      have hes1 : (o.length + 1) * 64 ≤ 70368744177664 := by omega
      have hes2 : o.length ≤ 70368744177663 := by omega
      have hes3 := elemsC_length o
      cases hwk : wtd f.kind
      · have h5 := hk5 hwk
        have hz : ps[i].2 = 0 := by rw [hp2]; simp [wsOf, hwk]
        rw [hz] at hec
        by_cases ho0 : o.length = 0
        · have hoe : o = [] := List.eq_nil_of_length_eq_zero ho0
          simp [round, Tryz.f88, a88, reg88, loop88, draw88, dok88, at_lt, hia, hia2, hRa2, hlt, w2, h3, h3', h5, elA, elR, hoe, app_at, app_set, app_at0, app_set0, endRound_R0, helc]
          refine hrec (i + 1, [ps[i]]) _ _ ?_ ?_ ?_ ?_
          · simp; omega
          · exact ⟨by simp only; omega, by rw [hnx, hoe]; rfl⟩
          · simp [elA, elR, elemsC_one, hec, h5]
          · simp [h5]
        · have hoz : ¬ o = [] := fun h => ho0 (by rw [h]; rfl)
          simp [round, Tryz.f88, a88, reg88, loop88, draw88, dok88, at_lt, hia, hia2, hRa2, hlt, w2, h3, h3', h5, elA, elR, ho0, hoz, app_at, app_set, app_at0, app_set0, endRound_J, helc, hes1, hes2, hes3]
          refine hrec (i + 1, o ++ [ps[i]]) _ _ ?_ ?_ ?_ ?_
          · simp; omega
          · exact ⟨by simp only; omega, by rw [hnx]⟩
          · simp [elA, elR, elemsC_append, elemsC_one, hec, h5]
          · simp [h5]
      · have h5 := hk5' hwk
        have hiw : i < ws.length := by have := (hw hwk).1; omega
        have hz : ps[i].2 = ws[i] := by rw [hp2]; simp [wsOf, hwk]
        rw [hz] at hec
        have hat := ints_at hiw
        by_cases ho0 : o.length = 0
        · have hoe : o = [] := List.eq_nil_of_length_eq_zero ho0
          simp [round, Tryz.f88, a88, reg88, loop88, draw88, dok88, at_lt, hia, hia2, hRa2, hlt, w2, h3, h3', h5, elA, elR, hoe, app_at, app_set, app_at0, app_set0, endRound_R0, helc, hat, hiw, show i + 1 ≤ ws.length by omega]
          refine hrec (i + 1, [ps[i]]) _ _ ?_ ?_ ?_ ?_
          · simp; omega
          · exact ⟨by simp only; omega, by rw [hnx, hoe]; rfl⟩
          · simp [elA, elR, elemsC_one, hec]
          · simp
        · have hoz : ¬ o = [] := fun h => ho0 (by rw [h]; rfl)
          simp [round, Tryz.f88, a88, reg88, loop88, draw88, dok88, at_lt, hia, hia2, hRa2, hlt, w2, h3, h3', h5, elA, elR, ho0, hoz, app_at, app_set, app_at0, app_set0, endRound_J, helc, hes1, hes2, hes3, hat, hiw, show i + 1 ≤ ws.length by omega]
          refine hrec (i + 1, o ++ [ps[i]]) _ _ ?_ ?_ ?_ ?_
          · simp; omega
          · exact ⟨by simp only; omega, by rw [hnx]⟩
          · simp [elA, elR, elemsC_append, elemsC_one, hec]
          · simp
    · clear hrec
      have hie : i = xs.length := by omega
      subst hie
      have hoe : o = ps := by rw [ho, List.take_of_length_le (by omega)]
      rw [hoe]
      clear ho hoe o
      have hpe : ¬ ps.length = 0 := by omega
      have hpe' : ¬ ps = [] := fun h => hpe (by rw [h]; rfl)
      have hql := sortP_length ps
      have hqs := sortP_sorted ps
      have hqp := sortP_perm ps
      have hqn : ∀ p, p ∈ sortP ps → p.1.nodes ≤ 1000000000 ∧ slimV p.1 := fun p hp => hmem p (hqp.mem_iff.1 hp)
      have hmq : mergeF [] (sortP ps) = mergeP f.kind xs ws := by rw [merge_perm hqp, ← hps]; rfl
      have hqw : wtd f.kind = true → (∀ p, p ∈ sortP ps → 1 ≤ p.2) ∧ ((sortP ps).map (·.2)).sum ≤ 1048576 := fun h => by
        have hz : wsOf f.kind xs ws = ws := by unfold wsOf; rw [h, if_pos rfl]
        obtain ⟨h1, h2, h3⟩ := hw h
        refine ⟨fun p hp => h2 _ ?_, ?_⟩
        · rw [← hz, ← hsnd]
          exact List.mem_map_of_mem (hqp.mem_iff.1 hp)
        · have h4 : ((sortP ps).map (·.2)).sum = (ps.map (·.2)).sum := perm_sum (hqp.map _)
          rw [h4, hsnd, hz]
          exact h3
      have hqz : wtd f.kind = false → ∀ p, p ∈ sortP ps → p.2 = 0 := fun h p hp => by
        have h1 : p.2 ∈ ps.map (·.2) := List.mem_map_of_mem (hqp.mem_iff.1 hp)
        rw [hsnd] at h1
        unfold wsOf at h1
        rw [h] at h1
        simp at h1
        exact h1.2.symm
      simp [round, Tryz.f88, a88, reg88, loop88, draw88, dok88, elA, elR, hpe, hpe', hsort]
      clear hsort
      generalize sortP ps = qs at *
      refine loop_in (fun s : MgS => ⟨[(2, .ptr m.bx.length 0), (4, .ptr (m.bx.length + 2) 0), (9, .ptr (m.bx.length + 3) 0), (40, .sl m.rw.length (ps.length * 4) 0 ps.length), (41, .int .i64 ps.length), (42, .int .i64 s.i)],
          ⟨m.bx ++ [f.cells, [.int .i64 0, .sl ia (xs.length * 3) 0 xs.length, .isl false ws.length (ints ws)], [.int .i64 0, .nils, .nils], [.int .i64 0, mgA (m.rw.length + s.ja) s.o, mgW f.kind (m.rw.length + s.jw) s.o]], m.rw ++ s.J⟩⟩)
        (fun s => some (.ret (.agg (mergeV f.kind 0 xs ws).cells), m)) (fun s => ps.length - s.i)
        (fun s => s.i ≤ ps.length ∧ s.o.length ≤ s.i ∧ (0 < s.i → 0 < s.o.length) ∧ mergeF s.o (qs.drop s.i) = mergeF [] qs ∧ s.o.Pairwise LtP ∧ (∀ p, p ∈ s.o → ∀ q, q ∈ qs.drop s.i → cmpV p.1 q.1 ≤ 0) ∧ (∀ p, p ∈ s.o → p.1.nodes ≤ 1000000000 ∧ slimV p.1) ∧ MgOk f.kind m.rw.length s ∧ s.J[0]? = some ⟨144, elemsC qs⟩ ∧ (0 < s.o.length → 0 < s.ja) ∧ (0 < s.o.length → wtd f.kind = true → 0 < s.jw))
        ⟨0, [], [⟨144, elemsC qs⟩], 0, 0⟩ ?_ ?_ ?_ ?_ ?_
      · simp [mgA, mgW]
      · simp
      · refine ⟨by simp, by simp, by simp, rfl, List.Pairwise.nil, fun p hp => (by cases hp), fun p hp => (by cases hp), ⟨by simp [elemsC_closed], fun h => by simp at h, fun h => by simp at h, fun _ p hp => by cases hp⟩, rfl, fun h => by simp at h, fun h => by simp at h⟩
      · intro x; simp [Tryz.f88, a88, reg88, loop88, draw88, dok88]
      · rintro ⟨i, o, J, ja, jw⟩ ⟨hi, hol, hi0, hmg, hos, hle, hsm, ⟨hcl, hra, hrw, hps1⟩, hJ0, hja0, hjw0⟩ hrec
        simp only at hi hol hi0 hmg hos hle hsm hcl hra hrw hps1 hJ0 hja0 hjw0 ⊢
        have hJp : 0 < J.length := (List.getElem?_eq_some_iff.1 hJ0).1
        have hJ2 := (List.getElem?_eq_some_iff.1 hJ0).2
        by_cases hlt : i < ps.length
        · have w2 : IntKind.i64.wrap (i + 1) = i + 1 := wrap_id _ (by omega)
          have hiq : i < qs.length := by omega
          have h4 : (i + 1) * 4 ≤ ps.length * 4 := by omega
          have h4' : i * 4 + 4 ≤ ps.length * 4 := by omega
          have hat4 := at_elemsC qs i hiq
          have hqi := hqn _ (List.getElem_mem hiq)
          have hdr : qs.drop i = qs[i] :: qs.drop (i + 1) := List.drop_eq_getElem_cons hiq
          have hmg2 : mergeF (insP qs[i].1 qs[i].2 o) (qs.drop (i + 1)) = mergeF [] qs := by rw [← hmg, hdr]; rfl
          have hos2 := insP_sorted (u := qs[i].1) (w := qs[i].2) hos
          have hle2 : ∀ p, p ∈ o → cmpV p.1 qs[i].1 ≤ 0 := fun p hp => hle p hp _ (by rw [hdr]; exact List.mem_cons_self)
          have hnext : ∀ q, q ∈ qs.drop (i + 1) → cmpV qs[i].1 q.1 ≤ 0 := by
            have h1 := hqs.sublist (List.drop_sublist i qs)
            rw [hdr, List.pairwise_cons] at h1
            exact h1.1
          have hle3 : ∀ p, p ∈ insP qs[i].1 qs[i].2 o → ∀ q, q ∈ qs.drop (i + 1) → cmpV p.1 q.1 ≤ 0 := fun p hp q hq => by
            rcases insP_fst hp with h1 | ⟨r, hr, h1⟩
            · rw [h1]; exact hnext q hq
            · rw [h1]; exact hle r hr q (by rw [hdr]; exact List.mem_cons_of_mem _ hq)
          have hsm2 : ∀ p, p ∈ insP qs[i].1 qs[i].2 o → p.1.nodes ≤ 1000000000 ∧ slimV p.1 := fun p hp => by
            rcases insP_fst hp with h1 | ⟨r, hr, h1⟩
            · rw [h1]; exact hqi
            · rw [h1]; exact hsm r hr
          have hps2 : wtd f.kind = true → ∀ p, p ∈ insP qs[i].1 qs[i].2 o → 1 ≤ p.2 := fun h => insP_pos ((hqw h).1 _ (List.getElem_mem hiq)) (hps1 h)
          have hec := elemC_eq qs[i]
          have hw5 : wtd 5 = false := rfl
          have hine := insP_ne qs[i].1 qs[i].2 o
          have hine1 : 0 < (insP qs[i].1 qs[i].2 o).length := List.length_pos_iff.2 hine
          have hinl := insP_len qs[i].1 qs[i].2 o
          have hql4 := elemsC_length qs
          have hcle : ∀ nb nr, (elemC qs[i]).all (closed nb nr) = true := fun nb nr => by have := elemsC_closed nb nr [qs[i]]; rwa [elemsC_one] at this
          rw [hec] at hcle
          have hI : ∀ (J' : List Row) (ja' jw' : Nat), J'.all (fun r => r.cs.all (closed 0 0)) = true → J'[ja']? = some ⟨28, Val.cellsL ((insP qs[i].1 qs[i].2 o).map (·.1))⟩ → (wtd f.kind = true → J'[jw']? = some ⟨3, ints ((insP qs[i].1 qs[i].2 o).map (·.2))⟩ ∧ ja' ≠ jw') → J'[0]? = some ⟨144, elemsC qs⟩ → 0 < ja' → (wtd f.kind = true → 0 < jw') →
              (i + 1 ≤ ps.length ∧ (insP qs[i].1 qs[i].2 o).length ≤ i + 1 ∧ (0 < i + 1 → 0 < (insP qs[i].1 qs[i].2 o).length) ∧ mergeF (insP qs[i].1 qs[i].2 o) (qs.drop (i + 1)) = mergeF [] qs ∧ (insP qs[i].1 qs[i].2 o).Pairwise LtP ∧ (∀ p, p ∈ insP qs[i].1 qs[i].2 o → ∀ q, q ∈ qs.drop (i + 1) → cmpV p.1 q.1 ≤ 0) ∧ (∀ p, p ∈ insP qs[i].1 qs[i].2 o → p.1.nodes ≤ 1000000000 ∧ slimV p.1) ∧ MgOk f.kind m.rw.length ⟨i + 1, insP qs[i].1 qs[i].2 o, J', ja', jw'⟩ ∧ J'[0]? = some ⟨144, elemsC qs⟩ ∧ (0 < (insP qs[i].1 qs[i].2 o).length → 0 < ja') ∧ (0 < (insP qs[i].1 qs[i].2 o).length → wtd f.kind = true → 0 < jw')) :=
            fun J' ja' jw' g1 g2 g3 g4 g5 g6 => ⟨by omega, by omega, fun _ => hine1, hmg2, hos2, hle3, hsm2, ⟨g1, fun _ => g2, fun _ h => g3 h, hps2⟩, g4, fun _ => g5, fun _ h => g6 h⟩
          have hsb : wtd f.kind = true → (o.map (·.2)).sum + qs[i].2 ≤ 1048576 := fun h => by
            have e := congrArg (fun l : List (Val × Int) => (l.map (·.2)).sum) hmg
            rw [mergeF_sum, mergeF_sum, hdr, List.map_cons, List.sum_cons] at e
            have h1 := sum_pos fun q (hq : q ∈ qs.drop (i + 1)) => (hqw h).1 q (List.mem_of_mem_drop hq)
            have h2 := (hqw h).2
            try simp at e
            try simp at h1
            omega
          clear hle hle3 hsm2 hps2 hnext hmg hmg2 hos2
          generalize hO : insP qs[i].1 qs[i].2 o = O at *
          by_cases hi00 : i = 0
          · subst hi00
            have hat0 := hat4
            simp only [Nat.zero_mul, List.drop_zero] at hat0
            rw [hec] at hat0
            have h40 : 4 ≤ ps.length * 4 := by omega
            have hoe : o = [] := List.eq_nil_of_length_eq_zero (by omega)
            subst hoe
            have hO1 : O = [(qs[0].1, qs[0].2)] := by rw [← hO, insP]
            cases hwk : wtd f.kind
            · have h5 := hk5 hwk
              simp [round, Tryz.f88, a88, reg88, loop88, draw88, dok88, hia2, hlt, w2, app_at0, hJp, hJ2, hql, hql4, h4, h4', h40, hat0, hat4, hec, mgA, mgW, hwk, h5, endRound_J, hcl]
              refine hrec ⟨1, O, J ++ [⟨28, Val.cellsL (O.map (·.1))⟩], J.length, 0⟩ _ _ ?_ ?_ ?_ ?_
              · simp; omega
              · exact hI _ _ _ (by simp [hcl]) (by simp) (fun h => absurd h (by simp [hwk])) (by rw [List.getElem?_append_left hJp]; exact hJ0) hJp (fun h => absurd h (by simp [hwk]))
              · simp [mgA, mgW, hwk, h5, hw5, hO1, Val.cellsL]
              · simp [h5]
            · have h5 := hk5' hwk
              simp [round, Tryz.f88, a88, reg88, loop88, draw88, dok88, hia2, hlt, w2, app_at0, hJp, hJ2, hql, hql4, h4, h4', h40, hat0, hat4, hec, mgA, mgW, hwk, h5, endRound_J, hcl]
              refine hrec ⟨1, O, J ++ [⟨28, Val.cellsL (O.map (·.1))⟩, ⟨3, ints (O.map (·.2))⟩], J.length, J.length + 1⟩ _ _ ?_ ?_ ?_ ?_
              · simp; omega
              · exact hI _ _ _ (by simp [hcl]) (by simp) (fun h => ⟨by simp, by omega⟩) (by rw [List.getElem?_append_left hJp]; exact hJ0) hJp (fun h => by omega)
              · simp [mgA, mgW, hwk, h5, hO1, Val.cellsL, ints]
              · simp
          · have ho1 : 0 < o.length := hi0 (by omega)
            have htop := insP_top (w := qs[i].2) hos hle2 ho1
            rw [hO] at htop
            obtain ⟨k, hlk⟩ : ∃ k, o.length = k + 1 := ⟨o.length - 1, by omega⟩
            have hko : k < o.length := by omega
            simp only [hlk, Nat.add_sub_cancel] at htop
            have ho0 : ¬ o = [] := fun h => by rw [h] at ho1; simp at ho1
            have w4 : IntKind.i64.wrap (k : Int) = k := wrap_id _ (by omega)
            have hJa := hra ho1
            have hja : ja < J.length := (List.getElem?_eq_some_iff.1 hJa).1
            have hJa2 := (List.getElem?_eq_some_iff.1 hJa).2
            have hsk := hsm _ (List.getElem_mem hko)
            have he := ev_vSame o[k].1 qs[i].1 hsk.1 hsk.2
            simp at he
            have hatk := Val.at_cellsL (o.map (·.1)) k (by simpa using hko)
            simp at hatk
            have hi01 : 0 < i := by omega
            have hk3 : k * 3 + 3 ≤ (k + 1) * 3 := by omega
            by_cases hc : cmpV o[k].1 qs[i].1 = 0
            · simp [hc] at he
              rw [if_pos hc] at htop
              have hfst : O.map (·.1) = o.map (·.1) := by
                rw [htop, List.map_set]
                exact List.ext_getElem (by simp) fun n h1 h2 => by
                  rw [List.getElem_set]
                  split
                  · rename_i h; subst h; simp
                  · rfl
              have hil : O.length = o.length := by rw [htop]; simp
              cases hwk : wtd f.kind
              · have h5 := hk5 hwk
                simp [round, Tryz.f88, a88, reg88, loop88, draw88, dok88, hia2, hlt, w2, w4, app_at0, app_at, app_set, hJp, hJ2, hja, hJa2, hql, hql4, h4, h4', hat4, hec, mgA, mgW, hwk, h5, hw5, hlk, ho0, hi01, hi00, hatk, hk3, he, hc, endRound_J, hcl, all_set, show (k : Int) < (k : Int) + 1 by omega]
                refine hrec ⟨i + 1, O, J, ja, jw⟩ _ _ ?_ ?_ ?_ ?_
                · simp; omega
                · exact hI _ _ _ hcl (by rw [hfst]; exact hJa) (fun h => absurd h (by simp [hwk])) hJ0 (hja0 ho1) (fun h => absurd h (by simp [hwk]))
                · simp [mgA, mgW, hwk, h5, hw5, hil, hlk, hine, ho0]
                · simp [h5]
              · have h5 := hk5' hwk
                obtain ⟨hJw, hne⟩ := hrw ho1 hwk
                have hjw : jw < J.length := (List.getElem?_eq_some_iff.1 hJw).1
                have hJw2 := (List.getElem?_eq_some_iff.1 hJw).2
                have hat2 : ((ints (o.map (·.2))).drop k).take 1 = [.int .i64 o[k].2] := by
                  have := ints_at (ks := o.map (·.2)) (i := k) (by simpa using hko)
                  simpa using this
                have hwp := hps1 hwk
                have hsum := mem_sum hwp (List.getElem_mem hko)
                have hp1 := hwp _ (List.getElem_mem hko)
                have hq1 := (hqw hwk).1 _ (List.getElem_mem hiq)
                have w3 : IntKind.i64.wrap (o[k].2 + qs[i].2) = o[k].2 + qs[i].2 := wrap_id _ (by have := hsb hwk; omega)
                have hset : List.take k (ints (o.map (·.2))) ++ A.int .i64 (o[k].2 + qs[i].2) :: List.drop (k + 1) (ints (o.map (·.2))) = ints (O.map (·.2)) := by
                  rw [htop, List.map_set, List.set_eq_take_append_cons_drop, if_pos (by simpa using hko)]
                  simp [ints]
                simp [round, Tryz.f88, a88, reg88, loop88, draw88, dok88, hia2, hlt, w2, w4, app_at0, app_at, app_set, hJp, hJ2, hja, hJa2, hql, hql4, h4, h4', hat4, hec, mgA, mgW, hwk, h5, hw5, hlk, ho0, hi01, hi00, hatk, hk3, he, hc, endRound_J, hcl, all_set, show (k : Int) < (k : Int) + 1 by omega, hjw, hJw2, hat2, w3, hset]
                refine hrec ⟨i + 1, O, J.set jw ⟨3, ints (O.map (·.2))⟩, ja, jw⟩ _ _ ?_ ?_ ?_ ?_
                · simp; omega
                · exact hI _ _ _ (by simp [all_set, hcl]) (by rw [List.getElem?_set_ne (Ne.symm hne), hfst]; exact hJa) (fun _ => ⟨by simp [hjw], hne⟩) (by rw [List.getElem?_set_ne (by have := hjw0 ho1 hwk; omega)]; exact hJ0) (hja0 ho1) (fun h => hjw0 ho1 h)
                · simp [mgA, mgW, hwk, h5, hil, hlk, hine, ho0]
                · simp
            · simp [hc] at he
              rw [if_neg hc] at htop
              have hil : O.length = k + 1 + 1 := by rw [htop]; simp [hlk]
              have hcl3 : Val.cellsL (o.map (·.1)) ++ qs[i].1.cells = Val.cellsL (O.map (·.1)) := by rw [htop, List.map_append, Val.cellsL_append]; simp [Val.cellsL]
              simp only [Val.cells_eq] at hcl3
              cases hwk : wtd f.kind
              · have h5 := hk5 hwk
                simp [round, Tryz.f88, a88, reg88, loop88, draw88, dok88, hia2, hlt, w2, w4, app_at0, app_at, app_set, hJp, hJ2, hja, hJa2, hql, hql4, h4, h4', hat4, hec, mgA, mgW, hwk, h5, hw5, hlk, ho0, hi01, hi00, hatk, hk3, he, hc, endRound_J, hcl, all_set, show (k : Int) < (k : Int) + 1 by omega, hcl3, show (k + 1 + 1) * 56 ≤ 70368744177664 by omega, show k + 1 + 1 ≤ 70368744177664 by omega, show (k + 1 + 1) * 8 ≤ 70368744177664 by omega, show (k + 1) * 3 + 3 = (k + 1 + 1) * 3 by omega]
                refine hrec ⟨i + 1, O, J.set ja ⟨28, Val.cellsL (O.map (·.1))⟩, ja, jw⟩ _ _ ?_ ?_ ?_ ?_
                · simp; omega
                · exact hI _ _ _ (by simp [all_set, hcl]) (by simp [hja]) (fun h => absurd h (by simp [hwk])) (by rw [List.getElem?_set_ne (by have := hja0 ho1; omega)]; exact hJ0) (hja0 ho1) (fun h => absurd h (by simp [hwk]))
                · simp [mgA, mgW, hwk, h5, hw5, hil, hlk, hine, ho0]
                · simp [h5]
              · have h5 := hk5' hwk
                obtain ⟨hJw, hne⟩ := hrw ho1 hwk
                have hjw : jw < J.length := (List.getElem?_eq_some_iff.1 hJw).1
                have hJw2 := (List.getElem?_eq_some_iff.1 hJw).2
                have hin : ints (o.map (·.2)) ++ [A.int .i64 qs[i].2] = ints (O.map (·.2)) := by rw [htop, List.map_append, ints_append]; simp [ints]
                have hcl2 : ((J.set ja ⟨28, Val.cellsL (O.map (·.1))⟩).set jw ⟨3, ints (O.map (·.2))⟩).all (fun r => r.cs.all (closed 0 0)) = true := all_set (all_set hcl _ _ (Val.closed_cellsL _ _ _)) _ _ (closed_ints _ _ _)
                simp [round, Tryz.f88, a88, reg88, loop88, draw88, dok88, hia2, hlt, w2, w4, app_at0, app_at, app_set, hJp, hJ2, hja, hJa2, hql, hql4, h4, h4', hat4, hec, mgA, mgW, hwk, h5, hw5, hlk, ho0, hi01, hi00, hatk, hk3, he, hc, endRound_J, hcl, all_set, show (k : Int) < (k : Int) + 1 by omega, hcl3, hcl2, hjw, hJw2, hin, hne, show (k + 1 + 1) * 56 ≤ 70368744177664 by omega, show k + 1 + 1 ≤ 70368744177664 by omega, show (k + 1 + 1) * 8 ≤ 70368744177664 by omega, show (k + 1) * 3 + 3 = (k + 1 + 1) * 3 by omega]
                refine hrec ⟨i + 1, O, (J.set ja ⟨28, Val.cellsL (O.map (·.1))⟩).set jw ⟨3, ints (O.map (·.2))⟩, ja, jw⟩ _ _ ?_ ?_ ?_ ?_
                · simp; omega
                · exact hI _ _ _ hcl2 (by rw [List.getElem?_set_ne (Ne.symm hne)]; simp [hja]) (fun _ => ⟨by simp [hjw], hne⟩) (by rw [List.getElem?_set_ne (by have := hjw0 ho1 hwk; omega), List.getElem?_set_ne (by have := hja0 ho1; omega)]; exact hJ0) (hja0 ho1) (fun h => hjw0 ho1 h)
                · simp [mgA, mgW, hwk, h5, hil, hlk, hine, ho0]
                · simp
        · clear hrec
          have hie : i = ps.length := by omega
          subst hie
          have hO : o = mergeP f.kind xs ws := by
            rw [← hmq, ← hmg, List.drop_eq_nil_of_le (by omega)]
            rfl
          have ho1 : 0 < o.length := hi0 (by omega)
          have ho0 : ¬ o = [] := fun h => by rw [h] at ho1; simp at ho1
          have hJa := hra ho1
          have hja : ja < J.length := (List.getElem?_eq_some_iff.1 hJa).1
          have hJa2 := (List.getElem?_eq_some_iff.1 hJa).2
          have hall : List.take (o.length * 3) (Val.cellsL (o.map (·.1))) = Val.cellsL (o.map (·.1)) := List.take_of_length_le (by simp)
          have hallw : List.take o.length (ints (o.map (·.2))) = ints (o.map (·.2)) := List.take_of_length_le (by simp)
          have hO2 : wtd f.kind = true → ∀ w, w ∈ o.map (·.2) → 1 ≤ w ∧ w ≤ 1048576 := fun h w hmem => by
            obtain ⟨p, hp, rfl⟩ := List.mem_map.1 hmem
            refine ⟨hps1 h p hp, ?_⟩
            have h1 := mem_sum (hps1 h) hp
            have h2 : (o.map (·.2)).sum = (qs.map (·.2)).sum := by
              rw [hO, ← hmq, mergeF_sum]
              simp
            have h3 := (hqw h).2
            omega
          unfold mergeV
          rw [← hO]
          by_cases h7 : f.kind = 7
          · have hwk : wtd f.kind = true := by rw [h7]; rfl
            obtain ⟨hJw, hne⟩ := hrw ho1 hwk
            have hjw : jw < J.length := (List.getElem?_eq_some_iff.1 hJw).1
            have hJw2 := (List.getElem?_eq_some_iff.1 hJw).2
            have hws : ∀ w, w ∈ o.map (·.2) → 1 ≤ w ∧ w ≤ 1048576 := hO2 hwk
            have hwp : ∀ w, w ∈ o.map (·.2) → 1 ≤ w := fun w h => (hws w h).1
            have hWl : (o.map (·.2)).length = o.length := by simp
            generalize o.map (·.2) = W at *
            have hgp : 0 < gcdN W := gcdN_pos (fun h => by rw [h] at hWl; simp at hWl; omega) hwp
            have hg := ev_vgcdR W (m.rw.length + jw) (by omega) hws
            have hgc : ∀ bx, evCall C0 121 [.sl (m.rw.length + jw) o.length 0 o.length] ⟨bx, m.rw ++ J⟩ = some (.ret (.int .i64 (gcdN W)), ⟨bx, m.rw ++ J⟩) := fun bx => by
              have := hg ⟨bx, m.rw ++ J⟩ (by rw [app_at]; exact hJw)
              rwa [hWl] at this
            simp [round, Tryz.f88, a88, reg88, loop88, draw88, dok88, hia2, app_at, h7, show wtd 7 = true from rfl, ho0, mgA, mgW, hwk, hgc, hjw, hJw2, hja, hJa2]
            refine loop_in (fun j : Nat => ⟨[(4, .ptr (m.bx.length + 2) 0), (9, .ptr (m.bx.length + 3) 0), (13, .int .i64 (gcdN W)), (101, .int .i64 o.length), (102, .int .i64 j)],
                ⟨m.bx ++ [f.cells, [.int .i64 0, .sl ia (xs.length * 3) 0 xs.length, .isl false ws.length (ints ws)], [.int .i64 0, .nils, .nils], [.int .i64 0, .sl (m.rw.length + ja) (o.length * 3) 0 o.length, .sl (m.rw.length + jw) o.length 0 o.length]], m.rw ++ J.set jw ⟨3, ints ((divG W).take j ++ W.drop j)⟩⟩⟩)
              (fun i => some (.ret (.agg (Val.mk 0 (o.map (·.1)) (divG W)).cells), m)) (fun j => o.length - j) (fun j => j ≤ o.length) 0 ?_ ?_ ?_ ?_ ?_
            · have hset0 : J.set jw ⟨3, ints W⟩ = J := by rw [← hJw2]; exact List.set_getElem_self hjw
              simp [hset0, h7]
            · simp
            · omega
            · intro x; simp [Tryz.f88, a88, reg88, loop88, draw88, dok88, hia2]
            · intro j hj hrec
              have hdl : (divG W).length = W.length := by unfold divG; simp
              have hne' : ¬ jw = ja := fun h => hne h.symm
              have hg0 : ¬ (gcdN W : Int) = 0 := by omega
              by_cases hit : j < o.length
              · have w2 : IntKind.i64.wrap (j + 1) = j + 1 := wrap_id _ (by omega)
                have hiW : j < W.length := by omega
                have hx := hws W[j] (List.getElem_mem hiW)
                have hq := tdiv_pos hx.1 hgp ((gcdF_dvd W 0).2 _ (List.getElem_mem hiW))
                have w3 : IntKind.i64.wrap (W[j].tdiv (gcdN W)) = W[j].tdiv (gcdN W) := wrap_id _ (by omega)
                have hDl : ((divG W).take j ++ W.drop j).length = o.length := by simp; omega
                have hat : ((ints ((divG W).take j ++ W.drop j)).drop j).take 1 = [.int .i64 W[j]] := by
                  have h1 := ints_at (ks := (divG W).take j ++ W.drop j) (i := j) (by omega)
                  rw [h1]
                  congr 2
                  rw [List.getElem_append_right (by simp; omega)]
                  simp [Nat.min_eq_left (show j ≤ (divG W).length by omega)]
                have hst : List.take j (ints ((divG W).take j ++ W.drop j)) ++ A.int .i64 (W[j].tdiv (gcdN W)) :: List.drop (j + 1) (ints ((divG W).take j ++ W.drop j)) = ints ((divG W).take (j + 1) ++ W.drop (j + 1)) := by
                  have h1 : (divG W)[j]'(by omega) = W[j].tdiv (gcdN W) := by unfold divG; simp
                  have h2 : ((divG W).take j).length = j := by simp; omega
                  unfold ints
                  rw [← List.map_take, ← List.map_drop, ← List.drop_drop]
                  have h3 : List.take j ((divG W).take j ++ W.drop j) = (divG W).take j := by rw [List.take_append_of_le_length (by omega), List.take_of_length_le (by omega)]
                  have h4 : List.drop j ((divG W).take j ++ W.drop j) = W.drop j := by rw [List.drop_append_of_le_length (by omega), List.drop_eq_nil_of_le (by omega)]; rfl
                  rw [h3, h4, List.drop_drop, List.take_succ_eq_append_getElem (by omega), h1]
                  simp
                generalize (divG W).take j ++ W.drop j = D at hDl hat hst ⊢
                simp [round, Tryz.f88, a88, reg88, loop88, draw88, dok88, hia2, hit, w2, w3, app_at, app_set, hjw, hDl, hat, hst, show ¬ gcdN W = 0 by omega, show j + 1 ≤ o.length by omega, endRound_J, all_set, hcl, hja]
                refine hrec (j + 1) _ _ ?_ ?_ ?_ ?_
                · omega
                · omega
                · simp
                · simp
              · clear hrec
                have hie : j = o.length := by omega
                subst hie
                rw [List.take_of_length_le (by omega), List.drop_eq_nil_of_le (by omega), List.append_nil]
                have hdl2 : (divG W).length = o.length := by omega
                have htk : List.take o.length (ints (divG W)) = ints (divG W) := List.take_of_length_le (by simp; omega)
                simp [round, Tryz.f88, a88, reg88, loop88, draw88, dok88, hia2, app_at, hjw, hja, hJa2, hne', hall, hdl2, htk]
          · cases hwk : wtd f.kind
            · have h5 := hk5 hwk
              simp [round, Tryz.f88, a88, reg88, loop88, draw88, dok88, hia2, app_at, show wtd 5 = false from rfl, h5, h7, ho0, mgA, mgW, hwk, hja, hJa2, hall]
            · have h5 := hk5' hwk
              obtain ⟨hJw, hne⟩ := hrw ho1 hwk
              have hjw : jw < J.length := (List.getElem?_eq_some_iff.1 hJw).1
              have hJw2 := (List.getElem?_eq_some_iff.1 hJw).2
              simp [round, Tryz.f88, a88, reg88, loop88, draw88, dok88, hia2, app_at, h5, h7, ho0, mgA, mgW, hwk, hja, hJa2, hjw, hJw2, hall, hallw]
end AE
end Go.Proofs.YthoomlenmgdebaaGreatDoor

/- A value whose states are replaced by others, by the program: its size; evaluated. -/
set_option linter.unusedVariables false
set_option linter.unusedSimpArgs false
namespace Go.Proofs.YthoomlenmgdebaaGreatDoor
namespace AE
open Go

theorem merge_nodes (kind k : Int) (xs : List Val) (w : List Int) (hs : slimL xs) (hx : xs.length ≤ 1000000000) : (mergeV kind k xs w).nodes ≤ 1 + Val.nodesL xs ∧ slimV (mergeV kind k xs w) := by
  unfold mergeV
  rw [Val.nodes_eq, slimV_eq]
  simp only [Val.args_mk, Val.ws_mk]
  have h1 := nodesL_merge (xs.zip (wsOf kind xs w)) []
  have h2 : Val.nodesL ((xs.zip (wsOf kind xs w)).map (·.1)) ≤ Val.nodesL xs := by
    have : ∀ (a : List Val) (b : List Int), Val.nodesL ((a.zip b).map (·.1)) ≤ Val.nodesL a := by
      intro a
      induction a with
      | nil => intro b; simp [Val.nodesL]
      | cons x r ih =>
        intro b
        cases b with
        | nil => simp [Val.nodesL]
        | cons y t => simp [Val.nodesL]; exact ih t
    exact this _ _
  have h3 : (xs.zip (wsOf kind xs w)).length ≤ xs.length := by rw [List.length_zip]; omega
  simp only [List.map_nil, List.length_nil, Val.nodesL] at h1
  unfold mergeP
  refine ⟨by omega, ?_, slimL_of fun x hx' => ?_⟩
  · split
    · unfold divG; simp; omega
    · split
      · simp; omega
      · simp
  · obtain ⟨p, hp, rfl⟩ := List.mem_map.1 hx'
    rcases mergeF_fst _ _ p hp with ⟨q, h4, h5⟩ | ⟨q, h4, _⟩
    · rw [h5]; exact slimL_mem hs (zip_fst h4).1
    · cases h4
mutual
theorem map_nodes {t : Int → Val} (ht : ∀ x, (t x).nodes ≤ 1 ∧ slimV (t x)) : ∀ (v : Val) (f : Fun), slimV v → v.nodes ≤ 1000000000 → (mapV t v f).nodes ≤ v.nodes ∧ slimV (mapV t v f)
  | .mk k l w, f, hs, hb => by
    rw [slimV_eq] at hs
    have hv := Val.nodes_eq (.mk k l w)
    rw [hv] at hb ⊢
    simp only [Val.args_mk] at hb hs ⊢
    have ih := mapL_nodes ht l (argF f k) 0 hs.2 (by omega)
    have hl := Val.length_nodesL l
    have hm := mapL_length t l (argF f k) 0
    rw [mapV]
    split
    · have := ht k; exact ⟨by omega, this.2⟩
    split
    · rw [Val.nodes_eq, slimV_eq]; simp [Val.nodesL, slimL]
    have hplain : ∀ q, (Val.mk q (mapL t l (argF f k) 0) []).nodes ≤ 1 + Val.nodesL l ∧ slimV (Val.mk q (mapL t l (argF f k) 0) []) := fun q => by
      rw [Val.nodes_eq, slimV_eq]
      simp only [Val.args_mk, Val.ws_mk]
      exact ⟨by omega, by simp, ih.2⟩
    split
    · exact hplain 0
    split
    · exact hplain k
    split
    · exact hplain 0
    have := merge_nodes f.kind 0 (mapL t l (argF f k) 0) w ih.2 (by omega)
    exact ⟨by omega, this.2⟩
theorem mapL_nodes {t : Int → Val} (ht : ∀ x, (t x).nodes ≤ 1 ∧ slimV (t x)) : ∀ (l : List Val) (g : Nat → Fun) (i : Nat), slimL l → Val.nodesL l ≤ 1000000000 → Val.nodesL (mapL t l g i) ≤ Val.nodesL l ∧ slimL (mapL t l g i)
  | [], g, i, hs, hb => by rw [mapL]; exact ⟨Nat.le_refl _, hs⟩
  | v :: r, g, i, hs, hb => by
    rw [slimL] at hs
    rw [Val.nodesL] at hb
    have a := map_nodes ht v (g i) hs.1 (by omega)
    have b := mapL_nodes ht r g (i + 1) hs.2 (by omega)
    rw [mapL, Val.nodesL, Val.nodesL, slimL]
    exact ⟨by omega, a.2, b.2⟩
end
/-- A function of the program that answers a state with a value, wherever Q holds. -/
structure MapOk (t : Int → Val) (h : FuncId) (caps : List A) (n : Int) (Q : Mem → Prop) : Prop where
  ev : ∀ x, 0 ≤ x → x < n → ∀ m, Q m → evCall C0 h (.int .i64 x :: caps) m = some (.ret (.agg (t x).cells), m)
  up : ∀ m b r, Q m → Q ⟨m.bx ++ b, m.rw ++ r⟩
  cl : ∀ m, Q m → closed m.bx.length m.rw.length (.fn h caps) = true
  sm : ∀ x, (t x).nodes ≤ 1 ∧ slimV (t x)
def MapAt (t : Int → Val) (h : FuncId) (caps : List A) (n : Int) (Q : Mem → Prop) (v : Val) : Prop :=
  ∀ f, shapedF f = true → okV exL n v f = true → ∀ m, Q m → evCall C0 64 [.agg f.cells, .agg v.cells, .fn h caps] m = some (.ret (.agg (mapV t v f).cells), m)
section
variable {t : Int → Val} {h : FuncId} {caps : List A} {n : Int} {Q : Mem → Prop}
set_option maxHeartbeats 8000000 in
theorem mapped_plain (hM : MapOk t h caps n Q) (v : Val) (H : ∀ u, u ∈ v.args → MapAt t h caps n Q u) (f : Fun) (hf : shapedF f = true) (hok : okV exL n v f = true) (hk : f.kind ≤ 3) (m : Mem) (hQ : Q m) :
    evCall C0 64 [.agg f.cells, .agg v.cells, .fn h caps] m = some (.ret (.agg (mapV t v f).cells), m) := by
  rw [okV_eq, Bool.and_eq_true, Bool.and_eq_true] at hok
  obtain ⟨⟨hh, _⟩, hokl⟩ := hok
  have hq0 : ∀ b, Q ⟨m.bx ++ b, m.rw⟩ := fun b => by have := hM.up m b [] hQ; rwa [List.append_nil] at this
  obtain ⟨hd1, hd2, hd3⟩ := head_num hh
  have hh' := hh
  unfold headL at hh'
  simp only [Bool.and_eq_true] at hh'
  obtain ⟨⟨q1, q2⟩, q3⟩ := hh'
  rw [mapV_eq]
  rw [evCall_body C0 (C0_ext _ (by decide)) (by rw [C0_P]; exact Tryz.func64) rfl (by rw [C0_ann]; rfl) (by decide) (by simp [Tryz.f64])]
  rcases shaped_kind hf with ⟨h0, hl⟩ | ⟨h0, hl⟩ | ⟨h0, hl⟩ | ⟨h0, hl⟩ | ⟨h0, hl⟩ | ⟨h0, hl⟩ | ⟨h0, hl⟩ | ⟨h0, hl⟩
  · simp [h0] at q2
    have he := fun b => hM.ev v.num q2.1 (by omega) _ (hq0 b)
    simp at he
    simp [Tryz.f64, a64, reg64, loop64, draw64, dok64, h0, he]
  · simp [Tryz.f64, a64, reg64, loop64, draw64, dok64, h0]
  · simp [h0, hl] at q1
    have a0 : 0 < v.args.length := by omega
    have a1 : 1 < v.args.length := by omega
    have f0 : 0 < f.args.length := by omega
    have f1 : 1 < f.args.length := by omega
    have g0 : argF f v.num 0 = f.args[0] := by unfold argF; rw [if_pos h0, List.getD_eq_getElem?_getD, List.getElem?_eq_getElem f0]; rfl
    have g1 : argF f v.num 1 = f.args[1] := by unfold argF; rw [if_pos h0, List.getD_eq_getElem?_getD, List.getElem?_eq_getElem f1]; rfl
    have b1 := Fun.at_cellsL f.args 0 f0
    have b2 := Fun.at_cellsL f.args 1 f1
    have b3 := Val.at_cellsL v.args 0 a0
    have b4 := Val.at_cellsL v.args 1 a1
    simp at b1 b2 b3 b4
    have o0 := okL_mem hokl 0 a0
    have o1 := okL_mem hokl 1 a1
    rw [Nat.zero_add] at o0 o1
    rw [g0] at o0
    rw [g1] at o1
    have he0 := fun b => H v.args[0] (List.getElem_mem a0) f.args[0] (shaped_arg hf f0) o0 _ (hq0 b)
    have he1 := fun b => H v.args[1] (List.getElem_mem a1) f.args[1] (shaped_arg hf f1) o1 _ (hq0 b)
    simp at he0 he1
    have hm : mapL t v.args (argF f v.num) 0 = [mapV t v.args[0] f.args[0], mapV t v.args[1] f.args[1]] := by
      have e0 := mapL_drop (t := t) a0 (argF f v.num)
      have e1 := mapL_drop (t := t) a1 (argF f v.num)
      rw [List.drop_zero] at e0
      rw [e0, e1, g0, g1, List.drop_eq_nil_of_le (by omega), mapL]
    have hcl : Val.cellsL [mapV t v.args[0] f.args[0], mapV t v.args[1] f.args[1]] = (mapV t v.args[0] f.args[0]).cells ++ (mapV t v.args[1] f.args[1]).cells := by rw [Val.cellsL, Val.cellsL, Val.cellsL, List.append_nil]
    simp [Tryz.f64, a64, reg64, loop64, draw64, dok64, h0, show v.args.length = 2 by omega, hl, b1, b2, b3, b4, he0, he1, hm, hcl]
  · simp [h0] at q1
    have a0 : 0 < v.args.length := by omega
    have f0 : 0 < f.args.length := by omega
    have f1 : 1 < f.args.length := by omega
    have b1 := Fun.at_cellsL f.args 0 f0
    have b2 := Fun.at_cellsL f.args 1 f1
    have b3 := Val.at_cellsL v.args 0 a0
    simp at b1 b2 b3
    have o0 := okL_mem hokl 0 a0
    rw [Nat.zero_add] at o0
    have e0 := mapL_drop (t := t) a0 (argF f v.num)
    rw [List.drop_zero, List.drop_eq_nil_of_le (by omega), mapL] at e0
    by_cases cn : v.num = 0
    · have g0 : argF f v.num 0 = f.args[0] := by unfold argF; rw [if_neg (by omega), if_pos h0, cn, List.getD_eq_getElem?_getD, List.getElem?_eq_getElem (by simpa using f0)]; rfl
      rw [g0] at o0 e0
      rw [cn] at e0
      have he0 := fun b => H v.args[0] (List.getElem_mem a0) f.args[0] (shaped_arg hf f0) o0 _ (hq0 b)
      simp at he0
      simp [Tryz.f64, a64, reg64, loop64, draw64, dok64, h0, q1.2, hl, b1, b2, b3, he0, e0, cn, Val.cellsL]
    · have cm : v.num = 1 := by omega
      have g0 : argF f v.num 0 = f.args[1] := by unfold argF; rw [if_neg (by omega), if_pos h0, cm, List.getD_eq_getElem?_getD, List.getElem?_eq_getElem (by simpa using f1)]; rfl
      rw [g0] at o0 e0
      rw [cm] at e0
      have he0 := fun b => H v.args[0] (List.getElem_mem a0) f.args[1] (shaped_arg hf f1) o0 _ (hq0 b)
      simp at he0
      simp [Tryz.f64, a64, reg64, loop64, draw64, dok64, h0, q1.2, hl, b1, b2, b3, he0, e0, cm, Val.cellsL]
  all_goals omega
theorem mapL_snoc {t : Int → Val} {l : List Val} {g : Nat → Fun} {i : Nat} (h : i < l.length) {xs : List Val} (hm : mapL t l g 0 = xs ++ mapL t (l.drop i) g i) : mapL t l g 0 = (xs ++ [mapV t l[i] (g i)]) ++ mapL t (l.drop (i + 1)) g (i + 1) := by
  rw [hm, mapL_drop h]
  simp
set_option maxHeartbeats 8000000 in
theorem mapped_many (hM : MapOk t h caps n Q) (v : Val) (hb : v.nodes ≤ 1000000) (hs : slimV v) (H : ∀ u, u ∈ v.args → MapAt t h caps n Q u) (f : Fun) (hf : shapedF f = true) (hok : okV exL n v f = true) (hk : 4 ≤ f.kind) (m : Mem) (hQ : Q m) :
    evCall C0 64 [.agg f.cells, .agg v.cells, .fn h caps] m = some (.ret (.agg (mapV t v f).cells), m) := by
  have hs' := hs
  rw [slimV_eq] at hs'
  rw [okV_eq, Bool.and_eq_true, Bool.and_eq_true] at hok
  obtain ⟨⟨hh, _⟩, hokl⟩ := hok
  have hlen := v.length_args
  obtain ⟨hd1, hd2, hd3⟩ := head_num hh
  have hfl : f.args.length = 1 := by have := shaped_kind hf; omega
  have hk7 : f.kind ≤ 7 := by have := shaped_kind hf; omega
  have f0 : 0 < f.args.length := by omega
  have b1 := Fun.at_cellsL f.args 0 f0
  simp at b1
  have hg : ∀ j, argF f v.num j = f.args[0] := fun j => by
    unfold argF
    rw [if_neg (by omega), if_neg (by omega), List.getD_eq_getElem?_getD, List.getElem?_eq_getElem f0]
    rfl
  have k4 : ¬ f.kind = 0 ∧ ¬ f.kind = 1 ∧ ¬ f.kind = 2 ∧ ¬ f.kind = 3 := by omega
  have hfin := hM.cl m hQ
  have hcl : ∀ b r, closed (m.bx.length + b) (m.rw.length + r) (.fn h caps) = true := fun b r => closed_mono (by omega) (by omega) _ hfin
  have hcl0 : ∀ b, closed (m.bx.length + b) m.rw.length (.fn h caps) = true := fun b => closed_mono (by omega) (by omega) _ hfin
  have hmn := mapL_nodes hM.sm v.args (argF f v.num) 0 hs'.2 (by have := v.nodes_eq; omega)
  have hml := mapL_length t v.args (argF f v.num) 0
  have hvn := v.nodes_eq
  rw [mapV_eq, if_neg k4.1, if_neg k4.2.1, if_neg k4.2.2.1, if_neg k4.2.2.2]
  rw [evCall_body C0 (C0_ext _ (by decide)) (by rw [C0_P]; exact Tryz.func64) rfl (by rw [C0_ann]; rfl) (by decide) (by simp [Tryz.f64])]
  simp [Tryz.f64, a64, reg64, loop64, draw64, dok64, k4]
  refine loop_in (fun x : Nat × List Val => ⟨[(2, .fn h caps), (3, .ptr m.bx.length 0), (4, .ptr (m.bx.length + 1) 0), (6, .ptr (m.bx.length + 2) 0), (7, .ptr (m.bx.length + 3) 0), (66, .isl false v.args.length (Val.cellsL v.args)), (67, .int .i64 v.args.length), (68, .int .i64 x.1)],
      ⟨m.bx ++ [f.cells, v.cells, [.int .i64 0, .nils, .nils], [.int .i64 0, xA m.rw.length x.2, .nils]], m.rw ++ xR x.2⟩⟩)
    (fun x => some (.ret (.agg (if f.kind = 4 then Val.mk 0 (mapL t v.args (argF f v.num) 0) [] else mergeV f.kind 0 (mapL t v.args (argF f v.num) 0) v.ws).cells), m)) (fun x => v.args.length - x.1)
    (fun x => x.1 ≤ v.args.length ∧ x.2.length = x.1 ∧ mapL t v.args (argF f v.num) 0 = x.2 ++ mapL t (v.args.drop x.1) (argF f v.num) x.1) (0, []) ?_ ?_ ?_ ?_ ?_
  · simp [xA, xR]
  · simp
  · simp
  · intro x; simp [Tryz.f64, a64, reg64, loop64, draw64, dok64]
  · rintro ⟨i, xs⟩ ⟨hi, hxl, hml2⟩ hrec
    simp only at hi hxl hml2 ⊢
    by_cases hlt : i < v.args.length
    · have w2 : IntKind.i64.wrap (i + 1) = i + 1 := wrap_id _ (by omega)
      have h3 : (i + 1) * 3 ≤ v.args.length * 3 := by omega
      have o0 := okL_mem hokl i hlt
      rw [Nat.zero_add, hg] at o0
      have hnx := mapL_snoc hlt hml2
      rw [hg] at hnx
      have he := fun (b : List (List A)) (r : List Row) => H v.args[i] (List.getElem_mem hlt) f.args[0] (shaped_arg hf f0) o0 _ (hM.up m b r hQ)
      have he0 := fun (b : List (List A)) => H v.args[i] (List.getElem_mem hlt) f.args[0] (shaped_arg hf f0) o0 ⟨m.bx ++ b, m.rw⟩ (by have := hM.up m b [] hQ; rwa [List.append_nil] at this)
      simp at he he0
      cases xs with
      | nil =>
        have hi0 : i = 0 := by simpa using hxl.symm
        subst hi0
        have b3 := Val.at_cellsL v.args 0 hlt
        simp at b3
        simp [round, Tryz.f64, a64, reg64, loop64, draw64, dok64, hlt, w2, h3, hfl, show 3 ≤ v.args.length * 3 by omega, b1, b3, he, he0, xA, xR, app_at, app_set, endRound_R0, hcl, hcl0]
        refine hrec (1, [mapV t v.args[0] f.args[0]]) _ _ ?_ ?_ ?_ ?_
        · simp; omega
        · exact ⟨by simp only; omega, rfl, by rw [hnx]; rfl⟩
        · simp [xA, xR, Val.cellsL, hfl]
        · simp
      | cons a r =>
        have hr : r.length + 1 = i := by simpa using hxl
        simp [round, Tryz.f64, a64, reg64, loop64, draw64, dok64, hlt, w2, h3, hfl, b1, he, he0, xA, xR, app_at, app_set, endRound_J, hcl, hcl0, show (r.length + 1 + 1) * 56 ≤ 70368744177664 by omega, show r.length + 1 + 1 ≤ 70368744177664 by omega]
        refine hrec (i + 1, a :: r ++ [mapV t v.args[i] f.args[0]]) _ _ ?_ ?_ ?_ ?_
        · simp; omega
        · exact ⟨by simp only; omega, by simp; omega, by rw [hnx]⟩
        · simp [xA, xR, Val.cellsL, Val.cellsL_append, hfl]
        · simp
    · clear hrec
      have hie : i = v.args.length := by omega
      subst hie
      rw [List.drop_eq_nil_of_le (Nat.le_refl _), mapL, List.append_nil] at hml2
      rw [hml2] at hmn hml ⊢
      by_cases h4 : f.kind = 4
      · by_cases hx0 : xs.length = 0
        · have hxe : xs = [] := List.eq_nil_of_length_eq_zero hx0
          subst hxe
          simp [round, Tryz.f64, a64, reg64, loop64, draw64, dok64, h4, xA, xR]
        · have hxe : ¬ xs = [] := fun h => hx0 (by rw [h]; rfl)
          have hall : List.take (xs.length * 3) (Val.cellsL xs) = Val.cellsL xs := List.take_of_length_le (by simp)
          simp [round, Tryz.f64, a64, reg64, loop64, draw64, dok64, h4, xA, xR, hx0, hxe, hall]
      · have hset : setsK f.kind = true := by unfold setsK wtd; simp; omega
        have hss := (head_sets hset).1 hh
        have hwk3 : wtd f.kind = true → v.ws.length = xs.length ∧ (∀ w, w ∈ v.ws → 1 ≤ w) ∧ v.ws.sum ≤ 1048576 := fun h => by
          rw [if_pos h] at hss
          have h2 := (weighI_iff v.ws 0 (by omega)).1 hss.2.1
          exact ⟨by omega, h2.1, by omega⟩
        by_cases hx0 : xs.length = 0
        · have hxe : xs = [] := List.eq_nil_of_length_eq_zero hx0
          subst hxe
          have hwe : v.ws = [] := by
            cases h : wtd f.kind
            · exact hd2 h
            · exact List.eq_nil_of_length_eq_zero (by rw [(hwk3 h).1]; rfl)
          have h7 : f.kind ≠ 7 := fun h => by
            have hw7 : wtd f.kind = true := by rw [h]; rfl
            rw [if_pos hw7] at hss
            have := hss.2.2.2
            have h8 := hml
            simp at h8
            omega
          have he0 := ev_vMerged0 f hset h7
          simp at he0
          have hmv : mergeV f.kind 0 [] v.ws = .mk 0 [] [] := by
            unfold mergeV mergeP
            rw [hwe]
            have h56 : f.kind = 5 ∨ f.kind = 6 := by omega
            rcases h56 with h | h <;> rw [h] <;> rfl
          simp [hmv, h4]
          simp [round, Tryz.f64, a64, reg64, loop64, draw64, dok64, h4, xA, xR, he0, hwe]
        · have hxe : ¬ xs = [] := fun h => hx0 (by rw [h]; rfl)
          have he := ev_vMerged f xs v.ws m.rw.length (by omega) hset (fun x hx => ⟨by have := Val.nodes_mem hx; omega, slimL_mem hmn.2 hx⟩) (by omega) hwk3 ⟨m.bx ++ [f.cells, v.cells, [.int .i64 0, .nils, .nils], [.int .i64 0, .sl m.rw.length (xs.length * 3) 0 xs.length, .isl false v.ws.length (ints v.ws)]], m.rw ++ xR xs⟩ (by simp [xR, hxe])
          simp at he
          simp [round, Tryz.f64, a64, reg64, loop64, draw64, dok64, h4, xA, hxe, he]
theorem ev_Mapped (hM : MapOk t h caps n Q) (N : Nat) : ∀ (v : Val), v.nodes ≤ N → v.nodes ≤ 1000000 → slimV v → MapAt t h caps n Q v := by
  induction N with
  | zero => intro v hN; have := v.nodes_pos; omega
  | succ N ih =>
  intro v hN hb hs f hf hok m hQ
  have hs' := (slimV_eq v ▸ hs).2
  have H : ∀ u, u ∈ v.args → MapAt t h caps n Q u := fun u hu => ih u (by have := Val.nodes_arg hu; omega) (by have := Val.nodes_arg hu; omega) (slimL_mem hs' hu)
  by_cases hk : f.kind ≤ 3
  · exact mapped_plain hM v H f hf hok hk m hQ
  · exact mapped_many hM v hb hs H f hf hok (by omega) m hQ
end
end AE
end Go.Proofs.YthoomlenmgdebaaGreatDoor

/- The reference: too large values, Normal, Is; evaluated. -/
set_option linter.unusedVariables false
set_option linter.unusedSimpArgs false
namespace Go.Proofs.YthoomlenmgdebaaGreatDoor
namespace AE
open Go

set_option maxHeartbeats 4000000 in
theorem ev_wide (ex : Fun → List Val → List Int → Bool) (n : Int) (N : Nat) : ∀ (v : Val), v.nodes ≤ N → v.nodes ≤ 1000000 → ∀ (f : Fun), shapedF f = true → okV ex n v f = true → ∀ (m : Mem), evCall C0 58 [.agg f.cells, .agg v.cells] m = some (.ret (.bool (wideV v f)), m) := by
  induction N with
  | zero => intro v hN; have := v.nodes_pos; omega
  | succ N ih =>
  intro v hN hb f hf hok m
  have hlen := v.length_args
  rw [okV_eq, Bool.and_eq_true, Bool.and_eq_true] at hok
  obtain ⟨⟨hh, _⟩, hokl⟩ := hok
  have hpb : partsB f v = true := by
    rw [head_split hf, Bool.and_eq_true, Bool.and_eq_true] at hh
    exact hh.1.1
  have hp := ev_Parts f v hf (by omega)
  obtain ⟨hPl, hPa⟩ := parts_at hf hpb
  have hst := ev_Sets f.kind
  simp [hpb] at hp
  generalize partsL f v = P at hp hPl hPa
  rw [evCall_body C0 (C0_ext _ (by decide)) (by rw [C0_P]; exact Tryz.func58) rfl (by rw [C0_ann]; rfl) (by decide) (by simp [Tryz.f58])]
  rw [wideV_eq]
  by_cases hw : setsK f.kind = true ∧ 100 < v.args.length
  · have h1 : (100 : Int) < v.args.length := by omega
    rw [hw.1] at hst
    simp [Tryz.f58, a58, reg58, loop58, draw58, dok58, hst, h1, hw.1, hw.2]
  · have hr : (setsK f.kind && decide (100 < v.args.length)) = false := by
      rw [Bool.eq_false_iff]
      intro h
      rw [Bool.and_eq_true, decide_eq_true_eq] at h
      exact hw h
    rw [hr, Bool.false_or]
    cases hs : setsK f.kind
    case' false =>
      rw [hs] at hst
      simp [Tryz.f58, a58, reg58, loop58, draw58, dok58, hst, hp]
    case' true =>
      have h2 : ¬ (100 : Int) < v.args.length := by
        intro h
        exact hw ⟨hs, by omega⟩
      rw [hs] at hst
      simp [Tryz.f58, a58, reg58, loop58, draw58, dok58, hst, hp, h2]
    all_goals
      refine loop_in (fun i : Nat => ⟨[(5, .isl false P.length (Fun.cellsL P)), (25, .isl false v.args.length (Val.cellsL v.args)), (26, .int .i64 v.args.length), (27, .int .i64 i)], ⟨m.bx ++ [f.cells, v.cells], m.rw⟩⟩)
        (fun i => some (.ret (.bool (wideL (v.args.drop i) (argF f v.num) i)), m)) (fun i => v.args.length - i) (fun i => i ≤ v.args.length) 0 ?_ ?_ ?_ ?_ ?_
      · simp
      · simp
      · omega
      · intro x; simp [Tryz.f58, a58, reg58, loop58, draw58, dok58]
      · intro i hi hrec
        by_cases hlt : i < v.args.length
        · have w2 : IntKind.i64.wrap (i + 1) = i + 1 := wrap_id _ (by omega)
          have h3 : (i + 1) * 3 ≤ v.args.length * 3 := by omega
          have hiP : i < P.length := by omega
          have hgi := hPa i hiP
          have hk01 : ¬ f.kind = 0 ∧ ¬ f.kind = 1 := by
            refine ⟨fun h => ?_, fun h => ?_⟩
            · have := (head_num hh).2.2 (.inl h); omega
            · have := (head_num hh).2.2 (.inr h); omega
          have hgs := argF_shaped hf hk01.1 hk01.2 hh i hlt
          have o0 := okL_mem hokl i hlt
          rw [Nat.zero_add] at hgs o0
          have hm := Val.nodes_arg (List.getElem_mem hlt)
          have he := ih v.args[i] (by omega) (by omega) (argF f v.num i) hgs o0
          simp at he
          rw [wideL_drop hlt]
          cases hc : wideV v.args[i] (argF f v.num i)
          · simp [hc] at he
            simp [round, Tryz.f58, a58, reg58, loop58, draw58, dok58, hlt, w2, h3, hiP, show (i + 1) * 3 ≤ P.length * 3 by omega, hgi, he, endRound_M]
            refine hrec (i + 1) _ _ ?_ ?_ ?_ ?_
            · omega
            · omega
            · simp
            · simp
          · clear hrec
            simp [hc] at he
            simp [round, Tryz.f58, a58, reg58, loop58, draw58, dok58, hlt, w2, h3, hiP, show (i + 1) * 3 ≤ P.length * 3 by omega, hgi, he]
        · clear hrec
          simp [round, Tryz.f58, a58, reg58, loop58, draw58, dok58, hlt]
          rw [List.drop_eq_nil_of_le (by omega), wideL]
/-- The normal form, or the error. -/
def rNorm (f : Fun) (n : Int) (v : Val) : Val × Int := if v.nodes ≤ 2000 then (match normV n v f with | none => (zeroV, 20) | some w => if wideV w f then (zeroV, 2) else (w, 0)) else (zeroV, 20)
theorem ev_RNormal (f : Fun) (n : Int) (v : Val) (hf : shapedF f = true) (hn0 : 0 ≤ n) (hn1 : n ≤ 1000000) (hb : v.nodes ≤ 1000000) (hs : slimV v) (m : Mem) : evCall C0 26 [.agg f.cells, .int .i64 n, .agg v.cells] m = some (.ret (.tup [.agg (rNorm f n v).1.cells, .int .i64 (rNorm f n v).2]), m) := by
  rw [evCall_body C0 (C0_ext _ (by decide)) (by rw [C0_P]; exact Tryz.func26) rfl (by rw [C0_ann]; rfl) (by decide) (by simp [Tryz.f26])]
  have hl := ev_leftV v.nodes v (Nat.le_refl _) 2001
  rw [leftV_nodes v 2001 (by omega)] at hl
  have hn := ev_normal n hn0 hn1 v.nodes v (Nat.le_refl _) hb hs f hf
  unfold rNorm
  unfold normD at hn
  by_cases h1 : v.nodes ≤ 2000
  case neg =>
    have h2 : max (2001 - (v.nodes : Int)) 0 = 0 := by omega
    rw [h2] at hl
    simp at hl
    simp [Tryz.f26, a26, reg26, hl, h1, zeroV]
  have h2 : ¬ max (2001 - (v.nodes : Int)) 0 = 0 := by omega
  simp at hl
  generalize max (2001 - (v.nodes : Int)) 0 = q at hl h2
  cases hc : normV n v f with
  | none =>
    rw [hc] at hn
    simp [zeroV] at hn
    simp [Tryz.f26, a26, reg26, hl, h1, h2, hn, zeroV]
  | some w =>
    rw [hc] at hn
    have hno := norm_nodes n v f w hs (by omega) hc
    have hw := ev_wide exN n w.nodes w (Nat.le_refl _) (by omega) f hf (norm_ok n v f w hc)
    simp at hn hw
    cases hx : wideV w f
    · simp [hx] at hw
      simp [Tryz.f26, a26, reg26, hl, h1, h2, hn, hw, hx]
    · simp [hx] at hw
      simp [Tryz.f26, a26, reg26, hl, h1, h2, hn, hw, hx, zeroV]
theorem ev_RIsV (f : Fun) (n : Int) (v : Val) (hf : shapedF f = true) (hn0 : 0 ≤ n) (hn1 : n ≤ 1000000) (hb : v.nodes ≤ 1000000) (hs : slimV v) (m : Mem) : evCall C0 36 [.agg f.cells, .int .i64 n, .agg v.cells] m = some (.ret (.bool (chkV exS n v f 2000).1), m) := by
  rw [evCall_body C0 (C0_ext _ (by decide)) (by rw [C0_P]; exact Tryz.func36) rfl (by rw [C0_ann]; rfl) (by decide) (by simp [Tryz.f36])]
  have hn := ev_RNormal f n v hf hn0 hn1 hb hs
  have hsp := (chkV_spec exS n v f 2000 (by omega)).1
  rw [← selfV_ok] at hsp
  have hgoal : (chkV exS n v f 2000).1 = (decide ((rNorm f n v).2 = 0) && decide (cmpV (rNorm f n v).1 v = 0)) := by
    rw [Bool.eq_iff_iff, hsp]
    unfold selfV rNorm
    by_cases h1 : v.nodes ≤ 2000
    · rw [if_pos h1]
      cases hc : normV n v f with
      | none => simp
      | some w =>
        cases hx : wideV w f
        · simp [hx]; omega
        · simp [hx]
    · rw [if_neg h1]
      simp
      omega
  rw [hgoal]
  have hnn : (rNorm f n v).1.nodes ≤ 1000000 ∧ slimV (rNorm f n v).1 := by
    unfold rNorm
    have hz : zeroV.nodes ≤ 1000000 ∧ slimV zeroV := by
      refine ⟨by rw [Val.nodes_eq]; simp [zeroV, Val.nodesL], ?_⟩
      rw [slimV_eq]
      exact ⟨by simp [zeroV], by simp [zeroV, slimL]⟩
    split
    · cases hc : normV n v f with
      | none => exact hz
      | some w =>
        have hno := norm_nodes n v f w hs (by omega) hc
        simp only
        split
        · exact hz
        · exact ⟨by simp only; omega, hno.2⟩
    · exact hz
  generalize rNorm f n v = r at hn hnn ⊢
  obtain ⟨w, e⟩ := r
  simp only at hn hnn ⊢
  have he := ev_RSameV w v (by omega) hnn.2
  simp at hn he
  by_cases h0 : e = 0
  · subst h0
    simp [Tryz.f36, a36, reg36, hn, he]
  · simp [Tryz.f36, a36, reg36, hn, h0]
end AE
end Go.Proofs.YthoomlenmgdebaaGreatDoor

/- ContainsFunc over values and numbers; narrow; evaluated. -/
set_option linter.unusedVariables false
set_option linter.unusedSimpArgs false
namespace Go.Proofs.YthoomlenmgdebaaGreatDoor
namespace AE
open Go

/-- The first place of which p is true, or -1. -/
def idxA {α : Type} (p : α → Bool) : List α → Int → Int
  | [], _ => -1
  | a :: r, i => if p a then i else idxA p r (i + 1)
theorem idxA_pos {α : Type} (p : α → Bool) : ∀ (l : List α) (i : Int), 0 ≤ i → decide (0 ≤ idxA p l i) = l.any p
  | [], i, _ => rfl
  | a :: r, i, h => by
    rw [idxA, List.any_cons]
    split
    · rename_i hp; simp [hp, h]
    · rename_i hp; rw [idxA_pos p r (i + 1) (by omega)]; simp [hp]
theorem idxA_drop {α : Type} {p : α → Bool} {l : List α} {i : Nat} (h : i < l.length) : idxA p (l.drop i) i = if p l[i] then (i : Int) else idxA p (l.drop (i + 1)) ((i + 1 : Nat) : Int) := by
  rw [List.drop_eq_getElem_cons h, idxA]
  rfl
section
variable {g : FuncId} {caps : List A}
set_option maxHeartbeats 2000000 in
theorem ev_IndexV (p : Val → Bool) (l : List Val) (fl : Bool) (hl : l.length ≤ 1000000000) (m : Mem) (hcl : closed m.bx.length m.rw.length (.fn g caps) = true) (hp : ∀ u, u ∈ l → evCall C0 g (.agg u.cells :: caps) m = some (.ret (.bool (p u)), m)) :
    evCall C0 129 [.isl fl l.length (Val.cellsL l), .fn g caps] m = some (.ret (.int .i64 (idxA p l 0)), m) := by
  rw [evCall_body C0 (C0_ext _ (by decide)) (by rw [C0_P]; exact Tryz.func129) rfl (by rw [C0_ann]; rfl) (by decide) (by simp [Tryz.f129])]
  simp [Tryz.f129, a129, reg129, loop129]
  refine loop_in (fun i : Nat => ⟨[(0, .isl fl l.length (Val.cellsL l)), (1, .fn g caps), (7, .int .i64 l.length), (8, .int .i64 i)], m⟩)
    (fun i => some (.ret (.int .i64 (idxA p (l.drop i) i)), m)) (fun i => l.length - i) (fun i => i ≤ l.length) 0 ?_ ?_ ?_ ?_ ?_
  · simp
  · simp
  · simp
  · intro x; simp [Tryz.f129, a129, reg129, loop129]
  · intro i hi hrec
    by_cases hlt : i < l.length
    · have w2 : IntKind.i64.wrap (i + 1) = i + 1 := wrap_id _ (by omega)
      have h3 : (i + 1) * 3 ≤ l.length * 3 := by omega
      have he := hp l[i] (List.getElem_mem hlt)
      simp at he
      rw [idxA_drop hlt]
      cases hc : p l[i]
      · simp [hc] at he
        simp [round, Tryz.f129, a129, reg129, loop129, hlt, w2, h3, he, endRound_M0, hcl]
        refine hrec (i + 1) _ _ ?_ ?_ ?_ ?_
        · omega
        · omega
        · simp
        · simp
      · simp [hc] at he
        simp [round, Tryz.f129, a129, reg129, loop129, hlt, w2, h3, he]
    · clear hrec
      rw [List.drop_eq_nil_of_le (by omega), idxA]
      simp [round, Tryz.f129, a129, reg129, loop129, hlt]
theorem ev_ContainsV (p : Val → Bool) (l : List Val) (fl : Bool) (hl : l.length ≤ 1000000000) (m : Mem) (hcl : closed m.bx.length m.rw.length (.fn g caps) = true) (hp : ∀ u, u ∈ l → evCall C0 g (.agg u.cells :: caps) m = some (.ret (.bool (p u)), m)) :
    evCall C0 99 [.isl fl l.length (Val.cellsL l), .fn g caps] m = some (.ret (.bool (l.any p)), m) := by
  rw [evCall_body C0 (C0_ext _ (by decide)) (by rw [C0_P]; exact Tryz.func99) rfl (by rw [C0_ann]; rfl) (by decide) (by simp [Tryz.f99])]
  have he := ev_IndexV p l fl hl m hcl hp
  have h1 := idxA_pos p l 0 (by omega)
  simp [Tryz.f99, a99, reg99, he, h1]
set_option maxHeartbeats 2000000 in
theorem ev_IndexI (p : Int → Bool) (l : List Int) (fl : Bool) (hl : l.length ≤ 1000000000) (m : Mem) (hcl : closed m.bx.length m.rw.length (.fn g caps) = true) (hp : ∀ u, u ∈ l → evCall C0 g (.int .i64 u :: caps) m = some (.ret (.bool (p u)), m)) :
    evCall C0 63 [.isl fl l.length (ints l), .fn g caps] m = some (.ret (.int .i64 (idxA p l 0)), m) := by
  rw [evCall_body C0 (C0_ext _ (by decide)) (by rw [C0_P]; exact Tryz.func63) rfl (by rw [C0_ann]; rfl) (by decide) (by simp [Tryz.f63])]
  simp [Tryz.f63, a63, reg63, loop63]
  refine loop_in (fun i : Nat => ⟨[(0, .isl fl l.length (ints l)), (1, .fn g caps), (7, .int .i64 l.length), (8, .int .i64 i)], m⟩)
    (fun i => some (.ret (.int .i64 (idxA p (l.drop i) i)), m)) (fun i => l.length - i) (fun i => i ≤ l.length) 0 ?_ ?_ ?_ ?_ ?_
  · simp
  · simp
  · simp
  · intro x; simp [Tryz.f63, a63, reg63, loop63]
  · intro i hi hrec
    by_cases hlt : i < l.length
    · have w2 : IntKind.i64.wrap (i + 1) = i + 1 := wrap_id _ (by omega)
      have h3 : i + 1 ≤ l.length := by omega
      have he := hp l[i] (List.getElem_mem hlt)
      have hat := ints_at hlt
      rw [idxA_drop hlt]
      cases hc : p l[i]
      · simp [hc] at he
        simp [round, Tryz.f63, a63, reg63, loop63, hlt, w2, h3, he, hat, endRound_M0, hcl]
        refine hrec (i + 1) _ _ ?_ ?_ ?_ ?_
        · omega
        · omega
        · simp
        · simp
      · simp [hc] at he
        simp [round, Tryz.f63, a63, reg63, loop63, hlt, w2, h3, he, hat]
    · clear hrec
      rw [List.drop_eq_nil_of_le (by omega), idxA]
      simp [round, Tryz.f63, a63, reg63, loop63, hlt]
theorem ev_ContainsI (p : Int → Bool) (l : List Int) (fl : Bool) (hl : l.length ≤ 1000000000) (m : Mem) (hcl : closed m.bx.length m.rw.length (.fn g caps) = true) (hp : ∀ u, u ∈ l → evCall C0 g (.int .i64 u :: caps) m = some (.ret (.bool (p u)), m)) :
    evCall C0 32 [.isl fl l.length (ints l), .fn g caps] m = some (.ret (.bool (l.any p)), m) := by
  rw [evCall_body C0 (C0_ext _ (by decide)) (by rw [C0_P]; exact Tryz.func32) rfl (by rw [C0_ann]; rfl) (by decide) (by simp [Tryz.f32])]
  have he := ev_IndexI p l fl hl m hcl hp
  have h1 := idxA_pos p l 0 (by omega)
  simp [Tryz.f32, a32, reg32, he, h1]
end
theorem wideL_any {c : Fun} : ∀ {l : List Val} {g : Nat → Fun} {i : Nat}, (∀ j, g j = c) → wideL l g i = l.any fun u => wideV u c
  | [], g, i, _ => by rw [wideL]; rfl
  | v :: r, g, i, h => by rw [wideL, h i, wideL_any h, List.any_cons]
theorem ev_narrow (ex : Fun → List Val → List Int → Bool) (n : Int) (N : Nat) : ∀ (v : Val), v.nodes ≤ N → v.nodes ≤ 1000000 → ∀ (f : Fun), shapedF f = true → okV ex n v f = true → ∀ (m : Mem), evCall C0 78 [.agg f.cells, .agg v.cells] m = some (.ret (.bool (!wideV v f)), m) := by
  induction N with
  | zero => intro v hN; have := v.nodes_pos; omega
  | succ N ih =>
  intro v hN hb f hf hok m
  have hlen := v.length_args
  rw [okV_eq, Bool.and_eq_true, Bool.and_eq_true] at hok
  obtain ⟨⟨hh, _⟩, hokl⟩ := hok
  obtain ⟨hd1, hd2, hd3⟩ := head_num hh
  have hh' := hh
  unfold headL at hh'
  simp only [Bool.and_eq_true] at hh'
  obtain ⟨⟨q1, q2⟩, q3⟩ := hh'
  have key : ∀ (k : 4 ≤ f.kind) (hl : f.args.length = 1), evCall C0 78 [.agg f.cells, .agg v.cells] m = some (.ret (.bool (!wideV v f)), m) := fun k hl => by
    have f0 : 0 < f.args.length := by omega
    have b1 := Fun.at_cellsL f.args 0 f0
    simp at b1
    have hg : ∀ j, argF f v.num j = f.args[0] := fun j => by
      unfold argF
      rw [if_neg (by omega), if_neg (by omega), List.getD_eq_getElem?_getD, List.getElem?_eq_getElem f0]
      rfl
    have hset : setsK f.kind = false → v.args.length ≤ 100 := fun h => by
      have h4 : f.kind = 4 := by
        have := shaped_kind hf
        unfold setsK wtd at h
        simp at h
        omega
      simp [h4] at q1
      have := shaped_num hf
      omega
    have hwd : wideV v f = (decide (100 < v.args.length) || v.args.any fun u => wideV u f.args[0]) := by
      rw [wideV_eq, wideL_any hg]
      cases hs : setsK f.kind
      · have := hset hs
        simp [show ¬ 100 < v.args.length by omega]
      · simp
    have hcf : ∀ (M : Mem) (k : Nat), M.bx[k]? = some f.cells → evCall C0 99 [.isl false v.args.length (Val.cellsL v.args), .fn 100 [.ptr k 0]] M = some (.ret (.bool (v.args.any fun u => wideV u f.args[0])), M) := fun M k hMk => by
      have hk1 : k < M.bx.length := (List.getElem?_eq_some_iff.1 hMk).1
      have hk2 := (List.getElem?_eq_some_iff.1 hMk).2
      refine ev_ContainsV _ _ _ (by omega) _ (by simp [hk1]) fun u hu => ?_
      have hm := Val.nodes_arg hu
      obtain ⟨j, hj, rfl⟩ := List.getElem_of_mem hu
      have o0 := okL_mem hokl j hj
      rw [hg] at o0
      have he := ih v.args[j] (by omega) (by omega) f.args[0] (shaped_arg hf f0) o0
      simp at he
      rw [evCall_body C0 (C0_ext _ (by decide)) (by rw [C0_P]; exact Tryz.func100) rfl (by rw [C0_ann]; rfl) (by decide) (by simp [Tryz.f100])]
      simp [Tryz.f100, a100, reg100, draw100, dok100, at_lt, hk1, hk2, b1, he, hl]
    rw [hwd]
    have hcf1 := hcf ⟨m.bx ++ [f.cells, v.cells], m.rw⟩ m.bx.length (by simp)
    simp at hcf1
    rw [evCall_body C0 (C0_ext _ (by decide)) (by rw [C0_P]; exact Tryz.func78) rfl (by rw [C0_ann]; rfl) (by decide) (by simp [Tryz.f78])]
    have k4 : ¬ f.kind = 0 ∧ ¬ f.kind = 1 ∧ ¬ f.kind = 2 ∧ ¬ f.kind = 3 := by omega
    by_cases hc : v.args.length ≤ 100
    · simp [Tryz.f78, a78, reg78, draw78, dok78, k4, show (v.args.length : Int) ≤ 100 by omega, hcf1, show ¬ 100 < v.args.length by omega]
    · simp [Tryz.f78, a78, reg78, draw78, dok78, k4, show ¬ (v.args.length : Int) ≤ 100 by omega, show 100 < v.args.length by omega]
  rcases shaped_kind hf with ⟨h0, hl⟩ | ⟨h0, hl⟩ | ⟨h0, hl⟩ | ⟨h0, hl⟩ | ⟨h0, hl⟩ | ⟨h0, hl⟩ | ⟨h0, hl⟩ | ⟨h0, hl⟩
  · have : v.args = [] := List.eq_nil_of_length_eq_zero (hd3 (.inl h0))
    rw [evCall_body C0 (C0_ext _ (by decide)) (by rw [C0_P]; exact Tryz.func78) rfl (by rw [C0_ann]; rfl) (by decide) (by simp [Tryz.f78])]
    rw [wideV_eq, this, wideL]
    simp [Tryz.f78, a78, reg78, draw78, dok78, h0, setsK, wtd]
  · have : v.args = [] := List.eq_nil_of_length_eq_zero (hd3 (.inr h0))
    rw [evCall_body C0 (C0_ext _ (by decide)) (by rw [C0_P]; exact Tryz.func78) rfl (by rw [C0_ann]; rfl) (by decide) (by simp [Tryz.f78])]
    rw [wideV_eq, this, wideL]
    simp [Tryz.f78, a78, reg78, draw78, dok78, h0, setsK, wtd]
  · simp [h0, hl] at q1
    have a0 : 0 < v.args.length := by omega
    have a1 : 1 < v.args.length := by omega
    have f0 : 0 < f.args.length := by omega
    have f1 : 1 < f.args.length := by omega
    have g0 : argF f v.num 0 = f.args[0] := by unfold argF; rw [if_pos h0, List.getD_eq_getElem?_getD, List.getElem?_eq_getElem f0]; rfl
    have g1 : argF f v.num 1 = f.args[1] := by unfold argF; rw [if_pos h0, List.getD_eq_getElem?_getD, List.getElem?_eq_getElem f1]; rfl
    have b1 := Fun.at_cellsL f.args 0 f0
    have b2 := Fun.at_cellsL f.args 1 f1
    have b3 := Val.at_cellsL v.args 0 a0
    have b4 := Val.at_cellsL v.args 1 a1
    simp at b1 b2 b3 b4
    have o0 := okL_mem hokl 0 a0
    have o1 := okL_mem hokl 1 a1
    rw [Nat.zero_add] at o0 o1
    rw [g0] at o0
    rw [g1] at o1
    have m0 := Val.nodes_arg (List.getElem_mem a0)
    have m1 := Val.nodes_arg (List.getElem_mem a1)
    have he0 := ih v.args[0] (by omega) (by omega) f.args[0] (shaped_arg hf f0) o0
    have he1 := ih v.args[1] (by omega) (by omega) f.args[1] (shaped_arg hf f1) o1
    simp at he0 he1
    have hw : wideV v f = (wideV v.args[0] f.args[0] || wideV v.args[1] f.args[1]) := by
      have e0 := wideL_drop a0 (argF f v.num)
      have e1 := wideL_drop a1 (argF f v.num)
      rw [List.drop_zero] at e0
      rw [wideV_eq, e0, e1, g0, g1, List.drop_eq_nil_of_le (by omega), wideL]
      simp [h0, setsK, wtd]
    rw [hw]
    rw [evCall_body C0 (C0_ext _ (by decide)) (by rw [C0_P]; exact Tryz.func78) rfl (by rw [C0_ann]; rfl) (by decide) (by simp [Tryz.f78])]
    cases hc : wideV v.args[0] f.args[0]
    · simp [hc] at he0
      simp [Tryz.f78, a78, reg78, draw78, dok78, h0, ← q1, hl, b1, b2, b3, b4, he0, he1]
    · simp [hc] at he0
      simp [Tryz.f78, a78, reg78, draw78, dok78, h0, ← q1, hl, b1, b2, b3, b4, he0, he1]
  · simp [h0] at q1
    have a0 : 0 < v.args.length := by omega
    have f0 : 0 < f.args.length := by omega
    have f1 : 1 < f.args.length := by omega
    have b1 := Fun.at_cellsL f.args 0 f0
    have b2 := Fun.at_cellsL f.args 1 f1
    have b3 := Val.at_cellsL v.args 0 a0
    simp at b1 b2 b3
    have o0 := okL_mem hokl 0 a0
    rw [Nat.zero_add] at o0
    have m0 := Val.nodes_arg (List.getElem_mem a0)
    have e0 := wideL_drop a0 (argF f v.num)
    rw [List.drop_zero, List.drop_eq_nil_of_le (by omega), wideL, Bool.or_false] at e0
    rw [wideV_eq, e0]
    by_cases cn : v.num = 0
    · have g0 : argF f v.num 0 = f.args[0] := by unfold argF; rw [if_neg (by omega), if_pos h0, cn, List.getD_eq_getElem?_getD, List.getElem?_eq_getElem (by simpa using f0)]; rfl
      rw [g0] at o0 ⊢
      have he0 := ih v.args[0] (by omega) (by omega) f.args[0] (shaped_arg hf f0) o0
      simp at he0
      rw [evCall_body C0 (C0_ext _ (by decide)) (by rw [C0_P]; exact Tryz.func78) rfl (by rw [C0_ann]; rfl) (by decide) (by simp [Tryz.f78])]
      simp [Tryz.f78, a78, reg78, draw78, dok78, h0, q1.2, hl, b1, b2, b3, he0, cn, setsK, wtd]
    · have cm : v.num = 1 := by omega
      have g0 : argF f v.num 0 = f.args[1] := by unfold argF; rw [if_neg (by omega), if_pos h0, cm, List.getD_eq_getElem?_getD, List.getElem?_eq_getElem (by simpa using f1)]; rfl
      rw [g0] at o0 ⊢
      have he0 := ih v.args[0] (by omega) (by omega) f.args[1] (shaped_arg hf f1) o0
      simp at he0
      rw [evCall_body C0 (C0_ext _ (by decide)) (by rw [C0_P]; exact Tryz.func78) rfl (by rw [C0_ann]; rfl) (by decide) (by simp [Tryz.f78])]
      simp [Tryz.f78, a78, reg78, draw78, dok78, h0, q1.2, hl, b1, b2, b3, he0, cm, setsK, wtd]
  · exact key (by omega) hl
  · exact key (by omega) hl
  · exact key (by omega) hl
  · exact key (by omega) hl
end AE
end Go.Proofs.YthoomlenmgdebaaGreatDoor

/- Values: the leaves; evaluated. -/
set_option linter.unusedVariables false
set_option linter.unusedSimpArgs false
namespace Go.Proofs.YthoomlenmgdebaaGreatDoor
namespace AE
open Go

def lsRow (l : List Int) : List Row := if l.length = 0 then [] else [⟨3, ints l⟩]
end AE
end Go.Proofs.YthoomlenmgdebaaGreatDoor

/- The reference's states of a value; evaluated. -/
set_option linter.unusedVariables false
set_option linter.unusedSimpArgs false
namespace Go.Proofs.YthoomlenmgdebaaGreatDoor
namespace AE
open Go

/-! ### All states -/
structure StS where
  R : List Row
  id : Nat
  l : List Int
/-- Rows that are kept, or closed without boxes. -/
def Grow (R R' : List Row) : Prop := R.length ≤ R'.length ∧ ∀ i, i < R'.length → R'[i]? = R[i]? ∨ ∃ r, R'[i]? = some r ∧ r.cs.all (closed 0 0) = true
theorem Grow.refl (R : List Row) : Grow R R := ⟨Nat.le_refl _, fun _ _ => .inl rfl⟩
theorem Grow.trans {a b c : List Row} (h : Grow a b) (k : Grow b c) : Grow a c := by
  refine ⟨Nat.le_trans h.1 k.1, fun i hi => ?_⟩
  rcases k.2 i hi with h1 | h1
  · by_cases hb : i < b.length
    · rcases h.2 i hb with h2 | ⟨r, h2, h3⟩
      · exact .inl (h1.trans h2)
      · exact .inr ⟨r, h1.trans h2, h3⟩
    · rw [List.getElem?_eq_none (show b.length ≤ i by omega)] at h1
      rw [List.getElem?_eq_getElem hi] at h1
      cases h1
  · exact .inr h1
theorem Grow.rows {R R' : List Row} (h : Grow R R') (nb : Nat) : RowsOk nb R R' := fun i hi => by
  rcases h.2 i hi with h1 | ⟨r, h1, h2⟩
  · exact .inl h1
  · exact .inr ⟨r, h1, closed_up h2⟩
end AE
end Go.Proofs.YthoomlenmgdebaaGreatDoor

/- Values: States; evaluated. -/
set_option linter.unusedVariables false
set_option linter.unusedSimpArgs false
namespace Go.Proofs.YthoomlenmgdebaaGreatDoor
namespace AE
open Go

end AE
end Go.Proofs.YthoomlenmgdebaaGreatDoor

/- The statement about the forms of values; evaluated. -/
set_option linter.unusedVariables false
set_option linter.unusedSimpArgs false
namespace Go.Proofs.YthoomlenmgdebaaGreatDoor
namespace AE
open Go

theorem ev_vfew (f : Fun) (fl : Bool) (l : List Val) (hl : l.length ≤ 1000) (m : Mem) : evCall C0 8 [.agg f.cells, .isl fl l.length (Val.cellsL l)] m = some (.ret (.bool ((l.all fun v => fewV v 3000) && decide (0 < leftF f 101))), m) := by
  rw [evCall_body C0 (C0_ext _ (by decide)) (by rw [C0_P]; exact Tryz.func8) rfl (by rw [C0_ann]; rfl) (by decide) (by simp [Tryz.f8])]
  simp [Tryz.f8, a8, reg8, loop8]
  refine loop_in (fun i : Nat => ⟨[(2, .ptr m.bx.length 0), (7, .isl fl l.length (Val.cellsL l)), (8, .int .i64 l.length), (9, .int .i64 i)], ⟨m.bx ++ [f.cells], m.rw⟩⟩)
    (fun i => some (.ret (.bool (((l.drop i).all fun v => fewV v 3000) && decide (0 < leftF f 101))), m)) (fun i => l.length - i) (fun i => i ≤ l.length) 0 ?_ ?_ ?_ ?_ ?_
  · simp
  · simp
  · simp
  · intro x; simp [Tryz.f8, a8, reg8, loop8]
  · intro i hi hrec
    by_cases hlt : i < l.length
    · have w2 : IntKind.i64.wrap (i + 1) = i + 1 := wrap_id _ (by omega)
      have he := ev_FewV l[i] 3000
      simp at he
      have h3 : (i + 1) * 3 ≤ l.length * 3 := by omega
      rw [List.drop_eq_getElem_cons hlt, List.all_cons]
      cases hc : fewV l[i] 3000
      · simp [hc] at he
        simp [round, Tryz.f8, a8, reg8, loop8, hlt, w2, h3, he]
      · simp [hc] at he
        simp [round, Tryz.f8, a8, reg8, loop8, hlt, w2, h3, he, endRound_M]
        refine hrec (i + 1) _ _ ?_ ?_ ?_ ?_
        · omega
        · omega
        · simp
        · simp
    · clear hrec
      have he := ev_Few f 100
      simp at he
      simp [round, Tryz.f8, a8, reg8, loop8, hlt, he]
      rw [List.drop_eq_nil_of_le (by omega)]
      simp
set_option maxHeartbeats 1000000 in
theorem ev_vfault (f : Fun) (n : Int) (fl : Bool) (l : List Val) (hbf : f.nodes ≤ 1000000000) (hl : l.length ≤ 1000) (hv : ∀ v, v ∈ l → v.nodes ≤ 1000000 ∧ slimV v) (m : Mem) : evCall C0 11 [.agg f.cells, .int .i64 n, .isl fl l.length (Val.cellsL l)] m = some (.ret (.int .i64 (if errF f n = 0 then (if (l.all fun v => (chkV exS n v f 2000).1) then 0 else 20) else errF f n)), m) := by
  rw [evCall_body C0 (C0_ext _ (by decide)) (by rw [C0_P]; exact Tryz.func11) rfl (by rw [C0_ann]; rfl) (by decide) (by simp [Tryz.f11])]
  have he := ev_Is f hbf
  rw [show (decide (0 < leftF f 21) && decide (f.depth ≤ 8) && shapedF f) = okF f from isF_okF f] at he
  simp at he
  unfold errF
  cases hc : okF f
  · simp [hc] at he
    simp [Tryz.f11, a11, reg11, loop11, he]
  · simp [hc] at he
    by_cases h1 : n < 0
    · simp [Tryz.f11, a11, reg11, loop11, he, h1]
    by_cases h2 : 100 < n
    · simp [Tryz.f11, a11, reg11, loop11, he, h1, h2]
    have hz2 := errF_zero (f := f) (n := n) (by unfold errF; rw [hc, if_pos rfl, if_neg (by omega)])
    simp [Tryz.f11, a11, reg11, loop11, he, h1, h2]
    refine loop_in (fun i : Nat => ⟨[(1, .int .i64 n), (3, .ptr m.bx.length 0), (20, .isl fl l.length (Val.cellsL l)), (21, .int .i64 l.length), (22, .int .i64 i)], ⟨m.bx ++ [f.cells], m.rw⟩⟩)
      (fun i => some (.ret (.int .i64 (if ((l.drop i).all fun v => (chkV exS n v f 2000).1) then 0 else 20)), m)) (fun i => l.length - i) (fun i => i ≤ l.length) 0 ?_ ?_ ?_ ?_ ?_
    · simp
    · simp
    · simp
    · intro x; simp [Tryz.f11, a11, reg11, loop11]
    · intro i hi hrec
      by_cases hlt : i < l.length
      · have w2 : IntKind.i64.wrap (i + 1) = i + 1 := wrap_id _ (by omega)
        have hvi := hv l[i] (List.getElem_mem hlt)
        have he2 := ev_RIsV f n l[i] hz2.1 (by omega) (by omega) hvi.1 hvi.2
        simp at he2
        have h3 : (i + 1) * 3 ≤ l.length * 3 := by omega
        rw [List.drop_eq_getElem_cons hlt, List.all_cons]
        cases hc2 : (chkV exS n l[i] f 2000).1
        · simp [hc2] at he2
          simp [round, Tryz.f11, a11, reg11, loop11, hlt, w2, h3, he2]
        · simp [hc2] at he2
          simp [round, Tryz.f11, a11, reg11, loop11, hlt, w2, h3, he2, endRound_M]
          refine hrec (i + 1) _ _ ?_ ?_ ?_ ?_
          · omega
          · omega
          · simp
          · simp
      · clear hrec
        simp [round, Tryz.f11, a11, reg11, loop11, hlt]
        rw [List.drop_eq_nil_of_le (by omega)]
        simp
end AE
end Go.Proofs.YthoomlenmgdebaaGreatDoor

/- The normal form of a value, by the program; the statement about it; evaluated. -/
set_option linter.unusedVariables false
set_option linter.unusedSimpArgs false
namespace Go.Proofs.YthoomlenmgdebaaGreatDoor
namespace AE
open Go

theorem idV_ok (n : Int) : MapOk idV 77 [] n (fun _ => True) where
  ev x _ _ m _ := by
    rw [evCall_body C0 (C0_ext _ (by decide)) (by rw [C0_P]; exact Tryz.func77) rfl (by rw [C0_ann]; rfl) (by decide) (by simp [Tryz.f77])]
    simp [Tryz.f77, a77, reg77, idV]
  up _ _ _ _ := trivial
  cl m _ := by simp
  sm x := by rw [Val.nodes_eq, slimV_eq]; simp [idV, Val.nodesL, slimL]
theorem ev_vnormal (f : Fun) (n : Int) (v : Val) (hf : shapedF f = true) (hb : v.nodes ≤ 1000000) (hs : slimV v) (m : Mem) : evCall C0 45 [.agg f.cells, .int .i64 n, .agg v.cells] m = some (.ret (.tup [.agg (rNorm f n v).1.cells, .int .i64 (rNorm f n v).2]), m) := by
  have he := ev_vcheck (m.bx.length + 3) n true v.nodes v (Nat.le_refl _) (by omega) hs f hf 2000 ⟨m.bx ++ [f.cells, v.cells, [.int .i64 0, .nils, .nils], [.int .i64 n, .int .i64 2000, .bool true]], m.rw⟩ (by omega) (by omega) (by simp)
  rw [show exOf true = exL from rfl] at he
  have hspec := (chkV_spec exL n v f 2000 (by omega)).1
  rw [evCall_body C0 (C0_ext _ (by decide)) (by rw [C0_P]; exact Tryz.func45) rfl (by rw [C0_ann]; rfl) (by decide) (by simp [Tryz.f45])]
  simp at he
  cases hc : (chkV exL n v f 2000).1
  · simp [hc] at he
    have hr : rNorm f n v = (zeroV, 20) := by
      unfold rNorm
      split
      · rename_i hn
        have : okV exL n v f = false := by
          rw [Bool.eq_false_iff]
          intro h
          have := hspec.2 ⟨by omega, h⟩
          rw [hc] at this
          cases this
        rw [norm_none n v f this]
      · rfl
    rw [hr]
    simp [Tryz.f45, a45, reg45, he, zeroV]
  · simp [hc] at he
    have h1 := hspec.1 hc
    have hnm := norm_map n v f hf h1.2
    have hok := norm_ok n v f _ hnm
    have hmn := map_nodes (t := idV) (idV_ok n).sm v f hs (by omega)
    have hmp := ev_Mapped (idV_ok n) v.nodes v (Nat.le_refl _) hb hs f hf h1.2
    have hnr := ev_narrow exN n _ (mapV idV v f) (Nat.le_refl _) (by omega) f hf hok
    have hr : rNorm f n v = if wideV (mapV idV v f) f then (zeroV, 2) else (mapV idV v f, 0) := by
      unfold rNorm
      rw [if_pos (by omega), hnm]
    rw [hr]
    simp at hmp hnr
    cases hw : wideV (mapV idV v f) f
    · simp [hw] at hnr
      simp [Tryz.f45, a45, reg45, he, hmp, hnr]
    · simp [hw] at hnr
      simp [Tryz.f45, a45, reg45, he, hmp, hnr, zeroV]
def pNorm (f : Fun) (n : Int) (v : Val) : Val × Int := if errF f n = 0 then rNorm f n v else (zeroV, errF f n)
theorem ev_VNormal (f : Fun) (n : Int) (v : Val) (hbf : f.nodes ≤ 1000000000) (hb : v.nodes ≤ 1000000) (hs : slimV v) (m : Mem) : evCall C0 25 [.agg f.cells, .int .i64 n, .agg v.cells] m = some (.ret (.tup [.agg (pNorm f n v).1.cells, .int .i64 (pNorm f n v).2]), m) := by
  rw [evCall_body C0 (C0_ext _ (by decide)) (by rw [C0_P]; exact Tryz.func25) rfl (by rw [C0_ann]; rfl) (by decide) (by simp [Tryz.f25])]
  have he := ev_fine f n hbf
  simp at he
  unfold pNorm
  by_cases h0 : errF f n = 0
  · have h1 := ev_vnormal f n v (errF_zero h0).1 hb hs
    simp at h1
    simp [h0] at he
    simp [Tryz.f25, a25, reg25, he, h1, h0]
  · simp [Tryz.f25, a25, reg25, he, h0, zeroV]
end AE
end Go.Proofs.YthoomlenmgdebaaGreatDoor

/- A value mapped along a function: the reference's, the program's; evaluated. -/
set_option linter.unusedVariables false
set_option linter.unusedSimpArgs false
namespace Go.Proofs.YthoomlenmgdebaaGreatDoor
namespace AE
open Go

mutual
theorem ok_loose {ex : Fun → List Val → List Int → Bool} (n : Int) : ∀ (v : Val) (f : Fun), okV ex n v f = true → okV exL n v f = true
  | .mk k l w, f, h => by
    rw [okV, Bool.and_eq_true, Bool.and_eq_true] at h ⊢
    exact ⟨⟨h.1.1, rfl⟩, okL_loose n l _ 0 h.2⟩
theorem okL_loose {ex : Fun → List Val → List Int → Bool} (n : Int) : ∀ (l : List Val) (g : Nat → Fun) (i : Nat), okL ex n l g i = true → okL exL n l g i = true
  | [], g, i, h => by rw [okL]
  | v :: r, g, i, h => by
    rw [okL, Bool.and_eq_true] at h ⊢
    exact ⟨ok_loose n v _ h.1, okL_loose n r _ _ h.2⟩
end
/-- The state to which a function leads. -/
def toV (to : List Int) (x : Int) : Val := idV (to.getD x.toNat 0)
theorem toV_sm (to : List Int) (x : Int) : (toV to x).nodes ≤ 1 ∧ slimV (toV to x) := by
  unfold toV idV
  rw [Val.nodes_eq, slimV_eq]
  simp [Val.nodesL, slimL]
theorem along_ok (to : List Int) (fl : Bool) (n : Int) (hto : n ≤ to.length) (id : Nat) : MapOk (toV to) 65 [.ptr id 0] n (fun m => m.bx[id]? = some [.isl fl to.length (ints to)]) where
  ev x h0 h1 m hm := by
    have hid : id < m.bx.length := (List.getElem?_eq_some_iff.1 hm).1
    have hg := (List.getElem?_eq_some_iff.1 hm).2
    obtain ⟨k, rfl⟩ : ∃ k : Nat, x = k := ⟨x.toNat, by omega⟩
    have hxl : k < to.length := by omega
    have hat := ints_at hxl
    rw [evCall_body C0 (C0_ext _ (by decide)) (by rw [C0_P]; exact Tryz.func65) rfl (by rw [C0_ann]; rfl) (by decide) (by simp [Tryz.f65])]
    simp [Tryz.f65, a65, reg65, at_lt, hid, hg, hxl, show k + 1 ≤ to.length by omega, hat, toV, idV]
  up m b r h := by
    have hid : id < m.bx.length := (List.getElem?_eq_some_iff.1 h).1
    simp only
    rw [List.getElem?_append_left hid]
    exact h
  cl m h := by
    have hid : id < m.bx.length := (List.getElem?_eq_some_iff.1 h).1
    simp [hid]
  sm := toV_sm to
theorem ev_Along (to : List Int) (fl : Bool) (n : Int) (hto : n ≤ to.length) (f : Fun) (v : Val) (hf : shapedF f = true) (hok : okV exL n v f = true) (hb : v.nodes ≤ 1000000) (hs : slimV v) (m : Mem) :
    evCall C0 34 [.agg f.cells, .agg v.cells, .isl fl to.length (ints to)] m = some (.ret (.agg (mapV (toV to) v f).cells), m) := by
  rw [evCall_body C0 (C0_ext _ (by decide)) (by rw [C0_P]; exact Tryz.func34) rfl (by rw [C0_ann]; rfl) (by decide) (by simp [Tryz.f34])]
  have he := ev_Mapped (along_ok to fl n hto (m.bx.length + 2)) v.nodes v (Nat.le_refl _) hb hs f hf hok ⟨m.bx ++ [f.cells, v.cells, [.isl fl to.length (ints to)], [.int .i64 0, .nils, .nils]], m.rw⟩ (by simp)
  simp at he
  simp [Tryz.f34, a34, reg34, he]
/-- A list is a function from n states to numbers below 100. -/
def mapsB (n : Int) (to : List Int) : Bool := !(to.any fun y => decide (y < 0) || decide (100 ≤ y)) && decide ((to.length : Int) = n)
theorem ev_Map1 (y : Int) (m : Mem) : evCall C0 33 [.int .i64 y] m = some (.ret (.bool (decide (y < 0) || decide (100 ≤ y))), m) := by
  rw [evCall_body C0 (C0_ext _ (by decide)) (by rw [C0_P]; exact Tryz.func33) rfl (by rw [C0_ann]; rfl) (by decide) (by simp [Tryz.f33])]
  by_cases h : y < 0
  · simp [Tryz.f33, a33, reg33, h]
  · simp [Tryz.f33, a33, reg33, h]
def pMap (to : List Int) (f : Fun) (n : Int) (v : Val) : Val × Int := if errV f n v = 0 then (if mapsB n to then (mapV (toV to) v f, 0) else (zeroV, 1)) else (zeroV, errV f n v)
theorem errV_zero {f : Fun} {n : Int} {v : Val} (h0 : errV f n v = 0) : errF f n = 0 ∧ okV exS n v f = true ∧ v.nodes ≤ 2000 := by
  unfold errV at h0
  by_cases hx : errF f n = 0
  · rw [if_pos hx] at h0
    refine ⟨hx, ?_⟩
    cases hc : (chkV exS n v f 2000).1
    · rw [hc] at h0; simp at h0
    · have := ((chkV_spec exS n v f 2000 (by omega)).1).1 hc
      exact ⟨this.2, by omega⟩
  · rw [if_neg hx] at h0; exact absurd h0 hx
theorem ev_VMap (to : List Int) (fl : Bool) (htl : to.length ≤ 1000000000) (f : Fun) (n : Int) (v : Val) (hbf : f.nodes ≤ 1000000000) (hb : v.nodes ≤ 1000000) (hs : slimV v) (m : Mem) :
    evCall C0 10 [.agg f.cells, .int .i64 n, .agg v.cells, .isl fl to.length (ints to)] m = some (.ret (.tup [.agg (pMap to f n v).1.cells, .int .i64 (pMap to f n v).2]), m) := by
  have he := ev_whole f n v hbf (by omega) hs
  rw [evCall_body C0 (C0_ext _ (by decide)) (by rw [C0_P]; exact Tryz.func10) rfl (by rw [C0_ann]; rfl) (by decide) (by simp [Tryz.f10])]
  simp at he
  unfold pMap
  by_cases h0 : errV f n v = 0
  case neg => simp [Tryz.f10, a10, reg10, he, h0, zeroV]
  obtain ⟨h1, h2, h3⟩ := errV_zero h0
  have hz := errF_zero h1
  have hc := fun m => ev_ContainsI (g := 33) (caps := []) (fun y => decide (y < 0) || decide (100 ≤ y)) to fl htl m (by simp) fun y _ => ev_Map1 y m
  simp [h0] at he
  unfold mapsB
  by_cases hl : (to.length : Int) = n
  · have ha := ev_Along to fl n (by omega) f v hz.1 (ok_loose n v f h2) hb hs
    simp at ha
    cases hq : to.any fun y => decide (y < 0) || decide (100 ≤ y)
    · simp only [hq] at hc
      simp [Tryz.f10, a10, reg10, he, h0, hl, hc, ha]
    · simp only [hq] at hc
      simp [Tryz.f10, a10, reg10, he, h0, hl, hc, zeroV]
  · simp [Tryz.f10, a10, reg10, he, h0, hl, zeroV]
end AE
end Go.Proofs.YthoomlenmgdebaaGreatDoor

/- The statement about mapping values; evaluated. -/
set_option linter.unusedVariables false
set_option linter.unusedSimpArgs false
namespace Go.Proofs.YthoomlenmgdebaaGreatDoor
namespace AE
open Go

theorem ev_maps (n : Int) (to : List Int) (fl : Bool) (htl : to.length ≤ 9223372036854775807) (m : Mem) : evCall C0 12 [.int .i64 n, .isl fl to.length (ints to)] m = some (.ret (.bool (mapsB n to)), m) := by
  rw [evCall_body C0 (C0_ext _ (by decide)) (by rw [C0_P]; exact Tryz.func12) rfl (by rw [C0_ann]; rfl) (by decide) (by simp [Tryz.f12])]
  simp [Tryz.f12, a12, reg12, loop12]
  refine loop_in (fun i : Nat => ⟨[(0, .int .i64 n), (1, .isl fl to.length (ints to)), (7, .isl fl to.length (ints to)), (8, .int .i64 to.length), (9, .int .i64 i)], m⟩)
    (fun i => some (.ret (.bool (!((to.drop i).any fun y => decide (y < 0) || decide (100 ≤ y)) && decide ((to.length : Int) = n))), m)) (fun i => to.length - i) (fun i => i ≤ to.length) 0 ?_ ?_ ?_ ?_ ?_
  · simp
  · simp [mapsB]
  · simp
  · intro x; simp [Tryz.f12, a12, reg12, loop12]
  · intro i hi hrec
    by_cases hlt : i < to.length
    · have w2 : IntKind.i64.wrap (i + 1) = i + 1 := wrap_id _ (by omega)
      have h3 : i + 1 ≤ to.length := by omega
      have hat := ints_at hlt
      rw [List.drop_eq_getElem_cons hlt, List.any_cons]
      by_cases h1 : to[i] < 0
      · simp [round, Tryz.f12, a12, reg12, loop12, hlt, w2, h3, hat, h1]
      · by_cases h2 : 100 ≤ to[i]
        · simp [round, Tryz.f12, a12, reg12, loop12, hlt, w2, h3, hat, h1, h2]
        · simp [round, Tryz.f12, a12, reg12, loop12, hlt, w2, h3, hat, h1, h2, endRound_M0]
          refine hrec (i + 1) _ _ ?_ ?_ ?_ ?_
          · omega
          · omega
          · simp
          · simp
    · clear hrec
      rw [List.drop_eq_nil_of_le (by omega)]
      simp [round, Tryz.f12, a12, reg12, loop12, hlt]
end AE
end Go.Proofs.YthoomlenmgdebaaGreatDoor
