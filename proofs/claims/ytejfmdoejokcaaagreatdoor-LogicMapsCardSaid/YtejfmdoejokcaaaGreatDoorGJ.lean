/- The program's merging of elements; evaluated. -/
import Derived.Test.YtejfmdoejokcaaaGreatDoorGH
import Derived.Test.YtejfmdoejokcaaaGreatDoorGI
import Derived.Test.YtejfmdoejokcaaaGreatDoorGG
import Derived.Test.YtejfmdoejokcaaaGreatDoorGF
import Derived.Test.YtejfmdoejokcaaaGreatDoorGE
import Derived.Lay
import Derived.Stop.Joined
import Derived.Carry
import Derived.Test.YtejfmdoejokcaaaGreatDoorCards
import Derived.Test.YtejfmdoejokcaaaGreatDoorTie
import Derived.SevenTiedAt
set_option linter.unusedVariables false
set_option linter.unusedSimpArgs false
namespace Go.Proofs.YtejfmdoejokcaaaGreatDoor
namespace AE
open Go
theorem perm_sum {l r : List Int} (h : l.Perm r) : l.sum = r.sum := by
  induction h with
  | nil => rfl
  | cons x _ ih => simp [ih]
  | swap x y l => simp only [List.sum_cons]; omega
  | trans _ _ ih1 ih2 => rw [ih1, ih2]
theorem insP_len (u : Val) (w : Int) : ∀ o : List (Val × Int), (insP u w o).length ≤ o.length + 1
  | [] => by rw [insP]; simp
  | p :: r => by
    have := insP_len u w r
    rw [insP]
    split
    · simp
    · split
      · simp
      · simp; omega
def elA (n : Nat) (ps : List (Val × Int)) : A := if ps.length = 0 then .nils else .sl n (ps.length * 4) 0 ps.length
def elR (ps : List (Val × Int)) : List Row := if ps.length = 0 then [] else [⟨209, elemsC ps⟩]
theorem ev_vMerged0 (f : Fun) (hk : setsK f.kind = true) (h7 : f.kind ≠ 7) (m : Mem) : evCall C0 133 [.agg f.cells, .agg [.int .i64 0, .nils, .isl false 0 []]] m = some (.ret (.agg (Val.mk 0 [] []).cells), m) := by
  rw [evCall_body C0 (C0_ext _ (by decide)) (by rw [C0_P]; exact Tryz.func133) rfl (by rw [C0_ann]; rfl) (by rw [C0_ann]; rfl) (by decide) (by simp [Tryz.f133])]
  simp [Tryz.f133, a133, reg133, loop133, draw133, dok133]
  rw [evCode_loop]
  simp [round, Tryz.f133, a133, reg133, loop133, draw133, dok133, ev_SortFunc, sortFG_nil]
  rw [evCode_loop]
  simp [round, Tryz.f133, a133, reg133, loop133, draw133, dok133, h7]
set_option maxHeartbeats 8000000 in
theorem ev_vMerged (f : Fun) (xs : List Val) (ws : List Int) (ia : Nat) (hx0 : 0 < xs.length) (hk : setsK f.kind = true) (hb : ∀ x, x ∈ xs → x.nodes ≤ 1000000 ∧ slimV x) (hl : xs.length ≤ 1000000) (hw : wtd f.kind = true → ws.length = xs.length ∧ (∀ w, w ∈ ws → 1 ≤ w) ∧ ws.sum ≤ 1048576) (m : Mem) (hRa : m.rw[ia]? = some ⟨93, Val.cellsL xs⟩) :
    evCall C0 133 [.agg f.cells, .agg [.int .i64 0, .sl ia (xs.length * 3) 0 xs.length, .isl false ws.length (ints ws)]] m = some (.ret (.agg (mergeV f.kind 0 xs ws).cells), m) := by
  have hia : ia < m.rw.length := (List.getElem?_eq_some_iff.1 hRa).1
  have hia2 : ∀ x, ia < m.rw.length + x := fun x => by omega
  have hRa2 := (List.getElem?_eq_some_iff.1 hRa).2
  have hwl : (wsOf f.kind xs ws).length = xs.length := by
    unfold wsOf
    cases hwk : wtd f.kind
    · simp
    · simpa using (hw hwk).1
  have hk5 : wtd f.kind = false → f.kind = 5 := fun h => by
    unfold setsK at hk
    rw [h, Bool.or_false] at hk
    simpa using hk
  have hk5' : wtd f.kind = true → ¬ f.kind = 5 := fun h h5 => by rw [h5] at h; exact absurd h (by decide)
  generalize hps : xs.zip (wsOf f.kind xs ws) = ps
  have hpl : ps.length = xs.length := by rw [← hps, List.length_zip]; omega
  have hpf : ps.map (·.1) = xs := by rw [← hps]; exact List.map_fst_zip (by omega)
  have hsnd : ps.map (·.2) = wsOf f.kind xs ws := by rw [← hps]; exact List.map_snd_zip (by omega)
  have hmem : ∀ p, p ∈ ps → p.1.nodes ≤ 1000000000 ∧ slimV p.1 := fun p hp => by
    have h1 : p.1 ∈ xs := by rw [← hpf]; exact List.mem_map_of_mem hp
    exact ⟨by have := (hb _ h1).1; omega, (hb _ h1).2⟩
  have hsort : ∀ bx, evCall C0 174 [.sl m.rw.length (ps.length * 4) 0 ps.length, .fn 175 []] ⟨bx, m.rw ++ [⟨209, elemsC ps⟩]⟩ = some (.ret (.tup []), ⟨bx, m.rw ++ [⟨209, elemsC (sortP ps)⟩]⟩) := fun bx => by
    rw [ev_SortFunc, sortFG_row (ps := ps) (t := 209) (by simp) rfl rfl (by omega) (by omega) hmem]
    simp
  rw [evCall_body C0 (C0_ext _ (by decide)) (by rw [C0_P]; exact Tryz.func133) rfl (by rw [C0_ann]; rfl) (by rw [C0_ann]; rfl) (by decide) (by simp [Tryz.f133])]
  simp [Tryz.f133, a133, reg133, loop133, draw133, dok133, at_lt, hia, hia2, hRa2]
  refine loop_in (fun x : Nat × List (Val × Int) => ⟨[(2, .ptr m.bx.length 0), (3, .ptr (m.bx.length + 1) 0), (4, .ptr (m.bx.length + 2) 0), (5, elA m.rw.length x.2), (16, .sl ia (xs.length * 3) 0 xs.length), (17, .int .i64 xs.length), (18, .int .i64 x.1)],
      ⟨m.bx ++ [f.cells, [.int .i64 0, .sl ia (xs.length * 3) 0 xs.length, .isl false ws.length (ints ws)], [.int .i64 0, .nils, .nils]], m.rw ++ elR x.2⟩⟩)
    (fun x => some (.ret (.agg (mergeV f.kind 0 xs ws).cells), m)) (fun x => xs.length - x.1)
    (fun x => x.1 ≤ xs.length ∧ x.2 = ps.take x.1) (0, []) ?_ ?_ ?_ ?_ ?_
  · simp [elA, elR]
  · simp
  · simp
  · intro x; simp [Tryz.f133, a133, reg133, loop133, draw133, dok133]
  · rintro ⟨i, o⟩ ⟨hi, ho⟩ hrec
    simp only at hi ho ⊢
    by_cases hlt : i < xs.length
    · have w2 : IntKind.i64.wrap (i + 1) = i + 1 := wrap_id _ (by omega)
      have h3 : (i + 1) * 3 ≤ xs.length * 3 := by omega
      have h3' : i * 3 + 3 ≤ xs.length * 3 := by omega
      have hip : i < ps.length := by omega
      have hol : o.length = i := by rw [ho, List.length_take]; omega
      have hp1 : ps[i].1 = xs[i] := by simp only [← hpf, List.getElem_map]
      have hnx : ps.take (i + 1) = o ++ [ps[i]] := by rw [ho, List.take_succ_eq_append_getElem hip]
      have hec := elemC_eq ps[i]
      rw [hp1] at hec
      have hp2 : ps[i].2 = (wsOf f.kind xs ws)[i]'(by omega) := by simp only [← hsnd, List.getElem_map]
      have helc := elemsC_closed
      have helf := elemsC_flat
      have hes1 : (o.length + 1) * 64 ≤ 70368744177664 := by omega
      have hes2 : o.length ≤ 70368744177663 := by omega
      have hes3 := elemsC_length o
      cases hwk : wtd f.kind
      · have h5 := hk5 hwk
        have hz : ps[i].2 = 0 := by rw [hp2]; simp [wsOf, hwk]
        rw [hz] at hec
        by_cases ho0 : o.length = 0
        · have hoe : o = [] := List.eq_nil_of_length_eq_zero ho0
          simp [round, Tryz.f133, a133, reg133, loop133, draw133, dok133, at_lt, hia, hia2, hRa2, hlt, w2, h3, h3', h5, elA, elR, hoe, app_at, app_set, app_at0, app_set0, endRound_R0, helc]
          refine hrec (i + 1, [ps[i]]) _ _ ?_ ?_ ?_ ?_
          · simp; omega
          · exact ⟨by simp only; omega, by rw [hnx, hoe]; rfl⟩
          · simp [elA, elR, elemsC_one, hec, h5]
          · simp [h5]
        · have hoz : ¬ o = [] := fun h => ho0 (by rw [h]; rfl)
          simp [round, Tryz.f133, a133, reg133, loop133, draw133, dok133, at_lt, hia, hia2, hRa2, hlt, w2, h3, h3', h5, elA, elR, ho0, hoz, app_at, app_set, app_at0, app_set0, endRound_J, helc, hes1, hes2, hes3]
          refine hrec (i + 1, o ++ [ps[i]]) _ _ ?_ ?_ ?_ ?_
          · simp; omega
          · exact ⟨by simp only; omega, by rw [hnx]⟩
          · simp [elA, elR, elemsC_append, elemsC_one, hec, h5]
          · simp [h5]
      · have h5 := hk5' hwk
        have hiw : i < ws.length := by have := (hw hwk).1; omega
        have hz : ps[i].2 = ws[i] := by rw [hp2]; simp [wsOf, hwk]
        rw [hz] at hec
        have hat := ints_at hiw
        by_cases ho0 : o.length = 0
        · have hoe : o = [] := List.eq_nil_of_length_eq_zero ho0
          simp [round, Tryz.f133, a133, reg133, loop133, draw133, dok133, at_lt, hia, hia2, hRa2, hlt, w2, h3, h3', h5, elA, elR, hoe, app_at, app_set, app_at0, app_set0, endRound_R0, helc, hat, hiw, show i + 1 ≤ ws.length by omega]
          refine hrec (i + 1, [ps[i]]) _ _ ?_ ?_ ?_ ?_
          · simp; omega
          · exact ⟨by simp only; omega, by rw [hnx, hoe]; rfl⟩
          · simp [elA, elR, elemsC_one, hec]
          · simp
        · have hoz : ¬ o = [] := fun h => ho0 (by rw [h]; rfl)
          simp [round, Tryz.f133, a133, reg133, loop133, draw133, dok133, at_lt, hia, hia2, hRa2, hlt, w2, h3, h3', h5, elA, elR, ho0, hoz, app_at, app_set, app_at0, app_set0, endRound_J, helc, hes1, hes2, hes3, hat, hiw, show i + 1 ≤ ws.length by omega]
          refine hrec (i + 1, o ++ [ps[i]]) _ _ ?_ ?_ ?_ ?_
          · simp; omega
          · exact ⟨by simp only; omega, by rw [hnx]⟩
          · simp [elA, elR, elemsC_append, elemsC_one, hec]
          · simp
    · clear hrec
      have hie : i = xs.length := by omega
      subst hie
      have hoe : o = ps := by rw [ho, List.take_of_length_le (by omega)]
      rw [hoe]
      clear ho hoe o
      have hpe : ¬ ps.length = 0 := by omega
      have hpe' : ¬ ps = [] := fun h => hpe (by rw [h]; rfl)
      have hql := sortP_length ps
      have hqs := sortP_sorted ps
      have hqp := sortP_perm ps
      have hqn : ∀ p, p ∈ sortP ps → p.1.nodes ≤ 1000000000 ∧ slimV p.1 := fun p hp => hmem p (hqp.mem_iff.1 hp)
      have hmq : mergeF [] (sortP ps) = mergeP f.kind xs ws := by rw [merge_perm hqp, ← hps]; rfl
      have hqw : wtd f.kind = true → (∀ p, p ∈ sortP ps → 1 ≤ p.2) ∧ ((sortP ps).map (·.2)).sum ≤ 1048576 := fun h => by
        have hz : wsOf f.kind xs ws = ws := by unfold wsOf; rw [h, if_pos rfl]
        obtain ⟨h1, h2, h3⟩ := hw h
        refine ⟨fun p hp => h2 _ ?_, ?_⟩
        · rw [← hz, ← hsnd]
          exact List.mem_map_of_mem (hqp.mem_iff.1 hp)
        · have h4 : ((sortP ps).map (·.2)).sum = (ps.map (·.2)).sum := perm_sum (hqp.map _)
          rw [h4, hsnd, hz]
          exact h3
      have hqz : wtd f.kind = false → ∀ p, p ∈ sortP ps → p.2 = 0 := fun h p hp => by
        have h1 : p.2 ∈ ps.map (·.2) := List.mem_map_of_mem (hqp.mem_iff.1 hp)
        rw [hsnd] at h1
        unfold wsOf at h1
        rw [h] at h1
        simp at h1
        exact h1.2.symm
      simp [round, Tryz.f133, a133, reg133, loop133, draw133, dok133, elA, elR, hpe, hpe', hsort]
      clear hsort
      generalize sortP ps = qs at *
      refine loop_in (fun s : MgS => ⟨[(2, .ptr m.bx.length 0), (4, .ptr (m.bx.length + 2) 0), (9, .ptr (m.bx.length + 3) 0), (40, .sl m.rw.length (ps.length * 4) 0 ps.length), (41, .int .i64 ps.length), (42, .int .i64 s.i)],
          ⟨m.bx ++ [f.cells, [.int .i64 0, .sl ia (xs.length * 3) 0 xs.length, .isl false ws.length (ints ws)], [.int .i64 0, .nils, .nils], [.int .i64 0, mgA (m.rw.length + s.ja) s.o, mgW f.kind (m.rw.length + s.jw) s.o]], m.rw ++ s.J⟩⟩)
        (fun s => some (.ret (.agg (mergeV f.kind 0 xs ws).cells), m)) (fun s => ps.length - s.i)
        (fun s => s.i ≤ ps.length ∧ s.o.length ≤ s.i ∧ (0 < s.i → 0 < s.o.length) ∧ mergeF s.o (qs.drop s.i) = mergeF [] qs ∧ s.o.Pairwise LtP ∧ (∀ p, p ∈ s.o → ∀ q, q ∈ qs.drop s.i → cmpV p.1 q.1 ≤ 0) ∧ (∀ p, p ∈ s.o → p.1.nodes ≤ 1000000000 ∧ slimV p.1) ∧ MgOk f.kind m.rw.length s ∧ s.J[0]? = some ⟨209, elemsC qs⟩ ∧ (0 < s.o.length → 0 < s.ja) ∧ (0 < s.o.length → wtd f.kind = true → 0 < s.jw))
        ⟨0, [], [⟨209, elemsC qs⟩], 0, 0⟩ ?_ ?_ ?_ ?_ ?_
      · simp [mgA, mgW]
      · simp
      · refine ⟨by simp, by simp, by simp, rfl, List.Pairwise.nil, fun p hp => (by cases hp), fun p hp => (by cases hp), ⟨by simp [elemsC_closed], fun h => by simp at h, fun h => by simp at h, fun _ p hp => by cases hp⟩, rfl, fun h => by simp at h, fun h => by simp at h⟩
      · intro x; simp [Tryz.f133, a133, reg133, loop133, draw133, dok133]
      · rintro ⟨i, o, J, ja, jw⟩ ⟨hi, hol, hi0, hmg, hos, hle, hsm, ⟨hcl, hra, hrw, hps1⟩, hJ0, hja0, hjw0⟩ hrec
        simp only at hi hol hi0 hmg hos hle hsm hcl hra hrw hps1 hJ0 hja0 hjw0 ⊢
        have hJp : 0 < J.length := (List.getElem?_eq_some_iff.1 hJ0).1
        have hJ2 := (List.getElem?_eq_some_iff.1 hJ0).2
        by_cases hlt : i < ps.length
        · have w2 : IntKind.i64.wrap (i + 1) = i + 1 := wrap_id _ (by omega)
          have hiq : i < qs.length := by omega
          have h4 : (i + 1) * 4 ≤ ps.length * 4 := by omega
          have h4' : i * 4 + 4 ≤ ps.length * 4 := by omega
          have hat4 := at_elemsC qs i hiq
          have hqi := hqn _ (List.getElem_mem hiq)
          have hdr : qs.drop i = qs[i] :: qs.drop (i + 1) := List.drop_eq_getElem_cons hiq
          have hmg2 : mergeF (insP qs[i].1 qs[i].2 o) (qs.drop (i + 1)) = mergeF [] qs := by rw [← hmg, hdr]; rfl
          have hos2 := insP_sorted (u := qs[i].1) (w := qs[i].2) hos
          have hle2 : ∀ p, p ∈ o → cmpV p.1 qs[i].1 ≤ 0 := fun p hp => hle p hp _ (by rw [hdr]; exact List.mem_cons_self)
          have hnext : ∀ q, q ∈ qs.drop (i + 1) → cmpV qs[i].1 q.1 ≤ 0 := by
            have h1 := hqs.sublist (List.drop_sublist i qs)
            rw [hdr, List.pairwise_cons] at h1
            exact h1.1
          have hle3 : ∀ p, p ∈ insP qs[i].1 qs[i].2 o → ∀ q, q ∈ qs.drop (i + 1) → cmpV p.1 q.1 ≤ 0 := fun p hp q hq => by
            rcases insP_fst hp with h1 | ⟨r, hr, h1⟩
            · rw [h1]; exact hnext q hq
            · rw [h1]; exact hle r hr q (by rw [hdr]; exact List.mem_cons_of_mem _ hq)
          have hsm2 : ∀ p, p ∈ insP qs[i].1 qs[i].2 o → p.1.nodes ≤ 1000000000 ∧ slimV p.1 := fun p hp => by
            rcases insP_fst hp with h1 | ⟨r, hr, h1⟩
            · rw [h1]; exact hqi
            · rw [h1]; exact hsm r hr
          have hps2 : wtd f.kind = true → ∀ p, p ∈ insP qs[i].1 qs[i].2 o → 1 ≤ p.2 := fun h => insP_pos ((hqw h).1 _ (List.getElem_mem hiq)) (hps1 h)
          have hec := elemC_eq qs[i]
          have hw5 : wtd 5 = false := rfl
          have hine := insP_ne qs[i].1 qs[i].2 o
          have hine1 : 0 < (insP qs[i].1 qs[i].2 o).length := List.length_pos_iff.2 hine
          have hinl := insP_len qs[i].1 qs[i].2 o
          have hql4 := elemsC_length qs
          have hcle : ∀ nb nr, (elemC qs[i]).all (closed nb nr) = true := fun nb nr => by have := elemsC_closed nb nr [qs[i]]; rwa [elemsC_one] at this
          rw [hec] at hcle
          have hI : ∀ (J' : List Row) (ja' jw' : Nat), J'.all (fun r => r.cs.all (closed 0 0)) = true → J'[ja']? = some ⟨93, Val.cellsL ((insP qs[i].1 qs[i].2 o).map (·.1))⟩ → (wtd f.kind = true → J'[jw']? = some ⟨3, ints ((insP qs[i].1 qs[i].2 o).map (·.2))⟩ ∧ ja' ≠ jw') → J'[0]? = some ⟨209, elemsC qs⟩ → 0 < ja' → (wtd f.kind = true → 0 < jw') →
              (i + 1 ≤ ps.length ∧ (insP qs[i].1 qs[i].2 o).length ≤ i + 1 ∧ (0 < i + 1 → 0 < (insP qs[i].1 qs[i].2 o).length) ∧ mergeF (insP qs[i].1 qs[i].2 o) (qs.drop (i + 1)) = mergeF [] qs ∧ (insP qs[i].1 qs[i].2 o).Pairwise LtP ∧ (∀ p, p ∈ insP qs[i].1 qs[i].2 o → ∀ q, q ∈ qs.drop (i + 1) → cmpV p.1 q.1 ≤ 0) ∧ (∀ p, p ∈ insP qs[i].1 qs[i].2 o → p.1.nodes ≤ 1000000000 ∧ slimV p.1) ∧ MgOk f.kind m.rw.length ⟨i + 1, insP qs[i].1 qs[i].2 o, J', ja', jw'⟩ ∧ J'[0]? = some ⟨209, elemsC qs⟩ ∧ (0 < (insP qs[i].1 qs[i].2 o).length → 0 < ja') ∧ (0 < (insP qs[i].1 qs[i].2 o).length → wtd f.kind = true → 0 < jw')) :=
            fun J' ja' jw' g1 g2 g3 g4 g5 g6 => ⟨by omega, by omega, fun _ => hine1, hmg2, hos2, hle3, hsm2, ⟨g1, fun _ => g2, fun _ h => g3 h, hps2⟩, g4, fun _ => g5, fun _ h => g6 h⟩
          have hsb : wtd f.kind = true → (o.map (·.2)).sum + qs[i].2 ≤ 1048576 := fun h => by
            have e := congrArg (fun l : List (Val × Int) => (l.map (·.2)).sum) hmg
            rw [mergeF_sum, mergeF_sum, hdr, List.map_cons, List.sum_cons] at e
            have h1 := sum_pos fun q (hq : q ∈ qs.drop (i + 1)) => (hqw h).1 q (List.mem_of_mem_drop hq)
            have h2 := (hqw h).2
            try simp at e
            try simp at h1
            omega
          clear hle hle3 hsm2 hps2 hnext hmg hmg2 hos2
          generalize hO : insP qs[i].1 qs[i].2 o = O at *
          by_cases hi00 : i = 0
          · subst hi00
            have hat0 := hat4
            simp only [Nat.zero_mul, List.drop_zero] at hat0
            rw [hec] at hat0
            have h40 : 4 ≤ ps.length * 4 := by omega
            have hoe : o = [] := List.eq_nil_of_length_eq_zero (by omega)
            subst hoe
            have hO1 : O = [(qs[0].1, qs[0].2)] := by rw [← hO, insP]
            cases hwk : wtd f.kind
            · have h5 := hk5 hwk
              simp [round, Tryz.f133, a133, reg133, loop133, draw133, dok133, hia2, hlt, w2, app_at0, hJp, hJ2, hql, hql4, h4, h4', h40, hat0, hat4, hec, mgA, mgW, hwk, h5, endRound_J, hcl]
              refine hrec ⟨1, O, J ++ [⟨93, Val.cellsL (O.map (·.1))⟩], J.length, 0⟩ _ _ ?_ ?_ ?_ ?_
              · simp; omega
              · exact hI _ _ _ (by simp [hcl]) (by simp) (fun h => absurd h (by simp [hwk])) (by rw [List.getElem?_append_left hJp]; exact hJ0) hJp (fun h => absurd h (by simp [hwk]))
              · simp [mgA, mgW, hwk, h5, hw5, hO1, Val.cellsL]
              · simp [h5]
            · have h5 := hk5' hwk
              simp [round, Tryz.f133, a133, reg133, loop133, draw133, dok133, hia2, hlt, w2, app_at0, hJp, hJ2, hql, hql4, h4, h4', h40, hat0, hat4, hec, mgA, mgW, hwk, h5, endRound_J, hcl]
              refine hrec ⟨1, O, J ++ [⟨93, Val.cellsL (O.map (·.1))⟩, ⟨3, ints (O.map (·.2))⟩], J.length, J.length + 1⟩ _ _ ?_ ?_ ?_ ?_
              · simp; omega
              · exact hI _ _ _ (by simp [hcl]) (by simp) (fun h => ⟨by simp, by omega⟩) (by rw [List.getElem?_append_left hJp]; exact hJ0) hJp (fun h => by omega)
              · simp [mgA, mgW, hwk, h5, hO1, Val.cellsL, ints]
              · simp
          · have ho1 : 0 < o.length := hi0 (by omega)
            have htop := insP_top (w := qs[i].2) hos hle2 ho1
            rw [hO] at htop
            obtain ⟨k, hlk⟩ : ∃ k, o.length = k + 1 := ⟨o.length - 1, by omega⟩
            have hko : k < o.length := by omega
            simp only [hlk, Nat.add_sub_cancel] at htop
            have ho0 : ¬ o = [] := fun h => by rw [h] at ho1; simp at ho1
            have w4 : IntKind.i64.wrap (k : Int) = k := wrap_id _ (by omega)
            have hJa := hra ho1
            have hja : ja < J.length := (List.getElem?_eq_some_iff.1 hJa).1
            have hJa2 := (List.getElem?_eq_some_iff.1 hJa).2
            have hsk := hsm _ (List.getElem_mem hko)
            have he := ev_vSame o[k].1 qs[i].1 hsk.1 hsk.2
            simp at he
            have hatk := Val.at_cellsL (o.map (·.1)) k (by simpa using hko)
            simp at hatk
            have hi01 : 0 < i := by omega
            have hk3 : k * 3 + 3 ≤ (k + 1) * 3 := by omega
            by_cases hc : cmpV o[k].1 qs[i].1 = 0
            · simp [hc] at he
              rw [if_pos hc] at htop
              have hfst : O.map (·.1) = o.map (·.1) := by
                rw [htop, List.map_set]
                exact List.ext_getElem (by simp) fun n h1 h2 => by
                  rw [List.getElem_set]
                  split
                  · rename_i h; subst h; simp
                  · rfl
              have hil : O.length = o.length := by rw [htop]; simp
              cases hwk : wtd f.kind
              · have h5 := hk5 hwk
                simp [round, Tryz.f133, a133, reg133, loop133, draw133, dok133, hia2, hlt, w2, w4, app_at0, app_at, app_set, hJp, hJ2, hja, hJa2, hql, hql4, h4, h4', hat4, hec, mgA, mgW, hwk, h5, hw5, hlk, ho0, hi01, hi00, hatk, hk3, he, hc, endRound_J, hcl, all_set, show (k : Int) < (k : Int) + 1 by omega]
                refine hrec ⟨i + 1, O, J, ja, jw⟩ _ _ ?_ ?_ ?_ ?_
                · simp; omega
                · exact hI _ _ _ hcl (by rw [hfst]; exact hJa) (fun h => absurd h (by simp [hwk])) hJ0 (hja0 ho1) (fun h => absurd h (by simp [hwk]))
                · simp [mgA, mgW, hwk, h5, hw5, hil, hlk, hine, ho0]
                · simp [h5]
              · have h5 := hk5' hwk
                obtain ⟨hJw, hne⟩ := hrw ho1 hwk
                have hjw : jw < J.length := (List.getElem?_eq_some_iff.1 hJw).1
                have hJw2 := (List.getElem?_eq_some_iff.1 hJw).2
                have hat2 : ((ints (o.map (·.2))).drop k).take 1 = [.int .i64 o[k].2] := by
                  have := ints_at (ks := o.map (·.2)) (i := k) (by simpa using hko)
                  simpa using this
                have hwp := hps1 hwk
                have hsum := mem_sum hwp (List.getElem_mem hko)
                have hp1 := hwp _ (List.getElem_mem hko)
                have hq1 := (hqw hwk).1 _ (List.getElem_mem hiq)
                have w3 : IntKind.i64.wrap (o[k].2 + qs[i].2) = o[k].2 + qs[i].2 := wrap_id _ (by have := hsb hwk; omega)
                have hset : List.take k (ints (o.map (·.2))) ++ A.int .i64 (o[k].2 + qs[i].2) :: List.drop (k + 1) (ints (o.map (·.2))) = ints (O.map (·.2)) := by
                  rw [htop, List.map_set, List.set_eq_take_append_cons_drop, if_pos (by simpa using hko)]
                  simp [ints]
                simp [round, Tryz.f133, a133, reg133, loop133, draw133, dok133, hia2, hlt, w2, w4, app_at0, app_at, app_set, hJp, hJ2, hja, hJa2, hql, hql4, h4, h4', hat4, hec, mgA, mgW, hwk, h5, hw5, hlk, ho0, hi01, hi00, hatk, hk3, he, hc, endRound_J, hcl, all_set, show (k : Int) < (k : Int) + 1 by omega, hjw, hJw2, hat2, w3, hset]
                refine hrec ⟨i + 1, O, J.set jw ⟨3, ints (O.map (·.2))⟩, ja, jw⟩ _ _ ?_ ?_ ?_ ?_
                · simp; omega
                · exact hI _ _ _ (by simp [all_set, hcl]) (by rw [List.getElem?_set_ne (Ne.symm hne), hfst]; exact hJa) (fun _ => ⟨by simp [hjw], hne⟩) (by rw [List.getElem?_set_ne (by have := hjw0 ho1 hwk; omega)]; exact hJ0) (hja0 ho1) (fun h => hjw0 ho1 h)
                · simp [mgA, mgW, hwk, h5, hil, hlk, hine, ho0]
                · simp
            · simp [hc] at he
              rw [if_neg hc] at htop
              have hil : O.length = k + 1 + 1 := by rw [htop]; simp [hlk]
              have hcl3 : Val.cellsL (o.map (·.1)) ++ qs[i].1.cells = Val.cellsL (O.map (·.1)) := by rw [htop, List.map_append, Val.cellsL_append]; simp [Val.cellsL]
              simp only [Val.cells_eq] at hcl3
              cases hwk : wtd f.kind
              · have h5 := hk5 hwk
                simp [round, Tryz.f133, a133, reg133, loop133, draw133, dok133, hia2, hlt, w2, w4, app_at0, app_at, app_set, hJp, hJ2, hja, hJa2, hql, hql4, h4, h4', hat4, hec, mgA, mgW, hwk, h5, hw5, hlk, ho0, hi01, hi00, hatk, hk3, he, hc, endRound_J, hcl, all_set, show (k : Int) < (k : Int) + 1 by omega, hcl3, show (k + 1 + 1) * 56 ≤ 70368744177664 by omega, show k + 1 + 1 ≤ 70368744177664 by omega, show (k + 1 + 1) * 8 ≤ 70368744177664 by omega, show (k + 1) * 3 + 3 = (k + 1 + 1) * 3 by omega]
                refine hrec ⟨i + 1, O, J.set ja ⟨93, Val.cellsL (O.map (·.1))⟩, ja, jw⟩ _ _ ?_ ?_ ?_ ?_
                · simp; omega
                · exact hI _ _ _ (by simp [all_set, hcl]) (by simp [hja]) (fun h => absurd h (by simp [hwk])) (by rw [List.getElem?_set_ne (by have := hja0 ho1; omega)]; exact hJ0) (hja0 ho1) (fun h => absurd h (by simp [hwk]))
                · simp [mgA, mgW, hwk, h5, hw5, hil, hlk, hine, ho0]
                · simp [h5]
              · have h5 := hk5' hwk
                obtain ⟨hJw, hne⟩ := hrw ho1 hwk
                have hjw : jw < J.length := (List.getElem?_eq_some_iff.1 hJw).1
                have hJw2 := (List.getElem?_eq_some_iff.1 hJw).2
                have hin : ints (o.map (·.2)) ++ [A.int .i64 qs[i].2] = ints (O.map (·.2)) := by rw [htop, List.map_append, ints_append]; simp [ints]
                have hcl2 : ((J.set ja ⟨93, Val.cellsL (O.map (·.1))⟩).set jw ⟨3, ints (O.map (·.2))⟩).all (fun r => r.cs.all (closed 0 0)) = true := all_set (all_set hcl _ _ (Val.closed_cellsL _ _ _)) _ _ (closed_ints _ _ _)
                simp [round, Tryz.f133, a133, reg133, loop133, draw133, dok133, hia2, hlt, w2, w4, app_at0, app_at, app_set, hJp, hJ2, hja, hJa2, hql, hql4, h4, h4', hat4, hec, mgA, mgW, hwk, h5, hw5, hlk, ho0, hi01, hi00, hatk, hk3, he, hc, endRound_J, hcl, all_set, show (k : Int) < (k : Int) + 1 by omega, hcl3, hcl2, hjw, hJw2, hin, hne, show (k + 1 + 1) * 56 ≤ 70368744177664 by omega, show k + 1 + 1 ≤ 70368744177664 by omega, show (k + 1 + 1) * 8 ≤ 70368744177664 by omega, show (k + 1) * 3 + 3 = (k + 1 + 1) * 3 by omega]
                refine hrec ⟨i + 1, O, (J.set ja ⟨93, Val.cellsL (O.map (·.1))⟩).set jw ⟨3, ints (O.map (·.2))⟩, ja, jw⟩ _ _ ?_ ?_ ?_ ?_
                · simp; omega
                · exact hI _ _ _ hcl2 (by rw [List.getElem?_set_ne (Ne.symm hne)]; simp [hja]) (fun _ => ⟨by simp [hjw], hne⟩) (by rw [List.getElem?_set_ne (by have := hjw0 ho1 hwk; omega), List.getElem?_set_ne (by have := hja0 ho1; omega)]; exact hJ0) (hja0 ho1) (fun h => hjw0 ho1 h)
                · simp [mgA, mgW, hwk, h5, hil, hlk, hine, ho0]
                · simp
        · clear hrec
          have hie : i = ps.length := by omega
          subst hie
          have hO : o = mergeP f.kind xs ws := by
            rw [← hmq, ← hmg, List.drop_eq_nil_of_le (by omega)]
            rfl
          have ho1 : 0 < o.length := hi0 (by omega)
          have ho0 : ¬ o = [] := fun h => by rw [h] at ho1; simp at ho1
          have hJa := hra ho1
          have hja : ja < J.length := (List.getElem?_eq_some_iff.1 hJa).1
          have hJa2 := (List.getElem?_eq_some_iff.1 hJa).2
          have hall : List.take (o.length * 3) (Val.cellsL (o.map (·.1))) = Val.cellsL (o.map (·.1)) := List.take_of_length_le (by simp)
          have hallw : List.take o.length (ints (o.map (·.2))) = ints (o.map (·.2)) := List.take_of_length_le (by simp)
          have hO2 : wtd f.kind = true → ∀ w, w ∈ o.map (·.2) → 1 ≤ w ∧ w ≤ 1048576 := fun h w hmem => by
            obtain ⟨p, hp, rfl⟩ := List.mem_map.1 hmem
            refine ⟨hps1 h p hp, ?_⟩
            have h1 := mem_sum (hps1 h) hp
            have h2 : (o.map (·.2)).sum = (qs.map (·.2)).sum := by
              rw [hO, ← hmq, mergeF_sum]
              simp
            have h3 := (hqw h).2
            omega
          unfold mergeV
          rw [← hO]
          by_cases h7 : f.kind = 7
          · have hwk : wtd f.kind = true := by rw [h7]; rfl
            obtain ⟨hJw, hne⟩ := hrw ho1 hwk
            have hjw : jw < J.length := (List.getElem?_eq_some_iff.1 hJw).1
            have hJw2 := (List.getElem?_eq_some_iff.1 hJw).2
            have hws : ∀ w, w ∈ o.map (·.2) → 1 ≤ w ∧ w ≤ 1048576 := hO2 hwk
            have hwp : ∀ w, w ∈ o.map (·.2) → 1 ≤ w := fun w h => (hws w h).1
            have hWl : (o.map (·.2)).length = o.length := by simp
            generalize o.map (·.2) = W at *
            have hgp : 0 < gcdN W := gcdN_pos (fun h => by rw [h] at hWl; simp at hWl; omega) hwp
            have hg := ev_vgcdR W (m.rw.length + jw) (by omega) hws
            have hgc : ∀ bx, evCall C0 176 [.sl (m.rw.length + jw) o.length 0 o.length] ⟨bx, m.rw ++ J⟩ = some (.ret (.int .i64 (gcdN W)), ⟨bx, m.rw ++ J⟩) := fun bx => by
              have := hg ⟨bx, m.rw ++ J⟩ (by rw [app_at]; exact hJw)
              rwa [hWl] at this
            simp [round, Tryz.f133, a133, reg133, loop133, draw133, dok133, hia2, app_at, h7, show wtd 7 = true from rfl, ho0, mgA, mgW, hwk, hgc, hjw, hJw2, hja, hJa2]
            refine loop_in (fun j : Nat => ⟨[(4, .ptr (m.bx.length + 2) 0), (9, .ptr (m.bx.length + 3) 0), (13, .int .i64 (gcdN W)), (101, .int .i64 o.length), (102, .int .i64 j)],
                ⟨m.bx ++ [f.cells, [.int .i64 0, .sl ia (xs.length * 3) 0 xs.length, .isl false ws.length (ints ws)], [.int .i64 0, .nils, .nils], [.int .i64 0, .sl (m.rw.length + ja) (o.length * 3) 0 o.length, .sl (m.rw.length + jw) o.length 0 o.length]], m.rw ++ J.set jw ⟨3, ints ((divG W).take j ++ W.drop j)⟩⟩⟩)
              (fun i => some (.ret (.agg (Val.mk 0 (o.map (·.1)) (divG W)).cells), m)) (fun j => o.length - j) (fun j => j ≤ o.length) 0 ?_ ?_ ?_ ?_ ?_
            · have hset0 : J.set jw ⟨3, ints W⟩ = J := by rw [← hJw2]; exact List.set_getElem_self hjw
              simp [hset0, h7]
            · simp
            · omega
            · intro x; simp [Tryz.f133, a133, reg133, loop133, draw133, dok133, hia2]
            · intro j hj hrec
              have hdl : (divG W).length = W.length := by unfold divG; simp
              have hne' : ¬ jw = ja := fun h => hne h.symm
              have hg0 : ¬ (gcdN W : Int) = 0 := by omega
              by_cases hit : j < o.length
              · have w2 : IntKind.i64.wrap (j + 1) = j + 1 := wrap_id _ (by omega)
                have hiW : j < W.length := by omega
                have hx := hws W[j] (List.getElem_mem hiW)
                have hq := tdiv_pos hx.1 hgp ((gcdF_dvd W 0).2 _ (List.getElem_mem hiW))
                have w3 : IntKind.i64.wrap (W[j].tdiv (gcdN W)) = W[j].tdiv (gcdN W) := wrap_id _ (by omega)
                have hDl : ((divG W).take j ++ W.drop j).length = o.length := by simp; omega
                have hat : ((ints ((divG W).take j ++ W.drop j)).drop j).take 1 = [.int .i64 W[j]] := by
                  have h1 := ints_at (ks := (divG W).take j ++ W.drop j) (i := j) (by omega)
                  rw [h1]
                  congr 2
                  rw [List.getElem_append_right (by simp; omega)]
                  simp [Nat.min_eq_left (show j ≤ (divG W).length by omega)]
                have hst : List.take j (ints ((divG W).take j ++ W.drop j)) ++ A.int .i64 (W[j].tdiv (gcdN W)) :: List.drop (j + 1) (ints ((divG W).take j ++ W.drop j)) = ints ((divG W).take (j + 1) ++ W.drop (j + 1)) := by
                  have h1 : (divG W)[j]'(by omega) = W[j].tdiv (gcdN W) := by unfold divG; simp
                  have h2 : ((divG W).take j).length = j := by simp; omega
                  unfold ints
                  rw [← List.map_take, ← List.map_drop, ← List.drop_drop]
                  have h3 : List.take j ((divG W).take j ++ W.drop j) = (divG W).take j := by rw [List.take_append_of_le_length (by omega), List.take_of_length_le (by omega)]
                  have h4 : List.drop j ((divG W).take j ++ W.drop j) = W.drop j := by rw [List.drop_append_of_le_length (by omega), List.drop_eq_nil_of_le (by omega)]; rfl
                  rw [h3, h4, List.drop_drop, List.take_succ_eq_append_getElem (by omega), h1]
                  simp
                generalize (divG W).take j ++ W.drop j = D at hDl hat hst ⊢
                simp [round, Tryz.f133, a133, reg133, loop133, draw133, dok133, hia2, hit, w2, w3, app_at, app_set, hjw, hDl, hat, hst, show ¬ gcdN W = 0 by omega, show j + 1 ≤ o.length by omega, endRound_J, all_set, hcl, hja]
                refine hrec (j + 1) _ _ ?_ ?_ ?_ ?_
                · omega
                · omega
                · simp
                · simp
              · clear hrec
                have hie : j = o.length := by omega
                subst hie
                rw [List.take_of_length_le (by omega), List.drop_eq_nil_of_le (by omega), List.append_nil]
                have hdl2 : (divG W).length = o.length := by omega
                have htk : List.take o.length (ints (divG W)) = ints (divG W) := List.take_of_length_le (by simp; omega)
                simp [round, Tryz.f133, a133, reg133, loop133, draw133, dok133, hia2, app_at, hjw, hja, hJa2, hne', hall, hdl2, htk]
          · cases hwk : wtd f.kind
            · have h5 := hk5 hwk
              simp [round, Tryz.f133, a133, reg133, loop133, draw133, dok133, hia2, app_at, show wtd 5 = false from rfl, h5, h7, ho0, mgA, mgW, hwk, hja, hJa2, hall]
            · have h5 := hk5' hwk
              obtain ⟨hJw, hne⟩ := hrw ho1 hwk
              have hjw : jw < J.length := (List.getElem?_eq_some_iff.1 hJw).1
              have hJw2 := (List.getElem?_eq_some_iff.1 hJw).2
              simp [round, Tryz.f133, a133, reg133, loop133, draw133, dok133, hia2, app_at, h5, h7, ho0, mgA, mgW, hwk, hja, hJa2, hjw, hJw2, hall, hallw]
theorem merge_nodes (kind k : Int) (xs : List Val) (w : List Int) (hs : slimL xs) (hx : xs.length ≤ 1000000000) : (mergeV kind k xs w).nodes ≤ 1 + Val.nodesL xs ∧ slimV (mergeV kind k xs w) := by
  unfold mergeV
  rw [Val.nodes_eq, slimV_eq]
  simp only [Val.args_mk, Val.ws_mk]
  have h1 := nodesL_merge (xs.zip (wsOf kind xs w)) []
  have h2 : Val.nodesL ((xs.zip (wsOf kind xs w)).map (·.1)) ≤ Val.nodesL xs := by
    have : ∀ (a : List Val) (b : List Int), Val.nodesL ((a.zip b).map (·.1)) ≤ Val.nodesL a := by
      intro a
      induction a with
      | nil => intro b; simp [Val.nodesL]
      | cons x r ih =>
        intro b
        cases b with
        | nil => simp [Val.nodesL]
        | cons y t => simp [Val.nodesL]; exact ih t
    exact this _ _
  have h3 : (xs.zip (wsOf kind xs w)).length ≤ xs.length := by rw [List.length_zip]; omega
  simp only [List.map_nil, List.length_nil, Val.nodesL] at h1
  unfold mergeP
  refine ⟨by omega, ?_, slimL_of fun x hx' => ?_⟩
  · split
    · unfold divG; simp; omega
    · split
      · simp; omega
      · simp
  · obtain ⟨p, hp, rfl⟩ := List.mem_map.1 hx'
    rcases mergeF_fst _ _ p hp with ⟨q, h4, h5⟩ | ⟨q, h4, _⟩
    · rw [h5]; exact slimL_mem hs (zip_fst h4).1
    · cases h4
mutual
theorem map_nodes {t : Int → Val} (ht : ∀ x, (t x).nodes ≤ 1 ∧ slimV (t x)) : ∀ (v : Val) (f : Fun), slimV v → v.nodes ≤ 1000000000 → (mapV t v f).nodes ≤ v.nodes ∧ slimV (mapV t v f)
  | .mk k l w, f, hs, hb => by
    rw [slimV_eq] at hs
    have hv := Val.nodes_eq (.mk k l w)
    rw [hv] at hb ⊢
    simp only [Val.args_mk] at hb hs ⊢
    have ih := mapL_nodes ht l (argF f k) 0 hs.2 (by omega)
    have hl := Val.length_nodesL l
    have hm := mapL_length t l (argF f k) 0
    rw [mapV]
    split
    · have := ht k; exact ⟨by omega, this.2⟩
    split
    · rw [Val.nodes_eq, slimV_eq]; simp [Val.nodesL, slimL]
    have hplain : ∀ q, (Val.mk q (mapL t l (argF f k) 0) []).nodes ≤ 1 + Val.nodesL l ∧ slimV (Val.mk q (mapL t l (argF f k) 0) []) := fun q => by
      rw [Val.nodes_eq, slimV_eq]
      simp only [Val.args_mk, Val.ws_mk]
      exact ⟨by omega, by simp, ih.2⟩
    split
    · exact hplain 0
    split
    · exact hplain k
    split
    · exact hplain 0
    have := merge_nodes f.kind 0 (mapL t l (argF f k) 0) w ih.2 (by omega)
    exact ⟨by omega, this.2⟩
theorem mapL_nodes {t : Int → Val} (ht : ∀ x, (t x).nodes ≤ 1 ∧ slimV (t x)) : ∀ (l : List Val) (g : Nat → Fun) (i : Nat), slimL l → Val.nodesL l ≤ 1000000000 → Val.nodesL (mapL t l g i) ≤ Val.nodesL l ∧ slimL (mapL t l g i)
  | [], g, i, hs, hb => by rw [mapL]; exact ⟨Nat.le_refl _, hs⟩
  | v :: r, g, i, hs, hb => by
    rw [slimL] at hs
    rw [Val.nodesL] at hb
    have a := map_nodes ht v (g i) hs.1 (by omega)
    have b := mapL_nodes ht r g (i + 1) hs.2 (by omega)
    rw [mapL, Val.nodesL, Val.nodesL, slimL]
    exact ⟨by omega, a.2, b.2⟩
end
structure MapOk (t : Int → Val) (h : FuncId) (caps : List A) (n : Int) (Q : Mem → Prop) : Prop where
  ev : ∀ x, 0 ≤ x → x < n → ∀ m, Q m → evCall C0 h (.int .i64 x :: caps) m = some (.ret (.agg (t x).cells), m)
  up : ∀ m b r, Q m → Q ⟨m.bx ++ b, m.rw ++ r⟩
  cl : ∀ m, Q m → closed m.bx.length m.rw.length (.fn h caps) = true
  sm : ∀ x, (t x).nodes ≤ 1 ∧ slimV (t x)
def MapAt (t : Int → Val) (h : FuncId) (caps : List A) (n : Int) (Q : Mem → Prop) (v : Val) : Prop :=
  ∀ f, shapedF f = true → okV exL n v f = true → ∀ m, Q m → evCall C0 95 [.agg f.cells, .agg v.cells, .fn h caps] m = some (.ret (.agg (mapV t v f).cells), m)
section
variable {t : Int → Val} {h : FuncId} {caps : List A} {n : Int} {Q : Mem → Prop}
set_option maxHeartbeats 8000000 in
theorem mapped_plain (hM : MapOk t h caps n Q) (v : Val) (H : ∀ u, u ∈ v.args → MapAt t h caps n Q u) (f : Fun) (hf : shapedF f = true) (hok : okV exL n v f = true) (hk : f.kind ≤ 3) (m : Mem) (hQ : Q m) :
    evCall C0 95 [.agg f.cells, .agg v.cells, .fn h caps] m = some (.ret (.agg (mapV t v f).cells), m) := by
  rw [okV_eq, Bool.and_eq_true, Bool.and_eq_true] at hok
  obtain ⟨⟨hh, _⟩, hokl⟩ := hok
  have hq0 : ∀ b, Q ⟨m.bx ++ b, m.rw⟩ := fun b => by have := hM.up m b [] hQ; rwa [List.append_nil] at this
  obtain ⟨hd1, hd2, hd3⟩ := head_num hh
  have hh' := hh
  unfold headL at hh'
  simp only [Bool.and_eq_true] at hh'
  obtain ⟨⟨q1, q2⟩, q3⟩ := hh'
  rw [mapV_eq]
  rw [evCall_body C0 (C0_ext _ (by decide)) (by rw [C0_P]; exact Tryz.func95) rfl (by rw [C0_ann]; rfl) (by rw [C0_ann]; rfl) (by decide) (by simp [Tryz.f95])]
  rcases shaped_kind hf with ⟨h0, hl⟩ | ⟨h0, hl⟩ | ⟨h0, hl⟩ | ⟨h0, hl⟩ | ⟨h0, hl⟩ | ⟨h0, hl⟩ | ⟨h0, hl⟩ | ⟨h0, hl⟩
  · simp [h0] at q2
    have he := fun b => hM.ev v.num q2.1 (by omega) _ (hq0 b)
    simp at he
    simp [Tryz.f95, a95, reg95, loop95, draw95, dok95, h0, he]
  · simp [Tryz.f95, a95, reg95, loop95, draw95, dok95, h0]
  · simp [h0, hl] at q1
    have a0 : 0 < v.args.length := by omega
    have a1 : 1 < v.args.length := by omega
    have f0 : 0 < f.args.length := by omega
    have f1 : 1 < f.args.length := by omega
    have g0 : argF f v.num 0 = f.args[0] := by unfold argF; rw [if_pos h0, List.getD_eq_getElem?_getD, List.getElem?_eq_getElem f0]; rfl
    have g1 : argF f v.num 1 = f.args[1] := by unfold argF; rw [if_pos h0, List.getD_eq_getElem?_getD, List.getElem?_eq_getElem f1]; rfl
    have b1 := Fun.at_cellsL f.args 0 f0
    have b2 := Fun.at_cellsL f.args 1 f1
    have b3 := Val.at_cellsL v.args 0 a0
    have b4 := Val.at_cellsL v.args 1 a1
    simp at b1 b2 b3 b4
    have o0 := okL_mem hokl 0 a0
    have o1 := okL_mem hokl 1 a1
    rw [Nat.zero_add] at o0 o1
    rw [g0] at o0
    rw [g1] at o1
    have he0 := fun b => H v.args[0] (List.getElem_mem a0) f.args[0] (shaped_arg hf f0) o0 _ (hq0 b)
    have he1 := fun b => H v.args[1] (List.getElem_mem a1) f.args[1] (shaped_arg hf f1) o1 _ (hq0 b)
    simp at he0 he1
    have hm : mapL t v.args (argF f v.num) 0 = [mapV t v.args[0] f.args[0], mapV t v.args[1] f.args[1]] := by
      have e0 := mapL_drop (t := t) a0 (argF f v.num)
      have e1 := mapL_drop (t := t) a1 (argF f v.num)
      rw [List.drop_zero] at e0
      rw [e0, e1, g0, g1, List.drop_eq_nil_of_le (by omega), mapL]
    have hcl : Val.cellsL [mapV t v.args[0] f.args[0], mapV t v.args[1] f.args[1]] = (mapV t v.args[0] f.args[0]).cells ++ (mapV t v.args[1] f.args[1]).cells := by rw [Val.cellsL, Val.cellsL, Val.cellsL, List.append_nil]
    simp [Tryz.f95, a95, reg95, loop95, draw95, dok95, h0, show v.args.length = 2 by omega, hl, b1, b2, b3, b4, he0, he1, hm, hcl]
  · simp [h0] at q1
    have a0 : 0 < v.args.length := by omega
    have f0 : 0 < f.args.length := by omega
    have f1 : 1 < f.args.length := by omega
    have b1 := Fun.at_cellsL f.args 0 f0
    have b2 := Fun.at_cellsL f.args 1 f1
    have b3 := Val.at_cellsL v.args 0 a0
    simp at b1 b2 b3
    have o0 := okL_mem hokl 0 a0
    rw [Nat.zero_add] at o0
    have e0 := mapL_drop (t := t) a0 (argF f v.num)
    rw [List.drop_zero, List.drop_eq_nil_of_le (by omega), mapL] at e0
    by_cases cn : v.num = 0
    · have g0 : argF f v.num 0 = f.args[0] := by unfold argF; rw [if_neg (by omega), if_pos h0, cn, List.getD_eq_getElem?_getD, List.getElem?_eq_getElem (by simpa using f0)]; rfl
      rw [g0] at o0 e0
      rw [cn] at e0
      have he0 := fun b => H v.args[0] (List.getElem_mem a0) f.args[0] (shaped_arg hf f0) o0 _ (hq0 b)
      simp at he0
      simp [Tryz.f95, a95, reg95, loop95, draw95, dok95, h0, q1.2, hl, b1, b2, b3, he0, e0, cn, Val.cellsL]
    · have cm : v.num = 1 := by omega
      have g0 : argF f v.num 0 = f.args[1] := by unfold argF; rw [if_neg (by omega), if_pos h0, cm, List.getD_eq_getElem?_getD, List.getElem?_eq_getElem (by simpa using f1)]; rfl
      rw [g0] at o0 e0
      rw [cm] at e0
      have he0 := fun b => H v.args[0] (List.getElem_mem a0) f.args[1] (shaped_arg hf f1) o0 _ (hq0 b)
      simp at he0
      simp [Tryz.f95, a95, reg95, loop95, draw95, dok95, h0, q1.2, hl, b1, b2, b3, he0, e0, cm, Val.cellsL]
  all_goals omega
theorem mapL_snoc {t : Int → Val} {l : List Val} {g : Nat → Fun} {i : Nat} (h : i < l.length) {xs : List Val} (hm : mapL t l g 0 = xs ++ mapL t (l.drop i) g i) : mapL t l g 0 = (xs ++ [mapV t l[i] (g i)]) ++ mapL t (l.drop (i + 1)) g (i + 1) := by
  rw [hm, mapL_drop h]
  simp
set_option maxHeartbeats 8000000 in
theorem mapped_many (hM : MapOk t h caps n Q) (v : Val) (hb : v.nodes ≤ 1000000) (hs : slimV v) (H : ∀ u, u ∈ v.args → MapAt t h caps n Q u) (f : Fun) (hf : shapedF f = true) (hok : okV exL n v f = true) (hk : 4 ≤ f.kind) (m : Mem) (hQ : Q m) :
    evCall C0 95 [.agg f.cells, .agg v.cells, .fn h caps] m = some (.ret (.agg (mapV t v f).cells), m) := by
  have hs' := hs
  rw [slimV_eq] at hs'
  rw [okV_eq, Bool.and_eq_true, Bool.and_eq_true] at hok
  obtain ⟨⟨hh, _⟩, hokl⟩ := hok
  have hlen := v.length_args
  obtain ⟨hd1, hd2, hd3⟩ := head_num hh
  have hfl : f.args.length = 1 := by have := shaped_kind hf; omega
  have hk7 : f.kind ≤ 7 := by have := shaped_kind hf; omega
  have f0 : 0 < f.args.length := by omega
  have b1 := Fun.at_cellsL f.args 0 f0
  simp at b1
  have hg : ∀ j, argF f v.num j = f.args[0] := fun j => by
    unfold argF
    rw [if_neg (by omega), if_neg (by omega), List.getD_eq_getElem?_getD, List.getElem?_eq_getElem f0]
    rfl
  have k4 : ¬ f.kind = 0 ∧ ¬ f.kind = 1 ∧ ¬ f.kind = 2 ∧ ¬ f.kind = 3 := by omega
  have hfin := hM.cl m hQ
  have hcl : ∀ b r, closed (m.bx.length + b) (m.rw.length + r) (.fn h caps) = true := fun b r => closed_mono (by omega) (by omega) _ hfin
  have hcl0 : ∀ b, closed (m.bx.length + b) m.rw.length (.fn h caps) = true := fun b => closed_mono (by omega) (by omega) _ hfin
  have hmn := mapL_nodes hM.sm v.args (argF f v.num) 0 hs'.2 (by have := v.nodes_eq; omega)
  have hml := mapL_length t v.args (argF f v.num) 0
  have hvn := v.nodes_eq
  rw [mapV_eq, if_neg k4.1, if_neg k4.2.1, if_neg k4.2.2.1, if_neg k4.2.2.2]
  rw [evCall_body C0 (C0_ext _ (by decide)) (by rw [C0_P]; exact Tryz.func95) rfl (by rw [C0_ann]; rfl) (by rw [C0_ann]; rfl) (by decide) (by simp [Tryz.f95])]
  simp [Tryz.f95, a95, reg95, loop95, draw95, dok95, k4]
  refine loop_in (fun x : Nat × List Val => ⟨[(2, .fn h caps), (3, .ptr m.bx.length 0), (4, .ptr (m.bx.length + 1) 0), (6, .ptr (m.bx.length + 2) 0), (7, .ptr (m.bx.length + 3) 0), (66, .isl false v.args.length (Val.cellsL v.args)), (67, .int .i64 v.args.length), (68, .int .i64 x.1)],
      ⟨m.bx ++ [f.cells, v.cells, [.int .i64 0, .nils, .nils], [.int .i64 0, xA m.rw.length x.2, .nils]], m.rw ++ xR x.2⟩⟩)
    (fun x => some (.ret (.agg (if f.kind = 4 then Val.mk 0 (mapL t v.args (argF f v.num) 0) [] else mergeV f.kind 0 (mapL t v.args (argF f v.num) 0) v.ws).cells), m)) (fun x => v.args.length - x.1)
    (fun x => x.1 ≤ v.args.length ∧ x.2.length = x.1 ∧ mapL t v.args (argF f v.num) 0 = x.2 ++ mapL t (v.args.drop x.1) (argF f v.num) x.1) (0, []) ?_ ?_ ?_ ?_ ?_
  · simp [xA, xR]
  · simp
  · simp
  · intro x; simp [Tryz.f95, a95, reg95, loop95, draw95, dok95]
  · rintro ⟨i, xs⟩ ⟨hi, hxl, hml2⟩ hrec
    simp only at hi hxl hml2 ⊢
    by_cases hlt : i < v.args.length
    · have w2 : IntKind.i64.wrap (i + 1) = i + 1 := wrap_id _ (by omega)
      have h3 : (i + 1) * 3 ≤ v.args.length * 3 := by omega
      have o0 := okL_mem hokl i hlt
      rw [Nat.zero_add, hg] at o0
      have hnx := mapL_snoc hlt hml2
      rw [hg] at hnx
      have he := fun (b : List (List A)) (r : List Row) => H v.args[i] (List.getElem_mem hlt) f.args[0] (shaped_arg hf f0) o0 _ (hM.up m b r hQ)
      have he0 := fun (b : List (List A)) => H v.args[i] (List.getElem_mem hlt) f.args[0] (shaped_arg hf f0) o0 ⟨m.bx ++ b, m.rw⟩ (by have := hM.up m b [] hQ; rwa [List.append_nil] at this)
      simp at he he0
      cases xs with
      | nil =>
        have hi0 : i = 0 := by simpa using hxl.symm
        subst hi0
        have b3 := Val.at_cellsL v.args 0 hlt
        simp at b3
        simp [round, Tryz.f95, a95, reg95, loop95, draw95, dok95, hlt, w2, h3, hfl, show 3 ≤ v.args.length * 3 by omega, b1, b3, he, he0, xA, xR, app_at, app_set, endRound_R0, hcl, hcl0]
        refine hrec (1, [mapV t v.args[0] f.args[0]]) _ _ ?_ ?_ ?_ ?_
        · simp; omega
        · exact ⟨by simp only; omega, rfl, by rw [hnx]; rfl⟩
        · simp [xA, xR, Val.cellsL, hfl]
        · simp
      | cons a r =>
        have hr : r.length + 1 = i := by simpa using hxl
        simp [round, Tryz.f95, a95, reg95, loop95, draw95, dok95, hlt, w2, h3, hfl, b1, he, he0, xA, xR, app_at, app_set, endRound_J, hcl, hcl0, show (r.length + 1 + 1) * 56 ≤ 70368744177664 by omega, show r.length + 1 + 1 ≤ 70368744177664 by omega]
        refine hrec (i + 1, a :: r ++ [mapV t v.args[i] f.args[0]]) _ _ ?_ ?_ ?_ ?_
        · simp; omega
        · exact ⟨by simp only; omega, by simp; omega, by rw [hnx]⟩
        · simp [xA, xR, Val.cellsL, Val.cellsL_append, hfl]
        · simp
    · clear hrec
      have hie : i = v.args.length := by omega
      subst hie
      rw [List.drop_eq_nil_of_le (Nat.le_refl _), mapL, List.append_nil] at hml2
      rw [hml2] at hmn hml ⊢
      by_cases h4 : f.kind = 4
      · by_cases hx0 : xs.length = 0
        · have hxe : xs = [] := List.eq_nil_of_length_eq_zero hx0
          subst hxe
          simp [round, Tryz.f95, a95, reg95, loop95, draw95, dok95, h4, xA, xR]
        · have hxe : ¬ xs = [] := fun h => hx0 (by rw [h]; rfl)
          have hall : List.take (xs.length * 3) (Val.cellsL xs) = Val.cellsL xs := List.take_of_length_le (by simp)
          simp [round, Tryz.f95, a95, reg95, loop95, draw95, dok95, h4, xA, xR, hx0, hxe, hall]
      · have hset : setsK f.kind = true := by unfold setsK wtd; simp; omega
        have hss := (head_sets hset).1 hh
        have hwk3 : wtd f.kind = true → v.ws.length = xs.length ∧ (∀ w, w ∈ v.ws → 1 ≤ w) ∧ v.ws.sum ≤ 1048576 := fun h => by
          rw [if_pos h] at hss
          have h2 := (weighI_iff v.ws 0 (by omega)).1 hss.2.1
          exact ⟨by omega, h2.1, by omega⟩
        by_cases hx0 : xs.length = 0
        · have hxe : xs = [] := List.eq_nil_of_length_eq_zero hx0
          subst hxe
          have hwe : v.ws = [] := by
            cases h : wtd f.kind
            · exact hd2 h
            · exact List.eq_nil_of_length_eq_zero (by rw [(hwk3 h).1]; rfl)
          have h7 : f.kind ≠ 7 := fun h => by
            have hw7 : wtd f.kind = true := by rw [h]; rfl
            rw [if_pos hw7] at hss
            have := hss.2.2.2
            have h8 := hml
            simp at h8
            omega
          have he0 := ev_vMerged0 f hset h7
          simp at he0
          have hmv : mergeV f.kind 0 [] v.ws = .mk 0 [] [] := by
            unfold mergeV mergeP
            rw [hwe]
            have h56 : f.kind = 5 ∨ f.kind = 6 := by omega
            rcases h56 with h | h <;> rw [h] <;> rfl
          simp [hmv, h4]
          simp [round, Tryz.f95, a95, reg95, loop95, draw95, dok95, h4, xA, xR, he0, hwe]
        · have hxe : ¬ xs = [] := fun h => hx0 (by rw [h]; rfl)
          have he := ev_vMerged f xs v.ws m.rw.length (by omega) hset (fun x hx => ⟨by have := Val.nodes_mem hx; omega, slimL_mem hmn.2 hx⟩) (by omega) hwk3 ⟨m.bx ++ [f.cells, v.cells, [.int .i64 0, .nils, .nils], [.int .i64 0, .sl m.rw.length (xs.length * 3) 0 xs.length, .isl false v.ws.length (ints v.ws)]], m.rw ++ xR xs⟩ (by simp [xR, hxe])
          simp at he
          simp [round, Tryz.f95, a95, reg95, loop95, draw95, dok95, h4, xA, hxe, he]
theorem ev_Mapped (hM : MapOk t h caps n Q) (N : Nat) : ∀ (v : Val), v.nodes ≤ N → v.nodes ≤ 1000000 → slimV v → MapAt t h caps n Q v := by
  induction N with
  | zero => intro v hN; have := v.nodes_pos; omega
  | succ N ih =>
  intro v hN hb hs f hf hok m hQ
  have hs' := (slimV_eq v ▸ hs).2
  have H : ∀ u, u ∈ v.args → MapAt t h caps n Q u := fun u hu => ih u (by have := Val.nodes_arg hu; omega) (by have := Val.nodes_arg hu; omega) (slimL_mem hs' hu)
  by_cases hk : f.kind ≤ 3
  · exact mapped_plain hM v H f hf hok hk m hQ
  · exact mapped_many hM v hb hs H f hf hok (by omega) m hQ
end
mutual
theorem ok_loose {ex : Fun → List Val → List Int → Bool} (n : Int) : ∀ (v : Val) (f : Fun), okV ex n v f = true → okV exL n v f = true
  | .mk k l w, f, h => by
    rw [okV, Bool.and_eq_true, Bool.and_eq_true] at h ⊢
    exact ⟨⟨h.1.1, rfl⟩, okL_loose n l _ 0 h.2⟩
theorem okL_loose {ex : Fun → List Val → List Int → Bool} (n : Int) : ∀ (l : List Val) (g : Nat → Fun) (i : Nat), okL ex n l g i = true → okL exL n l g i = true
  | [], g, i, h => by rw [okL]
  | v :: r, g, i, h => by
    rw [okL, Bool.and_eq_true] at h ⊢
    exact ⟨ok_loose n v _ h.1, okL_loose n r _ _ h.2⟩
end
def toV (to : List Int) (x : Int) : Val := idV (to.getD x.toNat 0)
theorem toV_sm (to : List Int) (x : Int) : (toV to x).nodes ≤ 1 ∧ slimV (toV to x) := by
  unfold toV idV
  rw [Val.nodes_eq, slimV_eq]
  simp [Val.nodesL, slimL]
theorem along_ok (to : List Int) (fl : Bool) (n : Int) (hto : n ≤ to.length) (id : Nat) : MapOk (toV to) 96 [.ptr id 0] n (fun m => m.bx[id]? = some [.isl fl to.length (ints to)]) where
  ev x h0 h1 m hm := by
    have hid : id < m.bx.length := (List.getElem?_eq_some_iff.1 hm).1
    have hg := (List.getElem?_eq_some_iff.1 hm).2
    obtain ⟨k, rfl⟩ : ∃ k : Nat, x = k := ⟨x.toNat, by omega⟩
    have hxl : k < to.length := by omega
    have hat := ints_at hxl
    rw [evCall_body C0 (C0_ext _ (by decide)) (by rw [C0_P]; exact Tryz.func96) rfl (by rw [C0_ann]; rfl) (by rw [C0_ann]; rfl) (by decide) (by simp [Tryz.f96])]
    simp [Tryz.f96, a96, reg96, at_lt, hid, hg, hxl, show k + 1 ≤ to.length by omega, hat, toV, idV]
  up m b r h := by
    have hid : id < m.bx.length := (List.getElem?_eq_some_iff.1 h).1
    simp only
    rw [List.getElem?_append_left hid]
    exact h
  cl m h := by
    have hid : id < m.bx.length := (List.getElem?_eq_some_iff.1 h).1
    simp [hid]
  sm := toV_sm to
theorem ev_Along (to : List Int) (fl : Bool) (n : Int) (hto : n ≤ to.length) (f : Fun) (v : Val) (hf : shapedF f = true) (hok : okV exL n v f = true) (hb : v.nodes ≤ 1000000) (hs : slimV v) (m : Mem) :
    evCall C0 59 [.agg f.cells, .agg v.cells, .isl fl to.length (ints to)] m = some (.ret (.agg (mapV (toV to) v f).cells), m) := by
  rw [evCall_body C0 (C0_ext _ (by decide)) (by rw [C0_P]; exact Tryz.func59) rfl (by rw [C0_ann]; rfl) (by rw [C0_ann]; rfl) (by decide) (by simp [Tryz.f59])]
  have he := ev_Mapped (along_ok to fl n hto (m.bx.length + 2)) v.nodes v (Nat.le_refl _) hb hs f hf hok ⟨m.bx ++ [f.cells, v.cells, [.isl fl to.length (ints to)], [.int .i64 0, .nils, .nils]], m.rw⟩ (by simp)
  simp at he
  simp [Tryz.f59, a59, reg59, he]
def bothE (f g : Fun) (vs ws : List Val) : Int := if okS f vs && okS g ws then (if sameF f g then 0 else 1) else 30
theorem ev_Both (f g : Fun) (vs ws : List Val) (hf : f.nodes ≤ 1000000) (hg : g.nodes ≤ 1000000) (hb : Val.nodesL vs ≤ 1000000) (hb2 : Val.nodesL ws ≤ 1000000) (hs : ∀ v ∈ vs, slimV v) (hs2 : ∀ v ∈ ws, slimV v) (m : Mem) :
    evCall C0 55 [.agg (sysX f (.isl false vs.length (Val.cellsL vs))), .agg (sysX g (.isl false ws.length (Val.cellsL ws)))] m = some (.ret (.int .i64 (bothE f g vs ws)), m) := by
  rw [evCall_body C0 (C0_ext _ (by decide)) (by rw [C0_P]; exact Tryz.func55) rfl (by rw [C0_ann]; rfl) (by rw [C0_ann]; rfl) (by decide) (by simp [Tryz.f55])]
  have h1 := ev_SValid f vs hf hb hs
  have h2 := ev_SValid g ws hg hb2 hs2
  have h3 := ev_Same f.nodes f g (Nat.le_refl _) (by omega)
  simp at h1 h2 h3
  unfold bothE
  cases c1 : okS f vs
  · simp [Tryz.f55, a55, reg55, h1, c1]
  cases c2 : okS g ws
  · simp [Tryz.f55, a55, reg55, h1, h2, c1, c2]
  cases c3 : sameF f g <;> simp [Tryz.f55, a55, reg55, h1, h2, h3, c1, c2, c3]
theorem ev_RIndex (l : List Int) (k : Int) (fl : Bool) (hl : l.length ≤ 1000000000) (m : Mem) : evCall C0 30 [.isl fl l.length (ints l), .int .i64 k] m = some (.ret (.int .i64 (idxA (fun x => decide (x = k)) l 0)), m) := by
  rw [evCall_body C0 (C0_ext _ (by decide)) (by rw [C0_P]; exact Tryz.func30) rfl (by rw [C0_ann]; rfl) (by rw [C0_ann]; rfl) (by decide) (by simp [Tryz.f30])]
  simp [Tryz.f30, a30, reg30, loop30]
  refine loop_in (fun i : Nat => ⟨[(1, .int .i64 k), (7, .isl fl l.length (ints l)), (8, .int .i64 l.length), (9, .int .i64 i)], m⟩)
    (fun i => some (.ret (.int .i64 (idxA (fun x => decide (x = k)) (l.drop i) i)), m)) (fun i => l.length - i) (fun i => i ≤ l.length) 0 ?_ ?_ ?_ ?_ ?_
  · simp
  · simp
  · simp
  · intro x; simp [Tryz.f30, a30, reg30, loop30]
  · intro i hi hrec
    by_cases hlt : i < l.length
    · have w2 : IntKind.i64.wrap (i + 1) = i + 1 := wrap_id _ (by omega)
      have h3 : i + 1 ≤ l.length := by omega
      have hat := ints_at hlt
      rw [idxA_drop hlt]
      by_cases hc : l[i] = k
      · simp [round, Tryz.f30, a30, reg30, loop30, hlt, w2, h3, hat, hc]
      · simp [round, Tryz.f30, a30, reg30, loop30, hlt, w2, h3, hat, hc, endRound_M0]
        refine hrec (i + 1) _ _ ?_ ?_ ?_ ?_
        · omega
        · omega
        · simp
        · simp
    · clear hrec
      rw [List.drop_eq_nil_of_le (by omega), idxA]
      simp [round, Tryz.f30, a30, reg30, loop30, hlt]
def plc (to : List Int) (k : Int) : Int := idxA (fun x => decide (x = k)) to 0
def homL (f : Fun) (h : List Int) (ws : List Val) (vs : List Val) (l : List Int) : Bool := (vs.zip l).all fun p => decide (cmpV (mapV (toV h) p.1 f) (ws.getD p.2.toNat zeroV) = 0)
theorem homL_drop {f : Fun} {h : List Int} {ws vs : List Val} {l : List Int} {i : Nat} (h1 : i < vs.length) (h2 : i < l.length) : homL f h ws (vs.drop i) (l.drop i) = (decide (cmpV (mapV (toV h) vs[i] f) (ws.getD l[i].toNat zeroV) = 0) && homL f h ws (vs.drop (i + 1)) (l.drop (i + 1))) := by
  unfold homL
  rw [List.drop_eq_getElem_cons h1, List.drop_eq_getElem_cons h2, List.zip_cons_cons, List.all_cons]
def homB (f : Fun) (vs ws : List Val) (h : List Int) : Bool := decide (h.length = vs.length) && !(h.any fun y => decide (y < 0) || decide ((ws.length : Int) ≤ y)) && homL f h ws vs h
def qL (f : Fun) (vs : List Val) (to : List Int) (n : Nat) : List Val := (List.range n).map fun k : Nat => mapV (toV to) (vs.getD (plc to k).toNat zeroV) f
theorem qL_length (f : Fun) (vs : List Val) (to : List Int) (n : Nat) : (qL f vs to n).length = n := by simp [qL]
theorem okS_spec {f : Fun} {vs : List Val} (h : okS f vs = true) : shapedF f = true ∧ vs.length ≤ 100 ∧ ∀ v ∈ vs, okV exL vs.length v f = true := by
  unfold okS at h
  simp only [Bool.and_eq_true, decide_eq_true_eq] at h
  obtain ⟨⟨⟨h1, h2⟩, h3⟩, _⟩ := h
  refine ⟨okF_shapedS h1, h2, fun v hv => ?_⟩
  have := List.all_eq_true.1 h3 v hv
  exact ok_loose _ v f (((chkV_spec exS vs.length v f 2000 (by omega)).1).1 this).2
theorem any_bound {l : List Int} {n : Nat} (h : (l.any fun y => decide (y < 0) || decide ((n : Int) ≤ y)) = false) : ∀ y, y ∈ l → 0 ≤ y ∧ y < n := fun y hy => by
  rw [List.any_eq_false] at h
  have := h y hy
  simp only [Bool.or_eq_true, decide_eq_true_eq] at this
  omega
section
variable (f : Fun) (vs : List Val) (a : Fm)
def few8 : Bool := fewS f vs 200 && decide (vs.length ≤ 8)
theorem few8_spec {f : Fun} {vs : List Val} (h : few8 f vs = true) : f.nodes ≤ 1000000 ∧ vs.length ≤ 8 ∧ Val.nodesL vs ≤ 1000000 ∧ (∀ v ∈ vs, slimV v) ∧ ∀ v ∈ vs, v.nodes ≤ 1000000 := by
  unfold few8 fewS at h
  simp only [Bool.and_eq_true, decide_eq_true_eq] at h
  obtain ⟨⟨⟨⟨h1, h2⟩, h3⟩, h4⟩, h5⟩ := h
  rw [leftF_nodes f _ (by omega)] at h2
  refine ⟨by omega, h5, by omega, fun v hv => ?_, fun v hv => by have := Val.nodes_mem hv; omega⟩
  have := List.all_eq_true.1 h3 v hv
  unfold fewV at this
  rw [Bool.and_eq_true] at this
  exact light_slim (by omega) v this.2
theorem fine_zero {f : Fun} {vs : List Val} {a : Fm} (h : fineE f vs a = 0) : okS f vs = true ∧ isFm f a = true := by
  unfold fineE at h
  cases c1 : okS f vs
  · rw [c1] at h; simp at h
  · cases c2 : isFm f a
    · rw [c1, c2] at h; simp at h
    · exact ⟨rfl, rfl⟩
theorem isFm_ok {f : Fun} {a : Fm} (h : isFm f a = true) : okA f none a = true := by
  unfold isFm at h
  rw [Bool.and_eq_true] at h
  exact h.2
theorem fine_sets (h8 : few8 f vs = true) (ha : a.nodes ≤ 1000000) (h : fineE f vs a = 0) : SlOk f vs a ∧ SeOk f vs a ∧ okA f none a = true := by
  obtain ⟨q1, q2⟩ := fine_zero h
  obtain ⟨s1, s2, s3⟩ := okS_spec q1
  obtain ⟨k1, k2, k3, k4, k5⟩ := few8_spec h8
  exact ⟨(ev_VS f vs (by omega) s1 s3 k5 a.nodes a (Nat.le_refl _) ha).2, (ev_TS f vs (by omega) s1 s3 k5 a.nodes a (Nat.le_refl _) ha).2, isFm_ok q2⟩
end
def sumP (p : Val → Bool) (l : List (Val × Int)) : Int := (l.map fun x => if p x.1 then x.2 else 0).sum
theorem sumP_cons (p : Val → Bool) (x : Val × Int) (l : List (Val × Int)) : sumP p (x :: l) = (if p x.1 then x.2 else 0) + sumP p l := by simp [sumP]
theorem insP_sumP (p : Val → Bool) (u : Val) (w : Int) : ∀ o : List (Val × Int), sumP p (insP u w o) = (if p u then w else 0) + sumP p o
  | [] => by simp [insP, sumP]
  | x :: r => by
    rw [insP]
    split
    · rename_i h
      rw [cmpV_zero] at h
      subst h
      rw [sumP_cons, sumP_cons]
      split
      · simp only; omega
      · simp
    · split
      · rw [sumP_cons]
      · rw [sumP_cons, sumP_cons, insP_sumP p u w r]
        omega
theorem mergeF_sumP (p : Val → Bool) : ∀ l o : List (Val × Int), sumP p (mergeF o l) = sumP p l + sumP p o
  | [], o => by simp [mergeF, sumP]
  | x :: r, o => by
    rw [show mergeF o (x :: r) = mergeF (insP x.1 x.2 o) r from rfl, mergeF_sumP p r, insP_sumP, sumP_cons]
    omega
theorem insP_any (p : Val → Bool) (u : Val) (w : Int) : ∀ o : List (Val × Int), ((insP u w o).any fun x => p x.1) = (p u || o.any fun x => p x.1)
  | [] => by simp [insP]
  | x :: r => by
    rw [insP]
    split
    · rename_i h
      rw [cmpV_zero] at h
      subst h
      rw [List.any_cons, List.any_cons]
      cases p x.1 <;> rfl
    · split
      · rw [List.any_cons]
      · rw [List.any_cons, List.any_cons, insP_any p u w r]
        cases p x.1 <;> cases p u <;> rfl
theorem mergeF_any (p : Val → Bool) : ∀ l o : List (Val × Int), ((mergeF o l).any fun x => p x.1) = ((l.any fun x => p x.1) || o.any fun x => p x.1)
  | [], o => by simp [mergeF]
  | x :: r, o => by
    rw [show mergeF o (x :: r) = mergeF (insP x.1 x.2 o) r from rfl, mergeF_any p r, insP_any, List.any_cons]
    cases p x.1 <;> simp
theorem zip_parts : ∀ l : List (Val × Int), (l.map (·.1)).zip (l.map (·.2)) = l
  | [] => rfl
  | x :: r => by rw [List.map_cons, List.map_cons, List.zip_cons_cons, zip_parts r]
theorem zip_any (p : Val → Bool) : ∀ (xs : List Val) (w : List Int), w.length = xs.length → ((xs.zip w).any fun x => p x.1) = xs.any p
  | [], _, _ => by simp
  | x :: r, [], h => by simp at h
  | x :: r, y :: w, h => by rw [List.zip_cons_cons, List.any_cons, List.any_cons, zip_any p r w (by simpa using h)]
theorem merge_any (p : Val → Bool) (k : Int) (xs : List Val) (ws : List Int) : (mergeV 5 k xs ws).args.any p = xs.any p := by
  unfold mergeV mergeP
  rw [Val.args_mk, List.any_map]
  have h1 := mergeF_any p (xs.zip (wsOf 5 xs ws)) []
  rw [List.any_nil, Bool.or_false, zip_any p xs _ (by unfold wsOf; rw [if_neg (by decide)]; simp)] at h1
  exact h1
theorem merge_sum6 (p : Val → Bool) (k : Int) (xs : List Val) (ws : List Int) : sumT p (mergeV 6 k xs ws).args (mergeV 6 k xs ws).ws = sumT p xs ws := by
  unfold mergeV mergeP sumT
  rw [Val.args_mk, Val.ws_mk, if_neg (by omega), if_pos (by decide), zip_parts]
  have h1 := mergeF_sumP p (xs.zip (wsOf 6 xs ws)) []
  unfold wsOf at h1 ⊢
  rw [if_pos (by decide)] at h1 ⊢
  unfold sumP at h1
  rw [h1]
  simp
theorem div_sumT (p : Val → Bool) (g : Nat) (hg : 0 < g) : ∀ l : List (Val × Int), (∀ x, x ∈ l → 1 ≤ x.2 ∧ g ∣ x.2.natAbs) → sumT p (l.map (·.1)) ((l.map (·.2)).map fun w => w.tdiv g) * g = sumP p l
  | [], _ => by simp [sumT, sumP]
  | x :: r, h => by
    have ih := div_sumT p g hg r fun y hy => h y (List.mem_cons_of_mem _ hy)
    obtain ⟨h1, h2⟩ := h x List.mem_cons_self
    obtain ⟨t1, t2, t3⟩ := tdiv_pos h1 hg h2
    have t4 : x.2.tdiv g * g = x.2 := by
      have e3 : (((x.2.tdiv g).natAbs * g : Nat) : Int) = (x.2.natAbs : Int) := by rw [t3]
      rw [Int.natCast_mul, Int.natAbs_of_nonneg (by omega), Int.natAbs_of_nonneg (by omega)] at e3
      exact e3
    rw [sumP_cons, ← ih]
    unfold sumT
    rw [List.map_cons, List.map_cons, List.map_cons, List.zip_cons_cons, List.map_cons, List.sum_cons, Int.add_mul]
    split
    · rw [t4]
    · rw [Int.zero_mul]
theorem div_sum (g : Nat) (hg : 0 < g) : ∀ l : List Int, (∀ x, x ∈ l → 1 ≤ x ∧ g ∣ x.natAbs) → (l.map fun w => w.tdiv g).sum * g = l.sum
  | [], _ => by simp
  | x :: r, h => by
    have ih := div_sum g hg r fun y hy => h y (List.mem_cons_of_mem _ hy)
    obtain ⟨h1, h2⟩ := h x List.mem_cons_self
    obtain ⟨t1, t2, t3⟩ := tdiv_pos h1 hg h2
    have t4 : x.tdiv g * g = x := by
      have e3 : (((x.tdiv g).natAbs * g : Nat) : Int) = (x.natAbs : Int) := by rw [t3]
      rw [Int.natCast_mul, Int.natAbs_of_nonneg (by omega), Int.natAbs_of_nonneg (by omega)] at e3
      exact e3
    rw [List.map_cons, List.sum_cons, List.sum_cons, Int.add_mul, ih, t4]
theorem merge_sum7 (p : Val → Bool) (k : Int) (xs : List Val) (ws : List Int) (hl : ws.length = xs.length) (hw : ∀ x, x ∈ ws → 1 ≤ x) : ∃ g : Nat, 0 < g ∧ sumT p (mergeV 7 k xs ws).args (mergeV 7 k xs ws).ws * g = sumT p xs ws ∧ (mergeV 7 k xs ws).ws.sum * g = ws.sum := by
  unfold mergeV
  rw [Val.args_mk, Val.ws_mk, if_pos rfl]
  have hz : wsOf 7 xs ws = ws := by unfold wsOf; rw [if_pos (by decide)]
  have hP : ∀ x, x ∈ mergeP 7 xs ws → 1 ≤ x.2 := by
    unfold mergeP
    rw [hz]
    exact mergeF_pos _ _ (fun x hx => hw _ (List.of_mem_zip hx).2) (by simp)
  have h1 : sumP p (mergeP 7 xs ws) = sumT p xs ws := by
    unfold mergeP
    rw [mergeF_sumP, hz]
    unfold sumT sumP
    simp
  have h2 : ((mergeP 7 xs ws).map (·.2)).sum = ws.sum := by
    unfold mergeP
    rw [mergeF_sum, hz, List.map_snd_zip (by omega)]
    simp
  generalize mergeP 7 xs ws = l at hP h1 h2
  unfold divG
  by_cases hne : l = []
  · subst hne
    refine ⟨1, by omega, ?_, ?_⟩
    · rw [← h1]; simp [sumT, sumP]
    · rw [← h2]; simp
  · have hp2 : ∀ w, w ∈ l.map (·.2) → 1 ≤ w := fun w hw => by
      obtain ⟨x, hx, rfl⟩ := List.mem_map.1 hw
      exact hP x hx
    have hg := gcdN_pos (l := l.map (·.2)) (by simpa using hne) hp2
    have hd := (gcdF_dvd (l.map (·.2)) 0).2
    refine ⟨gcdN (l.map (·.2)), hg, ?_, ?_⟩
    · rw [← h1]
      exact div_sumT p _ hg l fun x hx => ⟨hP x hx, hd _ (List.mem_map.2 ⟨x, hx, rfl⟩)⟩
    · rw [← h2]
      exact div_sum _ hg _ fun x hx => ⟨hp2 x hx, hd x hx⟩
theorem mapL_getD (t : Int → Val) : ∀ (l : List Val) (g : Nat → Fun) (i0 i : Nat) (hi : i < l.length), (mapL t l g i0).getD i val0 = mapV t l[i] (g (i0 + i))
  | [], g, i0, i, hi => by simp at hi
  | v :: r, g, i0, 0, hi => by rw [mapL]; rfl
  | v :: r, g, i0, i + 1, hi => by
    have := mapL_getD t r g (i0 + 1) i (by simpa using hi)
    rw [mapL, List.getD_cons_succ, this, show i0 + 1 + i = i0 + (i + 1) by omega]
    rfl
theorem mapL_map (t : Int → Val) (G : Fun) : ∀ (l : List Val) (g : Nat → Fun) (i0 : Nat), (∀ j, g j = G) → mapL t l g i0 = l.map fun u => mapV t u G
  | [], g, i0, h => by rw [mapL]; rfl
  | v :: r, g, i0, h => by rw [mapL, mapL_map t G r g (i0 + 1) h, h]; rfl
theorem sumT_map (p q : Val → Bool) (F : Val → Val) : ∀ (l : List Val) (w : List Int), (∀ u, u ∈ l → q (F u) = p u) → sumT q (l.map F) w = sumT p l w
  | [], w, _ => by simp [sumT]
  | u :: r, [], _ => by simp [sumT]
  | u :: r, x :: w, h => by
    have ih := sumT_map p q F r w fun y hy => h y (List.mem_cons_of_mem _ hy)
    unfold sumT at ih ⊢
    rw [List.map_cons, List.zip_cons_cons, List.zip_cons_cons, List.map_cons, List.map_cons, List.sum_cons, List.sum_cons, ih, h u List.mem_cons_self]
theorem any_map (p q : Val → Bool) (F : Val → Val) : ∀ (l : List Val), (∀ u, u ∈ l → q (F u) = p u) → (l.map F).any q = l.any p
  | [], _ => by simp
  | u :: r, h => by rw [List.map_cons, List.any_cons, List.any_cons, any_map p q F r fun y hy => h y (List.mem_cons_of_mem _ hy), h u List.mem_cons_self]
theorem getD_not {S : List Bool} {i : Nat} (h : i < S.length) : (S.map fun x => !x).getD i false = !(S.getD i false) := by
  simp [List.getD_eq_getElem?_getD, h]
theorem getD_and {S T : List Bool} {i : Nat} (h : i < S.length) (h' : i < T.length) : (List.zipWith (fun x y => x && y) S T).getD i false = (S.getD i false && T.getD i false) := by
  have hz : i < (List.zipWith (fun x y => x && y) S T).length := by rw [List.length_zipWith]; omega
  rw [List.getD_eq_getElem?_getD, List.getElem?_eq_getElem hz, List.getElem_zipWith]
  simp [List.getD_eq_getElem?_getD, h, h']
section
variable (f : Fun) (vs ws : List Val) (h : List Int)
theorem tru_map (hsh : shapedF f = true) (hok : ∀ v ∈ vs, okV exL vs.length v f = true) (hbd : ∀ i, i < vs.length → 0 ≤ h.getD i 0 ∧ h.getD i 0 < ws.length)
    (hm : ∀ i (hi : i < vs.length), ws.getD (h.getD i 0).toNat zeroV = mapV (toV h) vs[i] f) (N : Nat) : ∀ a : Fm, a.nodes ≤ N →
    (∀ g v, shapedF g = true → okA f (some g) a = true → okV exL vs.length v g = true → truA f ws g a (mapV (toV h) v g) = truA f vs g a v) ∧
    (okA f none a = true → ∀ i, i < vs.length → (setA f ws a).getD (h.getD i 0).toNat false = (setA f vs a).getD i false) := by
  induction N with
  | zero => intro a hN; have := a.nodes_pos; omega
  | succ N ih =>
  intro a hN
  have H : ∀ b, b ∈ a.args → _ := fun b hb => ih b (by have := Fm.nodes_arg hb; omega)
  refine ⟨fun g v hg hoka hv => ?_, fun hoka i hi => ?_⟩
  · have hkg := shaped_kind hg
    rw [okA_value f g (by omega)] at hoka
    simp only [Bool.and_eq_true, decide_eq_true_eq] at hoka
    obtain ⟨⟨c1, c2⟩, c3⟩ := hoka
    obtain ⟨o0, o1⟩ := arityA_op (op := a.op) (by omega)
    obtain ⟨hh, hargs⟩ := okV_split hv
    obtain ⟨f0, f2, f3, f4, fw⟩ := head_facts hh
    have hc : a.op = 0 ∨ a.op = 1 ∨ a.op = 2 ∨ a.op = 3 ∨ a.op = 4 ∨ a.op = 5 ∨ 6 ≤ a.op := by omega
    rcases hc with e | e | e | e | e | e | e
    · have ha : a.args = [] := List.eq_nil_of_length_eq_zero (by rw [e, show arityA 0 = 0 from rfl] at c1; omega)
      rw [truA_0 f _ g _ ha, truA_0 f _ g _ ha, if_neg (by omega), if_neg (by omega)]
    · obtain ⟨b, hb1⟩ := one_arg c1 (by omega) (by omega) (by omega)
      rw [if_pos (by omega), hb1, okAL_one] at c3
      rw [truA_1 f _ g _ hb1, truA_1 f _ g _ hb1, if_pos e, if_pos e, (H b (by rw [hb1]; simp)).1 g v hg c3 hv]
    · have hl2 : a.args.length = 2 := by rw [e, show arityA 2 = 2 from rfl] at c1; omega
      obtain ⟨b, c, hb1⟩ : ∃ b c, a.args = [b, c] := by
        match a.args, hl2 with
        | [b, c], _ => exact ⟨b, c, rfl⟩
      rw [if_pos (by omega), hb1, okAL, okAL, okAL, Bool.and_true, Bool.and_eq_true] at c3
      rw [truA_2 f _ g _ hb1, truA_2 f _ g _ hb1, (H b (by rw [hb1]; simp)).1 g v hg c3.1 hv, (H c (by rw [hb1]; simp)).1 g v hg c3.2 hv]
    · rw [if_neg (by omega)] at c3
      split at c3
      · rename_i hk
        rw [e, show kindO 3 = -1 from rfl] at hk
        omega
      · cases c3
    · obtain ⟨b, hb1⟩ := one_arg c1 (by omega) (by omega) (by omega)
      rw [if_neg (by omega)] at c3
      split at c3
      case isFalse => cases c3
      rename_i hk
      try rw [if_pos e] at c3
      rw [hb1, okAL_one] at c3
      rw [e, show kindO 4 = 0 from rfl] at hk
      obtain ⟨q0, q1⟩ := f0 hk.symm
      rw [truA_1 f _ g _ hb1, truA_1 f _ g _ hb1, if_neg (by omega), if_pos e, if_neg (by omega), if_pos e, mapV_eq, if_pos hk.symm]
      have := (H b (by rw [hb1]; simp)).2 c3 v.num.toNat (by omega)
      exact this
    · have ha : a.args = [] := List.eq_nil_of_length_eq_zero (by rw [e, show arityA 5 = 0 from rfl] at c1; omega)
      rw [if_neg (by omega)] at c3
      split at c3
      case isFalse => cases c3
      rename_i hk
      rw [e, show kindO 5 = 1 from rfl] at hk
      rw [truA_0 f _ g _ ha, truA_0 f _ g _ ha, if_pos e, if_pos e, mapV_eq, if_neg (by omega), if_pos hk.symm]
      rfl
    obtain ⟨b, hb1⟩ := one_arg c1 (by omega) (by omega) (by omega)
    rw [if_neg (by omega)] at c3
    split at c3
    case isFalse => cases c3
    rename_i hk
    rw [if_neg (by omega), if_neg (by omega), hb1, okAL_one] at c3
    have hlt := part_lt hg e o1 hk
    have hps := part_shaped hg hlt
    have hT := fun u hu => (H b (by rw [hb1]; simp)).1 (partA g a.op) u hps c3 hu
    have hpa : ∀ (x : Int) (i : Nat), (a.op = 6 → i = 0) ∧ (a.op = 7 → i = 1) ∧ (a.op = 8 → x = 0) ∧ (a.op = 9 → x = 1) → argF g x i = partA g a.op := fun x i => part_arg hg hk e o1
    have hgd := mapL_getD (toV h) v.args (argF g v.num) 0
    have n1 : ¬ a.op = 1 := by omega
    have n4 : ¬ a.op = 4 := by omega
    rw [truA_1 f _ g _ hb1, truA_1 f _ g _ hb1, if_neg n1, if_neg n1, if_neg n4, if_neg n4]
    by_cases h67 : a.op = 6 ∨ a.op = 7
    · rw [if_pos h67, if_pos h67]
      have hk2 : g.kind = 2 := by
        rcases h67 with e | e
        · rw [e, show kindO 6 = 2 from rfl] at hk; exact hk.symm
        · rw [e, show kindO 7 = 2 from rfl] at hk; exact hk.symm
      have hal := f2 hk2
      have hil : (a.op - 6).toNat < v.args.length := by omega
      have hp := hpa v.num (a.op - 6).toNat (by omega)
      have hu := hargs _ hil
      rw [hp] at hu
      rw [mapV_eq, if_neg (by omega), if_neg (by omega), if_pos hk2, Val.args_mk, hgd _ hil, Nat.zero_add, hp, hT _ hu]
      congr 1
      simp [List.getD_eq_getElem?_getD, hil]
    rw [if_neg h67, if_neg h67]
    by_cases h89 : a.op = 8 ∨ a.op = 9
    · rw [if_pos h89, if_pos h89]
      have hk3 : g.kind = 3 := by
        rcases h89 with e | e
        · rw [e, show kindO 8 = 3 from rfl] at hk; exact hk.symm
        · rw [e, show kindO 9 = 3 from rfl] at hk; exact hk.symm
      obtain ⟨q0, q1, q2⟩ := f3 hk3
      rw [mapV_eq, if_neg (by omega), if_neg (by omega), if_neg (by omega), if_pos hk3, Val.args_mk, Val.num_mk]
      by_cases hs : v.num = a.op - 8
      · have hil : 0 < v.args.length := by omega
        have hp := hpa v.num 0 (by omega)
        have hu := hargs _ hil
        rw [hp] at hu
        rw [hgd _ hil, Nat.zero_add, hp, hT _ hu]
        congr 2
        simp [List.getD_eq_getElem?_getD, hil]
      · simp [hs]
    rw [if_neg h89, if_neg h89]
    have hpc : ∀ i, argF g v.num i = partA g a.op := fun i => hpa _ _ (by omega)
    have hmp := mapL_map (toV h) (partA g a.op) v.args (argF g v.num) 0 hpc
    have hTm : ∀ u, u ∈ v.args → truA f ws (partA g a.op) b (mapV (toV h) u (partA g a.op)) = truA f vs (partA g a.op) b u := fun u hu => by
      obtain ⟨i, hi, rfl⟩ := List.getElem_of_mem hu
      have := hargs i hi
      rw [hpc] at this
      exact hT _ this
    by_cases h10 : a.op = 10
    · rw [if_pos h10, if_pos h10]
      have hk4 : g.kind = 4 := by rw [h10, show kindO 10 = 4 from rfl] at hk; exact hk.symm
      have hal := f4 hk4
      rw [numsA, if_pos (.inr h10)] at c2
      simp only [Bool.and_eq_true, decide_eq_true_eq] at c2
      have hil : a.num.toNat < v.args.length := by omega
      rw [mapV_eq, if_neg (by omega), if_neg (by omega), if_neg (by omega), if_neg (by omega), if_pos hk4, Val.args_mk, hgd _ hil, hpc, hTm _ (List.getElem_mem hil)]
      congr 1
      simp [List.getD_eq_getElem?_getD, hil]
    rw [if_neg h10, if_neg h10]
    have hk567 : (a.op = 11 → g.kind = 5) ∧ (a.op = 12 → g.kind = 6) ∧ (a.op = 13 → g.kind = 7) := by
      refine ⟨fun e => ?_, fun e => ?_, fun e => ?_⟩
      · rw [e, show kindO 11 = 5 from rfl] at hk; exact hk.symm
      · rw [e, show kindO 12 = 6 from rfl] at hk; exact hk.symm
      · rw [e, show kindO 13 = 7 from rfl] at hk; exact hk.symm
    have hme : mapV (toV h) v g = mergeV g.kind 0 (v.args.map fun u => mapV (toV h) u (partA g a.op)) v.ws := by
      rw [mapV_eq, if_neg (by omega), if_neg (by omega), if_neg (by omega), if_neg (by omega), if_neg (by omega), hmp]
    rw [hme]
    by_cases h11 : a.op = 11
    · rw [if_pos h11, if_pos h11, hk567.1 h11, merge_any]
      exact any_map _ _ _ v.args hTm
    rw [if_neg h11, if_neg h11]
    by_cases h12 : a.op = 12
    · rw [if_pos h12, if_pos h12, hk567.2.1 h12, merge_sum6, sumT_map _ _ _ v.args v.ws hTm]
    rw [if_neg h12, if_neg h12]
    have hk7 := hk567.2.2 (by omega)
    obtain ⟨w0, w1, w2⟩ := fw (by unfold wtd; simp [hk7])
    obtain ⟨G, hG, m1, m2⟩ := merge_sum7 (fun u => truA f ws (partA g a.op) b u) 0 (v.args.map fun u => mapV (toV h) u (partA g a.op)) v.ws (by simp [w0]) w1
    rw [hk7]
    rw [sumT_map _ _ _ v.args v.ws hTm] at m1
    generalize mergeV 7 0 (v.args.map fun u => mapV (toV h) u (partA g a.op)) v.ws = V at m1 m2
    rw [← m1, ← m2, Bool.eq_iff_iff, decide_eq_true_eq, decide_eq_true_eq]
    have hGi : (0 : Int) < G := by omega
    have e1 : a.num * (V.ws.sum * G) = (a.num * V.ws.sum) * G := by rw [Int.mul_assoc]
    have e2 : ∀ x : Int, (x * G) * a.mun = (x * a.mun) * G := fun x => by rw [Int.mul_assoc, Int.mul_comm (G : Int), ← Int.mul_assoc]
    rw [e1, e2]
    exact ⟨fun q => Int.mul_le_mul_of_nonneg_right q (by omega), fun q => Int.le_of_mul_le_mul_right q hGi⟩
  · rw [okA_state] at hoka
    simp only [Bool.and_eq_true, decide_eq_true_eq] at hoka
    obtain ⟨⟨c1, c2⟩, c3⟩ := hoka
    obtain ⟨o0, o1⟩ := arityA_op (op := a.op) (by omega)
    obtain ⟨b0, b1⟩ := hbd i hi
    have hil : (h.getD i 0).toNat < ws.length := by omega
    by_cases h3 : a.op = 3
    · obtain ⟨b, hb1⟩ := one_arg c1 (by omega) (by omega) (by omega)
      rw [if_pos h3, hb1, okAL_one] at c3
      rw [setA_1 f _ hb1, setA_1 f _ hb1, if_pos h3, if_pos h3]
      have he := (H b (by rw [hb1]; simp)).1 f vs[i] hsh c3 (hok _ (List.getElem_mem hi))
      rw [← hm i hi] at he
      have g1 : ws.getD (h.getD i 0).toNat zeroV = ws[(h.getD i 0).toNat] := by
        rw [List.getD_eq_getElem?_getD, List.getElem?_eq_getElem hil]; rfl
      rw [g1] at he
      rw [List.getD_eq_getElem?_getD (l := List.map _ ws), List.getD_eq_getElem?_getD (l := List.map _ vs), List.getElem?_map, List.getElem?_map, List.getElem?_eq_getElem hil, List.getElem?_eq_getElem hi]
      exact he
    rw [if_neg h3] at c3
    have hop : a.op = 0 ∨ a.op = 1 ∨ a.op = 2 := by
      simp only [Bool.and_eq_true, Bool.or_eq_true, decide_eq_true_eq] at c3
      omega
    have c3' : okAL f none a.args = true := by
      rw [Bool.and_eq_true] at c3
      exact c3.1
    rcases hop with e | e | e
    · have ha : a.args = [] := List.eq_nil_of_length_eq_zero (by rw [e, show arityA 0 = 0 from rfl] at c1; omega)
      rw [setA_0 f _ ha, setA_0 f _ ha]
      rw [List.getD_eq_getElem?_getD (l := List.replicate ws.length true), List.getD_eq_getElem?_getD (l := List.replicate vs.length true), List.getElem?_replicate, List.getElem?_replicate, if_pos hil, if_pos hi]
    · obtain ⟨b, hb1⟩ := one_arg c1 (by omega) (by omega) (by omega)
      rw [hb1, okAL_one] at c3'
      rw [setA_1 f _ hb1, setA_1 f _ hb1, if_neg h3, if_neg h3, getD_not (by rw [setA_len f ws b.nodes b (Nat.le_refl _)]; exact hil), getD_not (by rw [setA_len f vs b.nodes b (Nat.le_refl _)]; exact hi), (H b (by rw [hb1]; simp)).2 c3' i hi]
    · have hl2 : a.args.length = 2 := by rw [e, show arityA 2 = 2 from rfl] at c1; omega
      obtain ⟨b, c, hb1⟩ : ∃ b c, a.args = [b, c] := by
        match a.args, hl2 with
        | [b, c], _ => exact ⟨b, c, rfl⟩
      rw [hb1, okAL, okAL, okAL, Bool.and_true, Bool.and_eq_true] at c3'
      rw [setA_2 f _ hb1, setA_2 f _ hb1, getD_and (by rw [setA_len f ws b.nodes b (Nat.le_refl _)]; exact hil) (by rw [setA_len f ws c.nodes c (Nat.le_refl _)]; exact hil), getD_and (by rw [setA_len f vs b.nodes b (Nat.le_refl _)]; exact hi) (by rw [setA_len f vs c.nodes c (Nat.le_refl _)]; exact hi), (H b (by rw [hb1]; simp)).2 c3'.1 i hi, (H c (by rw [hb1]; simp)).2 c3'.2 i hi]
end
theorem ev_Is1 (g : Fun) (ws : List Val) (y : Int) (m : Mem) (id : Nat) (hi : m.bx[id]? = some (sysX g (.isl false ws.length (Val.cellsL ws)))) : evCall C0 57 [.int .i64 y, .ptr id 0] m = some (.ret (.bool (decide (y < 0) || decide ((ws.length : Int) ≤ y))), m) := by
  have hid : id < m.bx.length := (List.getElem?_eq_some_iff.1 hi).1
  have hR2 := (List.getElem?_eq_some_iff.1 hi).2
  rw [evCall_body C0 (C0_ext _ (by decide)) (by rw [C0_P]; exact Tryz.func57) rfl (by rw [C0_ann]; rfl) (by rw [C0_ann]; rfl) (by decide) (by simp [Tryz.f57])]
  by_cases h : y < 0
  · simp [Tryz.f57, a57, reg57, h]
  · simp [Tryz.f57, a57, reg57, h, hid, hR2, at_lt]
set_option maxHeartbeats 2000000 in
theorem ev_SIs (f g : Fun) (vs ws : List Val) (h : List Int) (fl : Bool) (hf : f.nodes ≤ 1000000) (hg : g.nodes ≤ 1000000) (hb : Val.nodesL vs ≤ 1000000) (hb2 : Val.nodesL ws ≤ 1000000) (hs : ∀ v ∈ vs, slimV v) (hs2 : ∀ v ∈ ws, slimV v) (hl : h.length ≤ 1000000000) (m : Mem) :
    evCall C0 31 [.agg (sysX f (.isl false vs.length (Val.cellsL vs))), .agg (sysX g (.isl false ws.length (Val.cellsL ws))), .isl fl h.length (ints h)] m = some (.ret (.tup [.bool (decide (bothE f g vs ws = 0) && homB f vs ws h), .int .i64 (bothE f g vs ws)]), m) := by
  rw [evCall_body C0 (C0_ext _ (by decide)) (by rw [C0_P]; exact Tryz.func31) rfl (by rw [C0_ann]; rfl) (by rw [C0_ann]; rfl) (by decide) (by simp [Tryz.f31])]
  have hbo := ev_Both f g vs ws hf hg hb hb2 hs hs2
  simp at hbo
  by_cases e0 : bothE f g vs ws = 0
  case neg => simp [Tryz.f31, a31, reg31, loop31, draw31, dok31, hbo, e0]
  have hok : okS f vs = true := by
    unfold bothE at e0
    cases c : okS f vs
    · simp [c] at e0
    · rfl
  obtain ⟨hsh, _, hok2⟩ := okS_spec hok
  unfold homB
  by_cases c1 : h.length = vs.length
  case neg =>
    have d1 : ¬ (h.length : Int) = vs.length := by omega
    simp [Tryz.f31, a31, reg31, loop31, draw31, dok31, hbo, e0, c1, d1]
  have hst := ev_ContainsI (g := 57) (caps := [.ptr (m.bx.length + 1) 0]) (fun y => decide (y < 0) || decide ((ws.length : Int) ≤ y)) h fl hl ⟨m.bx ++ [sysX f (.isl false vs.length (Val.cellsL vs)), sysX g (.isl false ws.length (Val.cellsL ws))], m.rw⟩ (by simp) fun y _ => ev_Is1 g ws y _ _ (by simp)
  cases c2 : h.any (fun y => decide (y < 0) || decide ((ws.length : Int) ≤ y))
  case true =>
    simp only [c2] at hst
    rw [c1] at hst
    simp at hst
    simp [Tryz.f31, a31, reg31, loop31, draw31, dok31, hbo, e0, c1, hst]
  have hbd := any_bound c2
  simp only [c2] at hst
  rw [c1] at hst
  simp at hst
  simp [Tryz.f31, a31, reg31, loop31, draw31, dok31, hbo, e0, c1, hst]
  refine loop_in (fun i : Nat => ⟨[(2, .isl fl vs.length (ints h)), (3, .ptr m.bx.length 0), (4, .ptr (m.bx.length + 1) 0), (29, .isl false vs.length (Val.cellsL vs)), (30, .int .i64 vs.length), (31, .int .i64 i)], ⟨m.bx ++ [sysX f (.isl false vs.length (Val.cellsL vs)), sysX g (.isl false ws.length (Val.cellsL ws))], m.rw⟩⟩)
    (fun i => some (.ret (.tup [.bool (homL f h ws (vs.drop i) (h.drop i)), .int .i64 0]), m)) (fun i => vs.length - i) (fun i => i ≤ vs.length) 0 ?_ ?_ ?_ ?_ ?_
  · simp
  · simp
  · simp
  · intro x; simp [Tryz.f31, a31, reg31, loop31, draw31, dok31]
  · intro i hi hrec
    by_cases hlt : i < vs.length
    · have hlt' : i < h.length := by omega
      have w2 : IntKind.i64.wrap (i + 1) = i + 1 := wrap_id _ (by omega)
      have h3 : (i + 1) * 3 ≤ vs.length * 3 := by omega
      have h3' : i + 1 ≤ h.length := by omega
      have hat := ints_at hlt'
      have hmem := List.getElem_mem hlt
      have hnm := Val.nodes_mem hmem
      obtain ⟨y0, y1⟩ := hbd _ (List.getElem_mem hlt')
      rw [homL_drop hlt hlt']
      obtain ⟨k, hk⟩ : ∃ k : Nat, h[i] = k := ⟨h[i].toNat, by omega⟩
      have hkl : k < ws.length := by omega
      have h4 : (k + 1) * 3 ≤ ws.length * 3 := by omega
      rw [hk] at hat ⊢
      have he := ev_Along h fl vs.length (by omega) f vs[i] hsh (hok2 _ hmem) (by omega) (hs _ hmem)
      have hmn := map_nodes (toV_sm h) vs[i] f (hs _ hmem) (by omega)
      have hsm := ev_vSame (mapV (toV h) vs[i] f) ws[k] (by omega) hmn.2
      have hgt : ws.getD (k : Int).toNat zeroV = ws[k] := by simp [hkl]
      rw [hgt]
      rw [c1] at he
      simp at he hsm
      by_cases hc : cmpV (mapV (toV h) vs[i] f) ws[k] = 0
      · simp [round, Tryz.f31, a31, reg31, loop31, draw31, dok31, hlt, hlt', w2, h3, h3', h4, hat, he, hsm, hkl, hc, endRound_M0, endRound_L]
        refine hrec (i + 1) _ _ ?_ ?_ ?_ ?_
        · omega
        · omega
        · simp
        · simp
      · simp [round, Tryz.f31, a31, reg31, loop31, draw31, dok31, hlt, hlt', w2, h3, h3', h4, hat, he, hsm, hkl, hc]
    · clear hrec
      rw [List.drop_eq_nil_of_le (by omega)]
      simp [round, Tryz.f31, a31, reg31, loop31, draw31, dok31, hlt, homL]
def oc : Option Val → List A
  | none => [.int .i64 0, .nils, .nils]
  | some v => v.cells
def oe : Option Val → List A
  | none => [.int .i64 0, .isl false 0 [], .isl false 0 []]
  | some v => v.cells
def ocL (o : List (Option Val)) : List A := o.flatMap oc
def oeL (o : List (Option Val)) : List A := o.flatMap oe
theorem oc_length : ∀ x, (oc x).length = 3
  | none => rfl
  | some v => by rw [oc]; simp
@[simp] theorem ocL_length : ∀ o : List (Option Val), (ocL o).length = o.length * 3
  | [] => rfl
  | x :: r => by rw [show ocL (x :: r) = oc x ++ ocL r from rfl, List.length_append, oc_length, ocL_length r, List.length_cons]; omega
@[simp] theorem oeL_length : ∀ o : List (Option Val), (oeL o).length = o.length * 3
  | [] => rfl
  | none :: r => by rw [show oeL (none :: r) = oe none ++ oeL r from rfl, List.length_append, oeL_length r, List.length_cons]; simp [oe]; omega
  | some v :: r => by rw [show oeL (some v :: r) = oe (some v) ++ oeL r from rfl, List.length_append, oeL_length r, List.length_cons]; simp [oe]; omega
theorem oc_er (nb nr : Nat) (g) : ∀ x, (oc x).map (er1 nb nr g) = oe x
  | none => by simp [oc, oe]
  | some v => by rw [oc, oe, Val.er_cells]
@[simp] theorem ocL_er (nb nr : Nat) (g) : ∀ o : List (Option Val), (ocL o).map (er1 nb nr g) = oeL o
  | [] => rfl
  | x :: r => by rw [show ocL (x :: r) = oc x ++ ocL r from rfl, List.map_append, oc_er, ocL_er nb nr g r]; rfl
@[simp] theorem ocL_closed (nb nr : Nat) : ∀ o : List (Option Val), (ocL o).all (closed nb nr) = true
  | [] => rfl
  | none :: r => by rw [show ocL (none :: r) = oc none ++ ocL r from rfl, List.all_append, ocL_closed nb nr r]; simp [oc]
  | some v :: r => by rw [show ocL (some v :: r) = oc (some v) ++ ocL r from rfl, List.all_append, ocL_closed nb nr r, oc, Val.closed_cells]; rfl
attribute [simp] qL_length
theorem ev_lfew8b (f g : Fun) (vs ws : List Val) (m : Mem) (fl : Bool) : evCall C0 22 [.isl fl 2 (sysX f (.isl false vs.length (Val.cellsL vs)) ++ sysX g (.isl false ws.length (Val.cellsL ws)))] m = some (.ret (.bool (few8 f vs && few8 g ws)), m) := by
  rw [evCall_body C0 (C0_ext _ (by decide)) (by rw [C0_P]; exact Tryz.func22) rfl (by rw [C0_ann]; rfl) (by rw [C0_ann]; rfl) (by decide) (by simp [Tryz.f22])]
  have he := ev_SFew f vs 200 (by omega) (by omega)
  have he2 := ev_SFew g ws 200 (by omega) (by omega)
  simp at he he2
  have w2 : IntKind.i64.wrap 2 = 2 := wrap_id _ (by omega)
  unfold few8
  simp [Tryz.f22, a22, reg22, loop22]
  rw [evCode_loop]
  cases hc : fewS f vs 200
  · simp [round, Tryz.f22, a22, reg22, loop22, he, hc]
  by_cases h8 : vs.length ≤ 8
  case neg =>
    have h8' : (8 : Int) < vs.length := by omega
    simp [round, Tryz.f22, a22, reg22, loop22, he, hc, h8, h8', endRound_M0, endRound_M]
  have h8' : ¬ (8 : Int) < vs.length := by omega
  simp [round, Tryz.f22, a22, reg22, loop22, he, hc, h8, h8', endRound_M0, endRound_M]
  rw [evCode_loop]
  cases hc2 : fewS g ws 200
  · simp [round, Tryz.f22, a22, reg22, loop22, he2, hc2]
  by_cases k8 : ws.length ≤ 8
  case neg =>
    have k8' : (8 : Int) < ws.length := by omega
    simp [round, Tryz.f22, a22, reg22, loop22, he2, hc2, k8, k8', endRound_M0, endRound_M]
  have k8' : ¬ (8 : Int) < ws.length := by omega
  simp [round, Tryz.f22, a22, reg22, loop22, he2, hc2, k8, k8', endRound_M0, endRound_M]
  rw [evCode_loop]
  simp [round, Tryz.f22, a22, reg22, loop22, w2]
theorem hom_facts {f : Fun} {vs ws : List Val} {h : List Int} (H : homB f vs ws h = true) : h.length = vs.length ∧ (∀ i, i < vs.length → 0 ≤ h.getD i 0 ∧ h.getD i 0 < ws.length) ∧ ∀ i (hi : i < vs.length), ws.getD (h.getD i 0).toNat zeroV = mapV (toV h) vs[i] f := by
  unfold homB at H
  simp only [Bool.and_eq_true, decide_eq_true_eq, Bool.not_eq_true'] at H
  obtain ⟨⟨h1, h2⟩, h3⟩ := H
  have hgd : ∀ i (hi : i < h.length), h.getD i 0 = h[i] := fun i hi => by rw [List.getD_eq_getElem?_getD, List.getElem?_eq_getElem hi]; rfl
  refine ⟨h1, fun i hi => ?_, fun i hi => ?_⟩
  · have hi' : i < h.length := by omega
    rw [hgd i hi']
    exact any_bound h2 _ (List.getElem_mem hi')
  · have hi' : i < h.length := by omega
    rw [hgd i hi']
    unfold homL at h3
    have hz : (vs[i], h[i]) ∈ vs.zip h := by
      have hzl : i < (vs.zip h).length := by rw [List.length_zip]; omega
      have := List.getElem_mem hzl
      rwa [List.getElem_zip] at this
    have := List.all_eq_true.1 h3 _ hz
    simp only [decide_eq_true_eq] at this
    exact (((cmpV_zero _ _).1 this)).symm
theorem index_at (S : List Bool) (x : Int) (hx : 0 ≤ x) : decide (0 ≤ idxA (fun y => decide (y = x)) (idxT S 0) 0) = S.getD x.toNat false := by
  rw [idxA_pos _ _ _ (by omega)]
  have hm := idxT_at (S := S) x.toNat
  rw [show ((x.toNat : Nat) : Int) = x by omega] at hm
  rw [Bool.eq_iff_iff, ← hm, List.any_eq_true]
  constructor
  · rintro ⟨y, hy, hyx⟩
    rw [decide_eq_true_eq] at hyx
    subst hyx
    exact hy
  · exact fun h => ⟨x, h, by simp⟩
set_option maxHeartbeats 4000000 in
theorem ev_LogicMaps (f : Fun) (vs : List Val) (g : Fun) (ws : List Val) (h : List Int) (a : Fm) (m : Mem) : evCall C0 6 [.agg (sysX f (.isl false vs.length (Val.cellsL vs))), .agg (sysX g (.isl false ws.length (Val.cellsL ws))), .isl false h.length (ints h), .agg a.cells] m = some (.ret (.bool true), m) := by
  rw [evCall_body C0 (C0_ext _ (by decide)) (by rw [C0_P]; exact Tryz.func6) rfl (by rw [C0_ann]; rfl) (by rw [C0_ann]; rfl) (by decide) (by simp [Tryz.f6])]
  have h1 := fun fl m => ev_lfew8b f g vs ws m fl
  have h2 := fun m => ev_FewA a 60 m (by omega) (by omega)
  simp at h1 h2
  cases c1 : few8 f vs && few8 g ws
  case false => simp [Tryz.f6, a6, reg6, loop6, h1, c1, ev_awake]
  by_cases c2 : 0 < leftA a 61
  case neg => simp [Tryz.f6, a6, reg6, loop6, h1, c1, h2, c2, ev_awake]
  by_cases c3 : h.length ≤ 200
  case neg =>
    have c3' : (200 : Int) < h.length := by omega
    simp [Tryz.f6, a6, reg6, loop6, h1, c1, h2, c2, c3', ev_awake]
  have c3' : ¬ (200 : Int) < h.length := by omega
  have n2 : a.nodes ≤ 1000000 := by rw [leftA_nodes a 61 (by omega)] at c2; omega
  have c1' := c1
  rw [Bool.and_eq_true] at c1
  obtain ⟨k1, k2, k3, k4, k5⟩ := few8_spec c1.1
  obtain ⟨l1, l2, l3, l4, l5⟩ := few8_spec c1.2
  have e0 := ev_SIs f g vs ws h false k1 l1 k3 l3 k4 l4 (by omega)
  simp at e0
  by_cases b0 : bothE f g vs ws = 0
  case neg => simp [Tryz.f6, a6, reg6, loop6, h1, c1', h2, c2, c3', e0, b0, ev_awake]
  cases hB : homB f vs ws h
  case false => simp [Tryz.f6, a6, reg6, loop6, h1, c1', h2, c2, c3', e0, b0, hB, ev_awake]
  have hfg : okS f vs = true ∧ okS g ws = true ∧ g = f := by
    unfold bothE at b0
    split at b0
    · rename_i q
      rw [Bool.and_eq_true] at q
      split at b0
      · rename_i s
        exact ⟨q.1, q.2, ((sameF_iff f g).1 s).symm⟩
      · cases b0
    · cases b0
  obtain ⟨s1, s2, rfl⟩ := hfg
  have e1 := ev_LTrue g vs a k1 k3 k4 (by omega) (fun h => ⟨(fine_sets g vs a c1.1 n2 h).1, (fine_sets g vs a c1.1 n2 h).2.2⟩)
  have e2 := ev_LTrue g ws a k1 l3 l4 (by omega) (fun h => ⟨(fine_sets g ws a c1.2 n2 h).1, (fine_sets g ws a c1.2 n2 h).2.2⟩)
  have hE : fineE g ws a = fineE g vs a := by unfold fineE; rw [s1, s2]
  rw [hE] at e2
  by_cases c : fineE g vs a = 0
  case neg =>
    rw [if_neg c] at e1 e2
    simp [ints] at e1 e2
    simp [Tryz.f6, a6, reg6, loop6, h1, c1', h2, c2, c3', e0, b0, hB, e1, e2, c, ev_awake]
  rw [if_pos c, c] at e1 e2
  obtain ⟨hsh, _, hok⟩ := okS_spec s1
  obtain ⟨q1, q2, q3⟩ := hom_facts hB
  have hT := (tru_map g vs ws h hsh hok q2 q3 a.nodes a (Nat.le_refl _)).2 (isFm_ok (fine_zero c).2)
  have i1 := idxT_len (setA g vs a) 0
  have i2 := idxT_len (setA g ws a) 0
  rw [setA_len g vs a.nodes a (Nat.le_refl _)] at i1
  rw [setA_len g ws a.nodes a (Nat.le_refl _)] at i2
  have r1 := fun x => ev_RIndex (idxT (setA g vs a) 0) x false (by omega)
  have r2 := fun x => ev_RIndex (idxT (setA g ws a) 0) x false (by omega)
  have d1 := index_at (setA g vs a)
  have d2 := index_at (setA g ws a)
  generalize idxT (setA g vs a) 0 = L1 at *
  generalize idxT (setA g ws a) 0 = L2 at *
  simp at e1 e2 r1 r2
  simp [Tryz.f6, a6, reg6, loop6, h1, c1', h2, c2, c3', e0, b0, hB, e1, e2, c]
  refine loop_in (fun i : Nat => ⟨[(11, .isl false L1.length (ints L1)), (12, .isl false L2.length (ints L2)), (70, .isl false h.length (ints h)), (71, .int .i64 h.length), (72, .int .i64 i)], ⟨m.bx ++ [sysX g (.isl false vs.length (Val.cellsL vs)), sysX g (.isl false ws.length (Val.cellsL ws)), a.cells], m.rw⟩⟩)
    (fun i => some (.ret (.bool true), m)) (fun i => h.length - i) (fun i => i ≤ h.length) 0 ?_ ?_ ?_ ?_ ?_
  · simp
  · simp
  · simp
  · intro x; simp [Tryz.f6, a6, reg6, loop6]
  · intro i hi hrec
    by_cases hlt : i < h.length
    · have w2 : IntKind.i64.wrap (i + 1) = i + 1 := wrap_id _ (by omega)
      have h3 : i + 1 ≤ h.length := by omega
      have hat := ints_at hlt
      have hi2 : i < vs.length := by omega
      have hgd : h.getD i 0 = h[i] := by rw [List.getD_eq_getElem?_getD, List.getElem?_eq_getElem hlt]; rfl
      have p1 := d1 i (by omega)
      have p2 := d2 h[i] (by rw [← hgd]; exact (q2 i hi2).1)
      have p3 := hT i hi2
      rw [hgd] at p3
      rw [p3] at p2
      rw [Int.toNat_natCast] at p1
      rw [← p1] at p2
      have p4 : (0 ≤ idxA (fun y => decide (y = h[i])) L2 0) = (0 ≤ idxA (fun y => decide (y = (i : Int))) L1 0) := by
        rw [decide_eq_decide] at p2
        exact propext p2
      simp [round, Tryz.f6, a6, reg6, loop6, hlt, w2, h3, hat, r1, r2, p4, endRound_L]
      refine hrec (i + 1) _ _ ?_ ?_ ?_ ?_
      · omega
      · omega
      · simp
      · simp
    · clear hrec
      simp [round, Tryz.f6, a6, reg6, loop6, hlt, ev_awake]
end AE
end Go.Proofs.YtejfmdoejokcaaaGreatDoor
/- Trees of formulas that came in. -/
set_option linter.unusedVariables false
set_option linter.unusedSimpArgs false
namespace Go.Proofs.YtejfmdoejokcaaaGreatDoor
namespace AE
open Go Go.RowKit
set_option maxRecDepth 1000000 in
theorem cFm : Tryz.prog.cellsOf 27 = 4 := by kernel_rfl
set_option maxRecDepth 1000000 in
theorem cFms : Tryz.prog.cellsOf 25 = 1 := by kernel_rfl
theorem Fm.flat : ∀ l : List Fm, l.flatMap Fm.cells = Fm.cellsL l
  | [] => by simp
  | f :: r => by rw [List.flatMap_cons, Fm.flat r, Fm.cellsL]
set_option maxRecDepth 100000 in
theorem open_fm {H : Type} {enc : TypeId × Value → H} {W : World} : ∀ (N fuel : Nat), fuel ≤ N → ∀ (cs : List Value) (x : DataW H × List MemPlace), DataW.trod enc Tryz.prog W 0 (fun _ => true) true fuel 27 cs = some x → ∃ f : Fm, VRs W (g0 W) f.cells cs := by
  intro N
  induction N with
  | zero =>
    intro fuel hfu cs x h
    obtain rfl : fuel = 0 := by omega
    simp [DataW.trod] at h
  | succ N ih =>
    intro fuel hfu cs x h
    obtain ⟨xs, n, hn, rfl, hlen, hxl, hf⟩ := DataW.trod_struct Tryz.underlying27 h
    rw [cFm] at hlen
    have hxl3 : xs.length = 4 := hxl
    clear hxl
    obtain ⟨a0, a1, a2, a3, rfl⟩ : ∃ a0 a1 a2 a3, cs = [a0, a1, a2, a3] := by
      match cs, hlen with
      | [a0, a1, a2, a3], _ => exact ⟨a0, a1, a2, a3, rfl⟩
    obtain ⟨x0, x1, x2, x3, rfl⟩ : ∃ x0 x1 x2 x3, xs = [x0, x1, x2, x3] := by
      match xs, hxl3 with
      | [a0, a1, a2, a3], _ => exact ⟨a0, a1, a2, a3, rfl⟩
    have h0 := hf 0 _ rfl
    have h1 := hf 1 _ rfl
    have h2 := hf 2 _ rfl
    have h3 := hf 3 _ rfl
    simp [cInt, cFms] at h0 h1 h2 h3
    obtain ⟨k, e0, _, _⟩ := DataW.trod_int Tryz.underlying3 h0
    obtain ⟨m, e1, _, _⟩ := DataW.trod_int Tryz.underlying3 h1
    obtain ⟨q, e2, _, _⟩ := DataW.trod_int Tryz.underlying3 h2
    simp at e0 e1 e2
    subst e0 e1 e2
    obtain ⟨l, v, e3, hv⟩ := open_slice (by decide) Tryz.underlying25 cFm Fm.cells Fm.cells_length (fun n' hn' ds y hy => ih n' (by omega) ds y hy) h3
    simp at e3
    subst e3
    rw [Fm.flat] at hv
    refine ⟨.mk k m q l, ?_⟩
    rw [Fm.cells_eq]
    exact .mk_cons VR.mkInt (.mk_cons VR.mkInt (.mk_cons VR.mkInt (.mk_cons hv VRs.mk_nil)))
end AE
end Go.Proofs.YtejfmdoejokcaaaGreatDoor
/- The row of the statement LogicMaps. Printed by mkrow.py. -/
set_option linter.unusedVariables false
set_option linter.unusedSimpArgs false
namespace Go.Proofs.YtejfmdoejokcaaaGreatDoor
namespace AE
open Go Go.ChangeShapes Go.WideShapes Go.ChangeAt Go.RowKit
theorem own : ownKnob Tryz.prog.godebug = none := by kernel_rfl
theorem laidOut : laidOutB Tryz.prog = true := by kernel_rfl
theorem door_met_logicMaps (os : Os) (args : Array Value) : laidMetH Tryz.prog Rows.logicMapsRow.laid ((World.laidAll Tryz.prog os Rows.logicMapsRow.laid).forCall (fun _ _ => 0) ⟨#[], args, []⟩).memory := by
  rw [MakeChecks.laidMetH_plain _ _ _ (by kernel_rfl)]
  exact laidMet_laidAll _ (by kernel_rfl) (by kernel_rfl)
set_option maxRecDepth 100000 in
theorem lifted_logicMaps (os : Os) (started : os.Started) (H : Type) (enc : TypeId × Value → H) :
    ReturnsInHanded {} Tryz.checked os 6 .any (fun w args => (Rows.logicMapsSpec.pre enc Tryz.prog Tryz.f6 [] false w args ∧ laidMetH Tryz.prog Rows.logicMapsRow.laid w) ∧ sizedMet enc Tryz.prog Tryz.f6 (OpenSpec.ofChange Rows.logicMapsSpec) false w args)
      (Rows.logicMapsSpec.post enc Tryz.prog Tryz.f6 false true false false) := by
  refine returnsInHanded_of_change_and (C := Tryz.checked) (X := fun w _ => laidMetH Tryz.prog Rows.logicMapsRow.laid w) (fun _ _ _ hh h => h.of_heap hh) own started (by kernel_rfl) Tryz.func6
    (ChangeSpec.witness_shaped (enc := enc) (C := Tryz.checked) (os := os) (X := fun w _ => laidMetH Tryz.prog Rows.logicMapsRow.laid w) false (World.laidAll Tryz.prog os Rows.logicMapsRow.laid) #[.agg #[.int .i64 0, .int .i64 0, .slice none 0 0, .slice none 0 0], .agg #[.int .i64 0, .int .i64 0, .slice none 0 0, .slice none 0 0], .slice none 0 0, .agg #[.int .i64 0, .int .i64 0, .int .i64 0, .slice none 0 0]] 8 rfl (World.shaped_of_ZipB (by kernel_rfl) (by kernel_rfl)) (by kernel_rfl) (by kernel_rfl) (by kernel_rfl) (door_met_logicMaps os _)) ?_
  intro W base args ds gs before hval0 hW _ _ hL _
  have hW' := hW
  obtain ⟨p, q, hA0, hV, rfl, hfz, hnd⟩ := hW
  have hA : DataW.TrodAll enc Tryz.prog W 0 (fun _ => true) true Tryz.f6.params.toList args.toList ds p := hA0
  rw [Tryz.params6] at hA
  obtain ⟨v0, v1, v2, v3, d0, d1, d2, d3, p0, p1, p2, p3, rfl, rfl, rfl, h0, h1, h2, h3⟩ := trodAll_four hA
  obtain ⟨rfl, rfl⟩ := trodVars_none hV
  have k0 := h0
  have k1 := h1
  have k2 := h2
  have k3 := h3
  have lt0 : ∀ x ∈ p0, x.block < W.heap.size := by obtain ⟨m, hm⟩ := k0; exact DataW.trod_lt m _ _ _ hm
  have lt1 : ∀ x ∈ p1, x.block < W.heap.size := by obtain ⟨m, hm⟩ := k1; exact DataW.trod_lt m _ _ _ hm
  have lt2 : ∀ x ∈ p2, x.block < W.heap.size := by obtain ⟨m, hm⟩ := k2; exact DataW.trod_lt m _ _ _ hm
  have lt3 : ∀ x ∈ p3, x.block < W.heap.size := by obtain ⟨m, hm⟩ := k3; exact DataW.trod_lt m _ _ _ hm
  obtain ⟨n0, h0⟩ := h0
  obtain ⟨x0, y0, hx0⟩ := open_sys n0 n0 (Nat.le_refl _) _ _ h0
  obtain ⟨n1, h1⟩ := h1
  obtain ⟨x1, y1, hx1⟩ := open_sys n1 n1 (Nat.le_refl _) _ _ h1
  obtain ⟨a2, len2, cap2, rfl⟩ := Go.WideShapes.okWide_slice Tryz.underlying50 (hval0 2 50 v2 rfl rfl)
  obtain ⟨n2, h2⟩ := h2
  obtain ⟨x2, w2, e2, hx2⟩ := open_ks h2
  obtain rfl : Value.slice a2 len2 cap2 = w2 := by simpa [Value.cells] using e2
  obtain ⟨n3, h3⟩ := h3
  obtain ⟨x3, hx3⟩ := open_fm n3 n3 (Nat.le_refl _) _ _ h3
  have hs := sr0 (P := Tryz.prog) (gl_of_laid (laid := Rows.logicMapsRow.laid) (by kernel_rfl) (by simp [Rows.logicMapsRow]) (by simp [Rows.logicMapsRow]) (by simp [Rows.logicMapsRow]) hL) (tb_of_laid (laid := Rows.logicMapsRow.laid) (by kernel_rfl) (by simp [Rows.logicMapsRow]) hL)
  have hcall := (sound ok0 6 [.agg (sysX x0 (.isl false y0.length (Val.cellsL y0))), .agg (sysX x1 (.isl false y1.length (Val.cellsL y1))), .isl false x2.length (ints x2), .agg x3.cells] ⟨[], []⟩ _ (ev_LogicMaps x0 y0 x1 y1 x2 x3 ⟨[], []⟩)).2 W (g0 W) W [v0, v1, .slice a2 len2 cap2, v3] (by rw [C0_P, C0_gl]; exact hs) ?_
  · rw [C0_P] at hcall
    refine Calls.mono hcall fun e W' hR => ?_
    obtain ⟨g', hs', _, hres⟩ := hR
    cases e with
    | panicked ch => exact hres.elim
    | outgrown => exact hres.elim
    | returned v =>
      have hv : v = .bool true := hres
      subst hv
      have bel := hs'.below
      exact ⟨_, rfl, _, _, _, [], _, [], hW', trodAll_mk1 (shut_bool Tryz.underlying4 _), (trodAll_cons_mk (Below.trod laidOut (by kernel_rfl) (of_decide_eq_true (by kernel_rfl)) k0 bel lt0) (trodAll_cons_mk (Below.trod laidOut (by kernel_rfl) (of_decide_eq_true (by kernel_rfl)) k1 bel lt1) (trodAll_cons_mk (Below.trod laidOut (by kernel_rfl) (of_decide_eq_true (by kernel_rfl)) k2 bel lt2) (trodAll_cons_mk (Below.trod laidOut (by kernel_rfl) (of_decide_eq_true (by kernel_rfl)) k3 bel lt3) trodAll_mk0)))), rfl, bel.frame _, fun h => by cases h⟩
  · exact .mk_cons (agg_of hx0 (by simp)) (.mk_cons (agg_of hx1 (by simp)) (.mk_cons hx2 (.mk_cons (agg_of hx3 (by simp)) VRs.mk_nil)))
theorem said_logicMaps : Rows.LogicMapsSaid :=
  OpenClaim.holds_of_wide 6 Tryz.f6 rfl rfl rfl rfl rfl rfl rfl ⟨rfl, rfl, rfl, rfl, rfl⟩ rfl rfl rfl rfl rfl (by kernel_rfl) Tryz.func6 (by kernel_rfl)
    (of_decide_eq_true (by kernel_rfl)) (by unfold Func.isWrapper; first | (rw [if_pos (by decide +kernel)]; kernel_rfl) | (rw [if_neg (by decide +kernel)]; exact ⟨rfl, rfl⟩))
    (fun os started H enc _ => lifted_logicMaps os started H enc)
end AE
end Go.Proofs.YtejfmdoejokcaaaGreatDoor
/- The card of the statement LogicMaps. Printed by mkrow.py. -/
set_option linter.unusedVariables false
set_option linter.unusedSimpArgs false
namespace Go.Proofs.YtejfmdoejokcaaaGreatDoor
namespace AE
open Go
theorem card_logicMaps : Rows.LogicMapsCardSaid :=
  Claim7.holds_tied_plain_at .later [] [.data, .data, .data, .data, .sentinel, .sentinel, .data, .widerDeep, .pinned] true (true, "70642d1fde59d5f0e3c6a178434cd940d613635ed48435bc76478f3e7c8f55f8") true
    said_logicMaps (fun _ h => by cases h) (by kernel_rfl) (fun _ h => by cases h) logicMaps_row_tie rfl ⟨rfl, rfl⟩ (by kernel_rfl) rfl
    (fun f fn hf hfn => by
      obtain rfl : f = 6 := Option.some.inj ((show Tryz.prog.funcNamed "ectype/ectypelaw07.LogicMaps" = some 6 by kernel_rfl).symm.trans hf) |>.symm
      obtain rfl : fn = Tryz.f6 := (Option.some.inj (Tryz.func6.symm.trans hfn)).symm
      exact ⟨by kernel_rfl, fun j t ht => by
        rw [Tryz.params6] at ht
        have h3 : t = 48 ∨ t = 50 ∨ t = 27 := by
          rcases j with _ | _ | _ | _ | j
          · exact .inl (by simpa using ht.symm)
          · exact .inl (by simpa using ht.symm)
          · exact .inr (.inl (by simpa using ht.symm))
          · exact .inr (.inr ((by simpa using ht.symm)))
          · simp at ht
        rcases h3 with rfl | rfl | rfl
        · exact (show Tryz.prog.wantsStandIn 48 = false by kernel_rfl)
        · exact (show Tryz.prog.wantsStandIn 50 = false by kernel_rfl)
        · exact (show Tryz.prog.wantsStandIn 27 = false by kernel_rfl)
      ⟩)
    (by kernel_rfl)
#print axioms card_logicMaps
end AE
end Go.Proofs.YtejfmdoejokcaaaGreatDoor
