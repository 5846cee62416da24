/- The reference's merging of elements that lie in rows; evaluated. Printed by mkVL.py out of VK. -/
import Derived.Test.YthoomlenmgdebaaGreatDoorGF
import Derived.Test.YthoomlenmgdebaaGreatDoorGE
set_option linter.unusedVariables false
set_option linter.unusedSimpArgs false
namespace Go.Proofs.YthoomlenmgdebaaGreatDoor
namespace AE
open Go
def mwA (k : Int) (iv : Nat) (v : Val) : A := if wtd k = false then .nils else .sl iv v.ws.length 0 v.ws.length
theorem mwA_closed {k : Int} {iv : Nat} {v : Val} {R : List Row} (h : wtd k = true → R[iv]? = some ⟨3, ints v.ws⟩) (nb x : Nat) : closed nb (R.length + x) (mwA k iv v) = true := by
  unfold mwA
  split
  · simp
  · rename_i hc
    have := (List.getElem?_eq_some_iff.1 (h (by simpa using hc))).1
    simp
    omega
set_option maxHeartbeats 8000000 in
theorem ev_MergedR (k : Int) (v : Val) (ia iv : Nat) (hk : setsK k = true) (hb : v.nodes ≤ 1000000) (hs : slimV v) (hw : wtd k = true → v.ws.length = v.args.length ∧ (∀ w, w ∈ v.ws → 1 ≤ w) ∧ v.ws.sum ≤ 1048576) (h7 : k = 7 → 0 < v.args.length) (m : Mem) (hRa : m.rw[ia]? = some ⟨28, Val.cellsL v.args⟩) (hRw : wtd k = true → m.rw[iv]? = some ⟨3, ints v.ws⟩) :
    evCall C0 39 [.int .i64 k, .agg [.int .i64 v.num, .sl ia (v.args.length * 3) 0 v.args.length, mwA k iv v]] m = some (.ret (.agg (mergeV k v.num v.args v.ws).cells), m) := by
  have hlen := v.length_args
  have hia : ia < m.rw.length := (List.getElem?_eq_some_iff.1 hRa).1
  have hia2 : ∀ x, ia < m.rw.length + x := fun x => by omega
  have hRa2 := (List.getElem?_eq_some_iff.1 hRa).2
  have hmw := fun nb x => mwA_closed hRw nb x
  have hRv : wtd k = true → iv < m.rw.length ∧ ∃ h : iv < m.rw.length, m.rw[iv] = ⟨3, ints v.ws⟩ := fun h => ⟨(List.getElem?_eq_some_iff.1 (hRw h)).1, (List.getElem?_eq_some_iff.1 (hRw h))⟩
  rw [slimV_eq] at hs
  rw [evCall_body C0 (C0_ext _ (by decide)) (by rw [C0_P]; exact Tryz.func39) rfl (by rw [C0_ann]; rfl) (by decide) (by simp [Tryz.f39])]
  simp [Tryz.f39, a39, reg39, loop39, draw39, dok39, at_lt, hia, hia2, hRa2, hmw]
  refine loop_in (fun s : MgS => ⟨[(0, .int .i64 k), (3, .ptr m.bx.length 0), (4, .ptr (m.bx.length + 1) 0), (5, .ptr (m.bx.length + 2) 0), (18, .sl ia (v.args.length * 3) 0 v.args.length), (19, .int .i64 v.args.length), (20, .int .i64 s.i)],
      ⟨m.bx ++ [[.int .i64 v.num, .sl ia (v.args.length * 3) 0 v.args.length, mwA k iv v], [.int .i64 0, .nils, .nils], [.int .i64 v.num, mgA (m.rw.length + s.ja) s.o, mgW k (m.rw.length + s.jw) s.o]], m.rw ++ s.J⟩⟩)
    (fun s => some (.ret (.agg (mergeV k v.num v.args v.ws).cells), m)) (fun s => v.args.length - s.i)
    (fun s => s.i ≤ v.args.length ∧ s.o.length ≤ s.i ∧ mergeF s.o ((v.args.zip (wsOf k v.args v.ws)).drop s.i) = mergeP k v.args v.ws ∧ MgOk k m.rw.length s) ⟨0, [], [], 0, 0⟩ ?_ ?_ ?_ ?_ ?_
  · simp [mgA, mgW]
  · simp
  · refine ⟨by simp, by simp, rfl, ⟨rfl, fun h => by simp at h, fun h => by simp at h, fun _ p hp => by cases hp⟩⟩
  · intro x; simp [Tryz.f39, a39, reg39, loop39, draw39, dok39, at_lt, hia, hia2, hRa2, hmw]
  · rintro ⟨i, o, J, ja, jw⟩ ⟨hi, hol, hmg, hcl, hra, hrw, hps⟩ hrec
    simp only at hi hol hmg hcl hra hrw hps ⊢
    by_cases hlt : i < v.args.length
    · have w2 : IntKind.i64.wrap (i + 1) = i + 1 := wrap_id _ (by omega)
      have h3 : (i + 1) * 3 ≤ v.args.length * 3 := by omega
      have hm := Val.nodes_arg (List.getElem_mem hlt)
      simp [round, Tryz.f39, a39, reg39, loop39, draw39, dok39, at_lt, hia, hia2, hRa2, hmw, hlt, w2, h3, show i * 3 + 3 ≤ v.args.length * 3 by omega]
      rw [loop_mp (fun y : Nat × Int => ⟨[(0, .int .i64 k), (3, .ptr m.bx.length 0), (4, .ptr (m.bx.length + 1) 0), (5, .ptr (m.bx.length + 2) 0), (6, .int .i64 i), (7, .ptr (m.bx.length + 3) 0), (8, .int .i64 y.1), (9, .int .i64 y.2), (18, .sl ia (v.args.length * 3) 0 v.args.length), (19, .int .i64 v.args.length), (20, .int .i64 i)],
          ⟨m.bx ++ [[.int .i64 v.num, .sl ia (v.args.length * 3) 0 v.args.length, mwA k iv v], [.int .i64 0, .nils, .nils], [.int .i64 v.num, mgA (m.rw.length + ja) o, mgW k (m.rw.length + jw) o], v.args[i].cells], m.rw ++ J⟩⟩)
        (fun y => some (.normal, ⟨[(0, .int .i64 k), (3, .ptr m.bx.length 0), (4, .ptr (m.bx.length + 1) 0), (5, .ptr (m.bx.length + 2) 0), (6, .int .i64 i), (7, .ptr (m.bx.length + 3) 0), (8, .int .i64 (posP v.args[i] o).1), (9, .int .i64 (posP v.args[i] o).2), (18, .sl ia (v.args.length * 3) 0 v.args.length), (19, .int .i64 v.args.length), (20, .int .i64 i), (33, .bool false)],
          ⟨m.bx ++ [[.int .i64 v.num, .sl ia (v.args.length * 3) 0 v.args.length, mwA k iv v], [.int .i64 0, .nils, .nils], [.int .i64 v.num, mgA (m.rw.length + ja) o, mgW k (m.rw.length + jw) o], v.args[i].cells], m.rw ++ J⟩⟩))
        (fun y => 2 * (o.length - y.1) + (if 0 < y.2 then 1 else 0)) (fun y => y.1 ≤ o.length ∧ ((y.2 = 1 ∧ posP v.args[i] o = (y.1 + (posP v.args[i] (o.drop y.1)).1, (posP v.args[i] (o.drop y.1)).2)) ∨ (y.2 ≤ 0 ∧ posP v.args[i] o = (y.1, y.2)))) (0, 1) ?_ rfl ?_ ?_ ?_]
      · have hpl := posP_le v.args[i] o
        have hpe := posP_end v.args[i] o
        have hpi := posP_in v.args[i] o
        have hwt := ev_Weighted k
        have hwl : (wsOf k v.args v.ws).length = v.args.length := by
          unfold wsOf
          cases hwk : wtd k
          · simp
          · simpa using (hw hwk).1
        have hstep : mergeF o ((v.args.zip (wsOf k v.args v.ws)).drop i) = mergeF (insP v.args[i] ((wsOf k v.args v.ws).getD i 0) o) ((v.args.zip (wsOf k v.args v.ws)).drop (i + 1)) := by
          have hz : i < (v.args.zip (wsOf k v.args v.ws)).length := by rw [List.length_zip, hwl]; omega
          rw [List.drop_eq_getElem_cons hz]
          have : (v.args.zip (wsOf k v.args v.ws))[i] = (v.args[i], (wsOf k v.args v.ws).getD i 0) := by
            rw [List.getElem_zip, List.getD_eq_getElem?_getD, List.getElem?_eq_getElem (by omega)]
            rfl
          rw [this]
          rfl
        have hwi : wtd k = true → ∃ h : i < v.ws.length, (wsOf k v.args v.ws).getD i 0 = v.ws[i] ∧ 1 ≤ v.ws[i] ∧ v.ws[i] ≤ 1048576 - (o.map (·.2)).sum ∧ (∀ p, p ∈ o → 1 ≤ p.2) := fun h => merge_bounds h hw hmg hlt (hps h)
        have hwu : wtd k = false → (wsOf k v.args v.ws).getD i 0 = 0 := fun h => by
          unfold wsOf
          rw [h]
          simp [hlt]
        generalize (wsOf k v.args v.ws).getD i 0 = wi at hstep hwi hwu
        have hps' : wtd k = true → ∀ p, p ∈ insP v.args[i] wi o → 1 ≤ p.2 := fun h => by
          obtain ⟨h1, h2, h3, h4, h5⟩ := hwi h
          exact insP_pos (by omega) h5
        have hsame := @insP_same v.args[i] wi o
        have hnew := @insP_new v.args[i] wi o
        generalize hoo : insP v.args[i] wi o = o' at hsame hnew hstep hps'
        have ho'0 : ¬ o' = [] := hoo ▸ insP_ne _ _ _
        have ho'1 : 0 < o'.length := List.length_pos_iff.2 ho'0
        generalize hpp : posP v.args[i] o = pp at hpl hpe hpi hsame hnew ⊢
        obtain ⟨a, c⟩ := pp
        simp only at hpl hpe hpi hsame hnew ⊢
        by_cases hc0 : c = 0
        · obtain ⟨hao, hse, hfe⟩ := hsame hc0
          clear hnew hpi hpe
          subst hc0
          have ho1 : 0 < o.length := by omega
          have ho0 : ¬ o = [] := fun h => by rw [h] at ho1; simp at ho1
          have hJa := hra ho1
          have hja : ja < J.length := (List.getElem?_eq_some_iff.1 hJa).1
          have hJa2 := (List.getElem?_eq_some_iff.1 hJa).2
          have hil : o'.length = o.length := by rw [hse]; simp
          have hfst : o'.map (·.1) = o.map (·.1) := by
            rw [hse, List.map_set]
            exact List.ext_getElem (by simp) fun n h1 h2 => by
              rw [List.getElem_set]
              split
              · rename_i h; subst h; simp
              · rfl
          cases hwk : wtd k
          · simp [hwk] at hwt
            simp [Tryz.f39, a39, reg39, loop39, draw39, dok39, at_lt, hia, hia2, hRa2, hmw, hwt, mgA, mgW, mwA, hwk, ho0, ho1, hao, app_at, hja, hJa2, show ¬ (a : Int) = o.length by omega, endRound_J, hcl]
            refine hrec ⟨i + 1, o', J, ja, jw⟩ _ _ ?_ ?_ ?_ ?_
            · simp; omega
            · refine ⟨by simp only; omega, by simp only; omega, ?_, ?_⟩
              · simp only
                rw [← hmg, hstep]
              · exact ⟨hcl, fun _ => by simp only; rw [hfst]; exact hJa, fun _ h => absurd h (by simp [hwk]), hps'⟩
            · simp [mgA, mgW, mwA, hwk, hil, w2, ho'0, ho0]
            · simp
          · simp [hwk] at hwt
            obtain ⟨hqv, _, hRv2⟩ := hRv hwk
            obtain ⟨hiw, hwe, hw1, hw2, hwp⟩ := hwi hwk
            obtain ⟨hqv, _, hRv2⟩ := hRv hwk
            have hqv2 : ∀ x, iv < m.rw.length + x := fun x => by omega
            obtain ⟨hJw, hne⟩ := hrw ho1 hwk
            have hjw : jw < J.length := (List.getElem?_eq_some_iff.1 hJw).1
            have hJw2 := (List.getElem?_eq_some_iff.1 hJw).2
            have hat := ints_at hiw
            have hat2 : ((ints (o.map (·.2))).drop a).take 1 = [.int .i64 o[a].2] := by
              have := ints_at (ks := o.map (·.2)) (i := a) (by simpa using hao)
              simpa using this
            rw [hwe] at hse
            have hsum := mem_sum hwp (List.getElem_mem hao)
            have hp1 := hwp _ (List.getElem_mem hao)
            have w3 : IntKind.i64.wrap (o[a].2 + v.ws[i]) = o[a].2 + v.ws[i] := wrap_id _ (by omega)
            have hset : List.take a (ints (o.map (·.2))) ++ A.int .i64 (o[a].2 + v.ws[i]) :: List.drop (a + 1) (ints (o.map (·.2))) = ints (o'.map (·.2)) := by
              rw [hse, List.map_set, List.set_eq_take_append_cons_drop, if_pos (by simpa using hao)]
              simp [ints]
            simp [Tryz.f39, a39, reg39, loop39, draw39, dok39, at_lt, hia, hia2, hRa2, hmw, hwt, mgA, mgW, mwA, hwk, ho0, ho1, hao, app_at, app_set, hja, hJa2, hjw, hJw2, hiw, hqv, hqv2, hRv2, show i + 1 ≤ v.ws.length by omega, show a + 1 ≤ o.length by omega, hat, hat2, w3, hset, show ¬ (a : Int) = o.length by omega, endRound_J, hcl, all_set]
            refine hrec ⟨i + 1, o', J.set jw ⟨3, ints (o'.map (·.2))⟩, ja, jw⟩ _ _ ?_ ?_ ?_ ?_
            · simp; omega
            · refine ⟨by simp only; omega, by simp only; omega, ?_, ?_⟩
              · simp only
                rw [← hmg, hstep]
              · exact ⟨by simp [all_set, hcl], fun _ => by simp only; rw [hfst, List.getElem?_set_ne (Ne.symm hne)]; exact hJa, fun _ _ => by simp only; exact ⟨by simp [hjw], hne⟩, hps'⟩
            · simp [mgA, mgW, mwA, hwk, hil, w2, ho'0, ho0]
            · simp
        · have hnw := hnew hc0
          clear hsame
          have hil : o'.length = o.length + 1 := by rw [hnw]; simp; omega
          have hsnd : o'.map (·.2) = (o.map (·.2)).take a ++ wi :: (o.map (·.2)).drop a := by rw [hnw]; simp
          have hrow := cells_ins o a v.args[i] wi hpl
          simp only [Val.cells_eq, List.cons_append, List.nil_append] at hrow
          rw [← hnw] at hrow
          by_cases ho : o = []
          · have ha0 : a = 0 := by rw [ho] at hpl; simpa using hpl
            subst ha0
            rw [ho] at hrow
            simp at hrow
            have hoq : o' = [(v.args[i], wi)] := by rw [hnw, ho]; rfl
            cases hwk : wtd k
            · simp [hwk] at hwt
              simp [Tryz.f39, a39, reg39, loop39, draw39, dok39, at_lt, hia, hia2, hRa2, hmw, hwt, mgA, mgW, mwA, hwk, w2, endRound_J, hcl, app_at, app_set, at_lt, ho]
              refine hrec ⟨i + 1, o', J ++ [⟨28, Val.cellsL (o'.map (·.1))⟩], J.length, 0⟩ _ _ ?_ ?_ ?_ ?_
              · simp; omega
              · refine ⟨by simp only; omega, by simp only; omega, ?_, ?_⟩
                · simp only
                  rw [← hmg, hstep]
                · exact ⟨by simp [hcl], fun _ => by simp, fun _ h => absurd h (by simp [hwk]), hps'⟩
              · simp [mgA, mgW, mwA, hwk, hil, w2, ho'0, ho, hoq, Val.cellsL]
              · simp
            · simp [hwk] at hwt
              obtain ⟨hiw, hwe, hw1, hw2, hwp⟩ := hwi hwk
              obtain ⟨hqv, _, hRv2⟩ := hRv hwk
              have hqv2 : ∀ x, iv < m.rw.length + x := fun x => by omega
              have hat := ints_at hiw
              have w3 : IntKind.i64.wrap v.ws[i] = v.ws[i] := wrap_id _ (by have := sum_pos hwp; omega)
              have hld : True := trivial
              have hst : True := trivial
              simp [Tryz.f39, a39, reg39, loop39, draw39, dok39, at_lt, hia, hia2, hRa2, hmw, hwt, mgA, mgW, mwA, hwk, w2, endRound_J, hcl, app_at, app_set, at_lt, ho, hiw, hqv, hqv2, hRv2, show i + 1 ≤ v.ws.length by omega, hat, w3]
              refine hrec ⟨i + 1, o', J ++ [⟨28, Val.cellsL (o'.map (·.1))⟩, ⟨3, ints (o'.map (·.2))⟩], J.length, J.length + 1⟩ _ _ ?_ ?_ ?_ ?_
              · simp; omega
              · refine ⟨by simp only; omega, by simp only; omega, ?_, ?_⟩
                · simp only
                  rw [← hmg, hstep]
                · exact ⟨by simp [hcl], fun _ => by simp, fun _ _ => ⟨by simp, by simp⟩, hps'⟩
              · simp [mgA, mgW, mwA, hwk, hil, w2, ho'0, ho, hoq, Val.cellsL, hwe, ints]
              · simp
          have ho1 : 0 < o.length := List.length_pos_iff.2 ho
          by_cases ha0 : a = 0
          · subst ha0
            have hcl0 : c < 0 := by have := hpi (by omega); omega
            simp at hrow
            have ho0 : ¬ o = [] := fun h => by rw [h] at ho1; simp at ho1
            have hJa := hra ho1
            have hja : ja < J.length := (List.getElem?_eq_some_iff.1 hJa).1
            have hJa2 := (List.getElem?_eq_some_iff.1 hJa).2
            have hfl : (∀ x, x ∈ Val.cellsL (o.map (·.1)) → flat x = true) = True := eq_true fun x hx => List.all_eq_true.1 (Val.flat_cellsL _) x hx
            have hall : List.take (o.length * 3) (Val.cellsL (o.map (·.1))) = Val.cellsL (o.map (·.1)) := List.take_of_length_le (by simp)
            have hallw : List.take o.length (ints (o.map (·.2))) = ints (o.map (·.2)) := List.take_of_length_le (by simp)
            cases hwk : wtd k
            · simp [hwk] at hwt
              simp [Tryz.f39, a39, reg39, loop39, draw39, dok39, at_lt, hia, hia2, hRa2, hmw, hwt, mgA, mgW, mwA, hwk, w2, endRound_J, hcl, app_at, app_set, at_lt, hall, hfl, ho0, ho1, hja, hJa2, hcl0, hrow, show ¬ (0 : Int) = o.length by omega, show ¬ o.length = 0 by omega, show (1 + o.length) * 56 ≤ 70368744177664 by omega, show 1 + o.length ≤ 70368744177664 by omega, show 3 + o.length * 3 = (1 + o.length) * 3 by omega]
              refine hrec ⟨i + 1, o', J ++ [⟨28, Val.cellsL (o'.map (·.1))⟩], J.length, 0⟩ _ _ ?_ ?_ ?_ ?_
              · simp; omega
              · refine ⟨by simp only; omega, by simp only; omega, ?_, ?_⟩
                · simp only
                  rw [← hmg, hstep]
                · exact ⟨by simp [hcl], fun _ => by simp, fun _ h => absurd h (by simp [hwk]), hps'⟩
              · simp [mgA, mgW, mwA, hwk, hil, w2, ho'0, Nat.add_comm 1 o.length]
              · simp
            · simp [hwk] at hwt
              obtain ⟨hiw, hwe, hw1, hw2, hwp⟩ := hwi hwk
              obtain ⟨hqv, _, hRv2⟩ := hRv hwk
              have hqv2 : ∀ x, iv < m.rw.length + x := fun x => by omega
              have hat := ints_at hiw
              have w3 : IntKind.i64.wrap v.ws[i] = v.ws[i] := wrap_id _ (by have := sum_pos hwp; omega)
              obtain ⟨hJw, hne⟩ := hrw ho1 hwk
              have hjw : jw < J.length := (List.getElem?_eq_some_iff.1 hJw).1
              have hJw2 := (List.getElem?_eq_some_iff.1 hJw).2
              have hld : True := trivial
              have hdr : True := trivial
              have hst : A.int .i64 v.ws[i] :: ints (o.map (·.2)) = ints (o'.map (·.2)) := by rw [hsnd, hwe]; simp [ints]
              simp [Tryz.f39, a39, reg39, loop39, draw39, dok39, at_lt, hia, hia2, hRa2, hmw, hwt, mgA, mgW, mwA, hwk, w2, endRound_J, hcl, app_at, app_set, at_lt, hall, hfl, ho0, ho1, hja, hJa2, hcl0, hrow, show ¬ (0 : Int) = o.length by omega, show ¬ o.length = 0 by omega, show (1 + o.length) * 56 ≤ 70368744177664 by omega, show 1 + o.length ≤ 70368744177664 by omega, show 3 + o.length * 3 = (1 + o.length) * 3 by omega, eq_true (show o.length + 1 = 1 + o.length by omega), show (0 : Int) < 1 + o.length by omega, show 1 ≤ 1 + o.length by omega, show 1 ≤ o.length + 1 by omega, hallw, flat_mem_ints, hjw, hJw2, show (1 + o.length) * 8 ≤ 70368744177664 by omega, hiw, hqv, hqv2, hRv2, show i + 1 ≤ v.ws.length by omega, hat, w3, hld, hdr, hst]
              refine hrec ⟨i + 1, o', J ++ [⟨28, Val.cellsL (o'.map (·.1))⟩, ⟨3, ints (o'.map (·.2))⟩], J.length, J.length + 1⟩ _ _ ?_ ?_ ?_ ?_
              · simp; omega
              · refine ⟨by simp only; omega, by simp only; omega, ?_, ?_⟩
                · simp only
                  rw [← hmg, hstep]
                · exact ⟨by simp [hcl], fun _ => by simp, fun _ _ => ⟨by simp, by simp⟩, hps'⟩
              · simp [mgA, mgW, mwA, hwk, hil, w2, ho'0, Nat.add_comm 1 o.length]
              · simp
          by_cases hal : a = o.length
          · subst hal
            rw [List.take_of_length_le (by simp), List.drop_eq_nil_of_le (by simp)] at hrow
            have ho0 : ¬ o = [] := fun h => by rw [h] at ho1; simp at ho1
            have hJa := hra ho1
            have hja : ja < J.length := (List.getElem?_eq_some_iff.1 hJa).1
            have hJa2 := (List.getElem?_eq_some_iff.1 hJa).2
            have hfl : (∀ x, x ∈ Val.cellsL (o.map (·.1)) → flat x = true) = True := eq_true fun x hx => List.all_eq_true.1 (Val.flat_cellsL _) x hx
            have hall : List.take (o.length * 3) (Val.cellsL (o.map (·.1))) = Val.cellsL (o.map (·.1)) := List.take_of_length_le (by simp)
            have hallw : List.take o.length (ints (o.map (·.2))) = ints (o.map (·.2)) := List.take_of_length_le (by simp)
            cases hwk : wtd k
            · simp [hwk] at hwt
              simp [Tryz.f39, a39, reg39, loop39, draw39, dok39, at_lt, hia, hia2, hRa2, hmw, hwt, mgA, mgW, mwA, hwk, w2, endRound_J, hcl, app_at, app_set, at_lt, hil, hall, hfl, ho0, ho1, hja, hJa2, hrow, show ¬ (0 : Int) = o.length by omega, show o.length * 3 + 3 = (o.length + 1) * 3 by omega, show o.length * 56 ≤ 70368744177664 by omega, show o.length ≤ 70368744177664 by omega, show (o.length + 1) * 56 ≤ 70368744177664 by omega, show o.length + 1 ≤ 70368744177664 by omega]
              refine hrec ⟨i + 1, o', J ++ [⟨28, Val.cellsL (o'.map (·.1))⟩], J.length, 0⟩ _ _ ?_ ?_ ?_ ?_
              · simp; omega
              · refine ⟨by simp only; omega, by simp only; omega, ?_, ?_⟩
                · simp only
                  rw [← hmg, hstep]
                · exact ⟨by simp [hcl], fun _ => by simp, fun _ h => absurd h (by simp [hwk]), hps'⟩
              · simp [mgA, mgW, mwA, hwk, hil, w2, ho'0]
              · simp
            · simp [hwk] at hwt
              obtain ⟨hiw, hwe, hw1, hw2, hwp⟩ := hwi hwk
              obtain ⟨hqv, _, hRv2⟩ := hRv hwk
              have hqv2 : ∀ x, iv < m.rw.length + x := fun x => by omega
              have hat := ints_at hiw
              have w3 : IntKind.i64.wrap v.ws[i] = v.ws[i] := wrap_id _ (by have := sum_pos hwp; omega)
              obtain ⟨hJw, hne⟩ := hrw ho1 hwk
              have hjw : jw < J.length := (List.getElem?_eq_some_iff.1 hJw).1
              have hJw2 := (List.getElem?_eq_some_iff.1 hJw).2
              have hla : (ints (o.map (·.2))).length = o.length := by simp
              have hld : List.drop o.length (ints (o.map (·.2)) ++ [A.int .i64 0]) = [A.int .i64 0] := by have := List.drop_left (l₁ := ints (o.map (·.2))) (l₂ := [A.int .i64 0]); rwa [hla] at this
              have hdr : List.drop (o.length + 1) (ints (o.map (·.2)) ++ [A.int .i64 0]) = [] := List.drop_eq_nil_of_le (by simp)
              have hst : ints (o.map (·.2)) ++ [A.int .i64 v.ws[i]] = ints (o'.map (·.2)) := by
                rw [hsnd, hwe, List.take_of_length_le (show (o.map (·.2)).length ≤ o.length by simp), List.drop_eq_nil_of_le (show (o.map (·.2)).length ≤ o.length by simp)]
                simp [ints]
              simp [Tryz.f39, a39, reg39, loop39, draw39, dok39, at_lt, hia, hia2, hRa2, hmw, hwt, mgA, mgW, mwA, hwk, w2, endRound_J, hcl, app_at, app_set, at_lt, hil, hall, hfl, ho0, ho1, hja, hJa2, hrow, show ¬ (0 : Int) = o.length by omega, show o.length * 3 + 3 = (o.length + 1) * 3 by omega, show o.length * 56 ≤ 70368744177664 by omega, show o.length ≤ 70368744177664 by omega, show (o.length + 1) * 56 ≤ 70368744177664 by omega, show o.length + 1 ≤ 70368744177664 by omega, show (o.length : Int) < (o.length : Int) + 1 by omega, hallw, flat_mem_ints, hjw, hJw2, show o.length * 8 ≤ 70368744177664 by omega, show (o.length + 1) * 8 ≤ 70368744177664 by omega, hiw, hqv, hqv2, hRv2, show i + 1 ≤ v.ws.length by omega, hat, w3, hld, hdr, hst]
              refine hrec ⟨i + 1, o', J ++ [⟨28, Val.cellsL (o'.map (·.1))⟩, ⟨3, ints (o'.map (·.2))⟩], J.length, J.length + 1⟩ _ _ ?_ ?_ ?_ ?_
              · simp; omega
              · refine ⟨by simp only; omega, by simp only; omega, ?_, ?_⟩
                · simp only
                  rw [← hmg, hstep]
                · exact ⟨by simp [hcl], fun _ => by simp, fun _ _ => ⟨by simp, by simp⟩, hps'⟩
              · simp [mgA, mgW, mwA, hwk, hil, w2, ho'0]
              · simp
          · have hcl0 : c < 0 := by have := hpi (by omega); omega
            have ho0 : ¬ o = [] := fun h => by rw [h] at ho1; simp at ho1
            have hJa := hra ho1
            have hja : ja < J.length := (List.getElem?_eq_some_iff.1 hJa).1
            have hJa2 := (List.getElem?_eq_some_iff.1 hJa).2
            have hft : (∀ x, x ∈ List.take (a * 3) (Val.cellsL (o.map (·.1))) → flat x = true) = True := eq_true fun x hx => List.all_eq_true.1 (Val.flat_cellsL _) x (List.mem_of_mem_take hx)
            have hfd : (∀ x, x ∈ List.drop (a * 3) (Val.cellsL (o.map (·.1))) → flat x = true) = True := eq_true fun x hx => List.all_eq_true.1 (Val.flat_cellsL _) x (List.mem_of_mem_drop hx)
            have htd : List.take ((o.length - a) * 3) (List.drop (a * 3) (Val.cellsL (o.map (·.1)))) = List.drop (a * 3) (Val.cellsL (o.map (·.1))) := List.take_of_length_le (by simp; omega)
            cases hwk : wtd k
            · simp [hwk] at hwt
              simp [Tryz.f39, a39, reg39, loop39, draw39, dok39, at_lt, hia, hia2, hRa2, hmw, hwt, mgA, mgW, mwA, hwk, w2, endRound_J, hcl, app_at, app_set, at_lt, hft, hfd, htd, ho0, ho1, ha0, hal, hcl0, hja, hJa2, hpl, hrow, show ¬ (a : Int) = o.length by omega, show (a : Int) ≤ o.length by omega, show ¬ (0 : Int) = a by omega, show min (a * 3) (o.length * 3) = a * 3 by omega, show a * 3 ≤ o.length * 3 by omega, show a * 3 + (o.length - a) * 3 = o.length * 3 by omega, show ((o.length : Int) - a).toNat = o.length - a by omega, show a * 3 + 3 = (a + 1) * 3 by omega, show (a + 1) * 3 + (o.length - a) * 3 = (a + 1 + (o.length - a)) * 3 by omega, show o.length * 3 - a * 3 = (o.length - a) * 3 by omega, show a * 56 ≤ 70368744177664 by omega, show a ≤ 70368744177664 by omega, show (a + 1) * 56 ≤ 70368744177664 by omega, show a + 1 ≤ 70368744177664 by omega, show (a + 1 + (o.length - a)) * 56 ≤ 70368744177664 by omega, show a + 1 + (o.length - a) ≤ 70368744177664 by omega]
              refine hrec ⟨i + 1, o', J ++ [⟨28, Val.cellsL (o'.map (·.1))⟩], J.length, 0⟩ _ _ ?_ ?_ ?_ ?_
              · simp; omega
              · refine ⟨by simp only; omega, by simp only; omega, ?_, ?_⟩
                · simp only
                  rw [← hmg, hstep]
                · exact ⟨by simp [hcl], fun _ => by simp, fun _ h => absurd h (by simp [hwk]), hps'⟩
              · simp [mgA, mgW, mwA, hwk, hil, w2, ho'0, show a + 1 + (o.length - a) = o.length + 1 by omega]
              · simp
            · simp [hwk] at hwt
              obtain ⟨hiw, hwe, hw1, hw2, hwp⟩ := hwi hwk
              obtain ⟨hqv, _, hRv2⟩ := hRv hwk
              have hqv2 : ∀ x, iv < m.rw.length + x := fun x => by omega
              have hat := ints_at hiw
              have w3 : IntKind.i64.wrap v.ws[i] = v.ws[i] := wrap_id _ (by have := sum_pos hwp; omega)
              obtain ⟨hJw, hne⟩ := hrw ho1 hwk
              have hjw : jw < J.length := (List.getElem?_eq_some_iff.1 hJw).1
              have hJw2 := (List.getElem?_eq_some_iff.1 hJw).2
              have hwft : (∀ x, x ∈ List.take a (ints (o.map (·.2))) → flat x = true) = True := eq_true fun x hx => List.all_eq_true.1 (flat_ints _) x (List.mem_of_mem_take hx)
              have hwfd : (∀ x, x ∈ List.drop a (ints (o.map (·.2))) → flat x = true) = True := eq_true fun x hx => List.all_eq_true.1 (flat_ints _) x (List.mem_of_mem_drop hx)
              have hwtd : List.take (o.length - a) (List.drop a (ints (o.map (·.2)))) = List.drop a (ints (o.map (·.2))) := List.take_of_length_le (by simp)
              have hla : (List.take a (ints (o.map (·.2)))).length = a := by simp; omega
              have hld : List.drop a (List.take a (ints (o.map (·.2))) ++ A.int .i64 0 :: List.drop a (ints (o.map (·.2)))) = A.int .i64 0 :: List.drop a (ints (o.map (·.2))) := by have := List.drop_left (l₁ := List.take a (ints (o.map (·.2)))) (l₂ := A.int .i64 0 :: List.drop a (ints (o.map (·.2)))); rwa [hla] at this
              have hdr : List.drop (a + 1) (List.take a (ints (o.map (·.2))) ++ A.int .i64 0 :: List.drop a (ints (o.map (·.2)))) = List.drop a (ints (o.map (·.2))) := by rw [← List.drop_drop, hld]; rfl
              have hst : List.take a (ints (o.map (·.2))) ++ A.int .i64 v.ws[i] :: List.drop a (ints (o.map (·.2))) = ints (o'.map (·.2)) := by rw [hsnd, hwe]; simp [ints]
              simp [Tryz.f39, a39, reg39, loop39, draw39, dok39, at_lt, hia, hia2, hRa2, hmw, hwt, mgA, mgW, mwA, hwk, w2, endRound_J, hcl, app_at, app_set, at_lt, hft, hfd, htd, ho0, ho1, ha0, hal, hcl0, hja, hJa2, hpl, hrow, show ¬ (a : Int) = o.length by omega, show (a : Int) ≤ o.length by omega, show ¬ (0 : Int) = a by omega, show min (a * 3) (o.length * 3) = a * 3 by omega, show a * 3 ≤ o.length * 3 by omega, show a * 3 + (o.length - a) * 3 = o.length * 3 by omega, show ((o.length : Int) - a).toNat = o.length - a by omega, show a * 3 + 3 = (a + 1) * 3 by omega, show (a + 1) * 3 + (o.length - a) * 3 = (a + 1 + (o.length - a)) * 3 by omega, show o.length * 3 - a * 3 = (o.length - a) * 3 by omega, show a * 56 ≤ 70368744177664 by omega, show a ≤ 70368744177664 by omega, show (a + 1) * 56 ≤ 70368744177664 by omega, show a + 1 ≤ 70368744177664 by omega, show (a + 1 + (o.length - a)) * 56 ≤ 70368744177664 by omega, show a + 1 + (o.length - a) ≤ 70368744177664 by omega, show a + (o.length - a + 1) = a + 1 + (o.length - a) by omega, show a + 1 ≤ a + 1 + (o.length - a) by omega, show (a : Int) < (a : Int) + 1 + ((o.length - a : Nat) : Int) by omega, hjw, hJw2, hwft, hwfd, hwtd, show min a o.length = a by omega, show a * 8 ≤ 70368744177664 by omega, show (a + 1) * 8 ≤ 70368744177664 by omega, show (a + 1 + (o.length - a)) * 8 ≤ 70368744177664 by omega, show a + (o.length - a) = o.length by omega, hiw, hqv, hqv2, hRv2, show i + 1 ≤ v.ws.length by omega, hat, w3, hld, hdr, hst]
              refine hrec ⟨i + 1, o', J ++ [⟨28, Val.cellsL (o'.map (·.1))⟩, ⟨3, ints (o'.map (·.2))⟩], J.length, J.length + 1⟩ _ _ ?_ ?_ ?_ ?_
              · simp; omega
              · refine ⟨by simp only; omega, by simp only; omega, ?_, ?_⟩
                · simp only
                  rw [← hmg, hstep]
                · exact ⟨by simp [hcl], fun _ => by simp, fun _ _ => ⟨by simp, by simp⟩, hps'⟩
              · simp [mgA, mgW, mwA, hwk, hil, w2, ho'0, show a + 1 + (o.length - a) = o.length + 1 by omega]
              · simp
      · simp [Tryz.f39, a39, reg39, loop39, draw39, dok39, at_lt, hia, hia2, hRa2, hmw]
      · simp
      · intro x; simp [Tryz.f39, a39, reg39, loop39, draw39, dok39, at_lt, hia, hia2, hRa2, hmw]
      · clear hrec
        rintro ⟨a, c⟩ ⟨ha, hp⟩ hrec
        simp only at ha hp ⊢
        by_cases hao : a < o.length
        · have ho0 : ¬ o = [] := fun h => by rw [h] at hao; simp at hao
          have ho1 : 0 < o.length := by omega
          have hJa := hra ho1
          have hja : ja < J.length := (List.getElem?_eq_some_iff.1 hJa).1
          have hJa2 := (List.getElem?_eq_some_iff.1 hJa).2
          have hcw := mgW_closed (k := k) (n := m.rw.length) hrw
          rcases hp with ⟨rfl, hp⟩ | ⟨hc, hp⟩
          · have w3 : IntKind.i64.wrap (a + 1) = a + 1 := wrap_id _ (by omega)
            have he := ev_RCompare v.args[i].nodes v.args[i] (Nat.le_refl _) (by omega) (slimL_mem hs.2 (List.getElem_mem hlt)) o[a].1
            simp at he
            have hat := Val.at_cellsL (o.map (·.1)) a (by simpa using hao)
            simp at hat
            have h4 : a * 3 + 3 ≤ o.length * 3 := by omega
            have h5 : 3 ≤ o.length * 3 - a * 3 := by omega
            rw [posP_drop hao] at hp
            by_cases hc : 0 < cmpV v.args[i] o[a].1
            · have hc1 : cmpV v.args[i] o[a].1 = 1 := by have := cmpV_range v.args[i] o[a].1; omega
              rw [if_pos hc] at hp
              simp [hc1] at he
              simp [round, Tryz.f39, a39, reg39, loop39, draw39, dok39, at_lt, hia, hia2, hRa2, hmw, hao, ho0, ho1, mgA, hJa2, app_at, hat, h4, h5, w3, he, endRound_J, hcl, hja, hcw]
              refine hrec (a + 1, 1) _ _ ?_ ?_ ?_ ?_
              · simp; omega
              · refine ⟨by simp only; omega, .inl ⟨rfl, ?_⟩⟩
                rw [hp]
                simp only
                exact Prod.ext (by simp only; omega) rfl
              · simp [mgA, ho0]
              · simp [mgA, ho0]
            · rw [if_neg hc] at hp
              simp [round, Tryz.f39, a39, reg39, loop39, draw39, dok39, at_lt, hia, hia2, hRa2, hmw, hao, ho0, ho1, mgA, hJa2, app_at, hat, h4, h5, w3, he, hc, endRound_J, hcl, hja, hcw]
              refine hrec (a, cmpV v.args[i] o[a].1) _ _ ?_ ?_ ?_ ?_
              · simp [hc]
              · exact ⟨ha, .inr ⟨by simp only; omega, by rw [hp]; rfl⟩⟩
              · simp [mgA, ho0]
              · simp [mgA, ho0]
          · clear hrec
            simp [round, Tryz.f39, a39, reg39, loop39, draw39, dok39, at_lt, hia, hia2, hRa2, hmw, hao, ho0, ho1, mgA, hp, show ¬ 0 < c by omega]
        · have hae : a = o.length := by omega
          clear hrec
          have hpe : posP v.args[i] o = (a, c) := by
            rcases hp with ⟨rfl, hp⟩ | ⟨hc, hp⟩
            · rw [hp, List.drop_eq_nil_of_le (by omega), posP]
              rfl
            · exact hp
          subst hae
          by_cases ho : o.length = 0
          · simp [round, Tryz.f39, a39, reg39, loop39, draw39, dok39, at_lt, hia, hia2, hRa2, hmw, mgA, hpe, ho]
          · simp [round, Tryz.f39, a39, reg39, loop39, draw39, dok39, at_lt, hia, hia2, hRa2, hmw, mgA, hpe, ho]
    · clear hrec
      have hO : o = mergeP k v.args v.ws := by
        rw [← hmg, List.drop_eq_nil_of_le (by rw [List.length_zip]; omega)]
        rfl
      have hO7 : k = 7 → 0 < o.length := fun h => by
        rw [hO]
        refine List.length_pos_iff.2 (mergeF_ne _ _ (.inr ?_))
        intro h0
        have := congrArg List.length h0
        have h1 := h7 h
        have h2 := (hw (by rw [h]; rfl)).1
        have hz : wsOf k v.args v.ws = v.ws := by unfold wsOf; rw [h]; rfl
        rw [List.length_zip, hz, h2] at this
        simp at this
        rw [this] at h1
        simp at h1
      have hO2 : wtd k = true → ∀ w, w ∈ o.map (·.2) → 1 ≤ w ∧ w ≤ 1048576 := fun h w hmem => by
        obtain ⟨p, hp, rfl⟩ := List.mem_map.1 hmem
        refine ⟨hps h p hp, ?_⟩
        have h1 := mem_sum (hps h) hp
        have h2 : (o.map (·.2)).sum = v.ws.sum := by
          have hz : wsOf k v.args v.ws = v.ws := by unfold wsOf; rw [h, if_pos rfl]
          rw [hO]
          unfold mergeP
          rw [mergeF_sum, hz, zip_snd_map (hw h).1]
          simp
        have h3 := (hw h).2.2
        omega
      unfold mergeV
      rw [← hO]
      clear hmg hO
      by_cases h7' : k = 7
      · have hwk : wtd k = true := by rw [h7']; rfl
        have hn0 : 0 < o.length := hO7 h7'
        have ho0 : ¬ o = [] := fun h => by rw [h] at hn0; simp at hn0
        have hJa := hra hn0
        have hja : ja < J.length := (List.getElem?_eq_some_iff.1 hJa).1
        have hJa2 := (List.getElem?_eq_some_iff.1 hJa).2
        obtain ⟨hJw, hne⟩ := hrw hn0 hwk
        have hjw : jw < J.length := (List.getElem?_eq_some_iff.1 hJw).1
        have hJw2 := (List.getElem?_eq_some_iff.1 hJw).2
        have hall : List.take (o.length * 3) (Val.cellsL (o.map (·.1))) = Val.cellsL (o.map (·.1)) := List.take_of_length_le (by simp)
        have hps2 := hps hwk
        have hws : ∀ w, w ∈ o.map (·.2) → 1 ≤ w ∧ w ≤ 1048576 := hO2 hwk
        have hwp : ∀ w, w ∈ o.map (·.2) → 1 ≤ w := fun w h => (hws w h).1
        have hWl : (o.map (·.2)).length = o.length := by simp
        generalize o.map (·.2) = W at *
        have hgp : 0 < gcdN W := gcdN_pos (fun h => by rw [h] at hWl; simp at hWl; omega) hwp
        simp [round, Tryz.f39, a39, reg39, loop39, draw39, dok39, at_lt, hia, hia2, hRa2, hmw, hlt, h7', ho0, mgA, mgW, mwA, hwk, wtd]
        refine loop_in (fun x : Nat × Nat => ⟨[(4, .ptr (m.bx.length + 1) 0), (5, .ptr (m.bx.length + 2) 0), (10, .int .i64 x.2), (101, .sl (m.rw.length + jw) o.length 0 o.length), (102, .int .i64 o.length), (103, .int .i64 x.1)],
            ⟨m.bx ++ [[.int .i64 v.num, .sl ia (v.args.length * 3) 0 v.args.length, mwA k iv v], [.int .i64 0, .nils, .nils], [.int .i64 v.num, .sl (m.rw.length + ja) (o.length * 3) 0 o.length, .sl (m.rw.length + jw) o.length 0 o.length]], m.rw ++ J⟩⟩)
          (fun x => some (.ret (.agg (Val.mk v.num (o.map (·.1)) (divG W)).cells), m)) (fun x => o.length - x.1) (fun x => x.1 ≤ o.length ∧ gcdF x.2 (W.drop x.1) = gcdN W) (0, 0) ?_ ?_ ?_ ?_ ?_
        · simp [mwA, hwk]
        · simp
        · simp [gcdN]
        · intro x; simp [Tryz.f39, a39, reg39, loop39, draw39, dok39, at_lt, hia, hia2, hRa2, hmw]
        · rintro ⟨j, g⟩ ⟨hj, hg⟩ hrec
          simp only at hj hg
          by_cases hjt : j < o.length
          · have w2 : IntKind.i64.wrap (j + 1) = j + 1 := wrap_id _ (by omega)
            have hjt' : j < W.length := by omega
            have hat := ints_at hjt'
            rw [gcdF_drop hjt'] at hg
            have hx := hws W[j] (List.getElem_mem hjt')
            obtain ⟨n, hn⟩ : ∃ n : Nat, W[j] = n := ⟨W[j].toNat, by omega⟩
            rw [hn] at hat hg
            simp only [Int.natAbs_natCast] at hg
            have he := ev_rgcd g n
            simp [round, Tryz.f39, a39, reg39, loop39, draw39, dok39, at_lt, hia, hia2, hRa2, hmw, hjt, w2, app_at, hjw, hJw2, hWl, show j + 1 ≤ o.length by omega, hat, he, endRound_J, hcl, hja]
            refine hrec (j + 1, Nat.gcd g n) _ _ ?_ ?_ ?_ ?_
            · simp; omega
            · exact ⟨by simp only; omega, hg⟩
            · simp
            · simp
          · clear hrec
            have hje : j = o.length := by omega
            subst hje
            rw [List.drop_eq_nil_of_le (by omega)] at hg
            have hg' : g = gcdN W := hg
            subst hg'
            simp [round, Tryz.f39, a39, reg39, loop39, draw39, dok39, at_lt, hia, hia2, hRa2, hmw]
            refine loop_in (fun i : Nat => ⟨[(4, .ptr (m.bx.length + 1) 0), (5, .ptr (m.bx.length + 2) 0), (10, .int .i64 (gcdN W)), (113, .int .i64 o.length), (114, .int .i64 i)],
                ⟨m.bx ++ [[.int .i64 v.num, .sl ia (v.args.length * 3) 0 v.args.length, mwA k iv v], [.int .i64 0, .nils, .nils], [.int .i64 v.num, .sl (m.rw.length + ja) (o.length * 3) 0 o.length, .sl (m.rw.length + jw) o.length 0 o.length]], m.rw ++ J.set jw ⟨3, ints ((divG W).take i ++ W.drop i)⟩⟩⟩)
              (fun i => some (.ret (.agg (Val.mk v.num (o.map (·.1)) (divG W)).cells), m)) (fun i => o.length - i) (fun i => i ≤ o.length) 0 ?_ ?_ ?_ ?_ ?_
            · have hset0 : J.set jw ⟨3, ints W⟩ = J := by rw [← hJw2]; exact List.set_getElem_self hjw
              simp [hset0]
            · simp
            · omega
            · intro x; simp [Tryz.f39, a39, reg39, loop39, draw39, dok39, at_lt, hia, hia2, hRa2, hmw]
            · intro i hi hrec
              have hdl : (divG W).length = W.length := by unfold divG; simp
              have hne' : ¬ jw = ja := fun h => hne h.symm
              have hg0 : ¬ (gcdN W : Int) = 0 := by omega
              by_cases hit : i < o.length
              · have w2 : IntKind.i64.wrap (i + 1) = i + 1 := wrap_id _ (by omega)
                have hiW : i < W.length := by omega
                have hx := hws W[i] (List.getElem_mem hiW)
                have hq := tdiv_pos hx.1 hgp ((gcdF_dvd W 0).2 _ (List.getElem_mem hiW))
                have w3 : IntKind.i64.wrap (W[i].tdiv (gcdN W)) = W[i].tdiv (gcdN W) := wrap_id _ (by omega)
                have hDl : ((divG W).take i ++ W.drop i).length = o.length := by simp; omega
                have hat : ((ints ((divG W).take i ++ W.drop i)).drop i).take 1 = [.int .i64 W[i]] := by
                  have h1 := ints_at (ks := (divG W).take i ++ W.drop i) (i := i) (by omega)
                  rw [h1]
                  congr 2
                  rw [List.getElem_append_right (by simp; omega)]
                  simp [Nat.min_eq_left (show i ≤ (divG W).length by omega)]
                have hst : List.take i (ints ((divG W).take i ++ W.drop i)) ++ A.int .i64 (W[i].tdiv (gcdN W)) :: List.drop (i + 1) (ints ((divG W).take i ++ W.drop i)) = ints ((divG W).take (i + 1) ++ W.drop (i + 1)) := by
                  have h1 : (divG W)[i]'(by omega) = W[i].tdiv (gcdN W) := by unfold divG; simp
                  have h2 : ((divG W).take i).length = i := by simp; omega
                  unfold ints
                  rw [← List.map_take, ← List.map_drop, ← List.drop_drop]
                  have h3 : List.take i ((divG W).take i ++ W.drop i) = (divG W).take i := by rw [List.take_append_of_le_length (by omega), List.take_of_length_le (by omega)]
                  have h4 : List.drop i ((divG W).take i ++ W.drop i) = W.drop i := by rw [List.drop_append_of_le_length (by omega), List.drop_eq_nil_of_le (by omega)]; rfl
                  rw [h3, h4, List.drop_drop, List.take_succ_eq_append_getElem (by omega), h1]
                  simp
                generalize (divG W).take i ++ W.drop i = D at hDl hat hst ⊢
                simp [round, Tryz.f39, a39, reg39, loop39, draw39, dok39, at_lt, hia, hia2, hRa2, hmw, hit, w2, w3, app_at, app_set, hjw, hDl, hat, hst, show ¬ gcdN W = 0 by omega, show i + 1 ≤ o.length by omega, endRound_J, all_set, hcl, hja]
                refine hrec (i + 1) _ _ ?_ ?_ ?_ ?_
                · omega
                · omega
                · simp
                · simp
              · clear hrec
                have hie : i = o.length := by omega
                subst hie
                rw [List.take_of_length_le (by omega), List.drop_eq_nil_of_le (by omega), List.append_nil]
                have hdl2 : (divG W).length = o.length := by omega
                have htk : List.take o.length (ints (divG W)) = ints (divG W) := List.take_of_length_le (by simp; omega)
                simp [round, Tryz.f39, a39, reg39, loop39, draw39, dok39, at_lt, hia, hia2, hRa2, hmw, app_at, hjw, hja, hJa2, hne', hall, hdl2, htk]
      · by_cases ho : o.length = 0
        · have ho' : o = [] := List.eq_nil_of_length_eq_zero ho
          simp [round, Tryz.f39, a39, reg39, loop39, draw39, dok39, at_lt, hia, hia2, hRa2, hmw, hlt, h7', ho', mgA, mgW]
        · have ho1 : 0 < o.length := by omega
          have ho0 : ¬ o = [] := fun h => ho (by rw [h]; rfl)
          have hJa := hra ho1
          have hja : ja < J.length := (List.getElem?_eq_some_iff.1 hJa).1
          have hJa2 := (List.getElem?_eq_some_iff.1 hJa).2
          have hall : List.take (o.length * 3) (Val.cellsL (o.map (·.1))) = Val.cellsL (o.map (·.1)) := List.take_of_length_le (by simp)
          have hallw : List.take o.length (ints (o.map (·.2))) = ints (o.map (·.2)) := List.take_of_length_le (by simp)
          cases hwk : wtd k
          · simp [round, Tryz.f39, a39, reg39, loop39, draw39, dok39, at_lt, hia, hia2, hRa2, hmw, hlt, h7', ho0, mgA, mgW, mwA, hwk, app_at, hja, hJa2, hall]
          · have hJw := (hrw ho1 hwk).1
            have hjw : jw < J.length := (List.getElem?_eq_some_iff.1 hJw).1
            have hJw2 := (List.getElem?_eq_some_iff.1 hJw).2
            simp [round, Tryz.f39, a39, reg39, loop39, draw39, dok39, at_lt, hia, hia2, hRa2, hmw, hlt, h7', ho0, mgA, mgW, mwA, hwk, app_at, hja, hJa2, hjw, hJw2, hall, hallw]
theorem nodesL_ins (u : Val) (w : Int) : ∀ o : List (Val × Int), Val.nodesL ((insP u w o).map (·.1)) ≤ u.nodes + Val.nodesL (o.map (·.1)) ∧ (insP u w o).length ≤ o.length + 1
  | [] => by rw [insP]; simp [Val.nodesL]
  | p :: r => by
    rw [insP]
    have := nodesL_ins u w r
    split
    · simp [Val.nodesL] <;> omega
    · split
      · simp [Val.nodesL]
      · simp [Val.nodesL] <;> omega
theorem nodesL_merge : ∀ l o : List (Val × Int), Val.nodesL ((mergeF o l).map (·.1)) ≤ Val.nodesL (l.map (·.1)) + Val.nodesL (o.map (·.1)) ∧ (mergeF o l).length ≤ l.length + o.length
  | [], o => by simp [mergeF, Val.nodesL]
  | p :: r, o => by
    have h1 := nodesL_merge r (insP p.1 p.2 o)
    have h2 := nodesL_ins p.1 p.2 o
    rw [show mergeF o (p :: r) = mergeF (insP p.1 p.2 o) r from rfl]
    simp [Val.nodesL]
    omega
theorem slimL_of {l : List Val} (h : ∀ x, x ∈ l → slimV x) : slimL l := by
  induction l with
  | nil => rw [slimL]; trivial
  | cons a r ih => rw [slimL]; exact ⟨h a List.mem_cons_self, ih fun x hx => h x (List.mem_cons_of_mem _ hx)⟩
mutual
theorem norm_nodes (n : Int) : ∀ (v : Val) (f : Fun) (y : Val), slimV v → v.nodes ≤ 1000000000 → normV n v f = some y → y.nodes ≤ v.nodes ∧ slimV y
  | .mk k l w, f, y, hs, hb, h => by
    rw [slimV_eq] at hs
    rw [Val.nodes_eq] at hb
    rw [normV] at h
    split at h
    · rename_i hh
      simp only [Option.map_eq_some_iff] at h
      obtain ⟨xs, hx, rfl⟩ := h
      have hl := normL_length n _ _ _ _ hx
      have ho := normL_nodes n l (argF f k) 0 xs hs.2 (by simp only [Val.args_mk] at hb; omega) hx
      have hll := Val.length_nodesL l
      simp only [Val.args_mk] at hb
      split
      · unfold mergeV
        rw [Val.nodes_eq, Val.nodes_eq, slimV_eq]
        simp only [Val.args_mk, Val.ws_mk]
        have h1 := nodesL_merge (xs.zip (wsOf f.kind xs w)) []
        have h2 : Val.nodesL ((xs.zip (wsOf f.kind xs w)).map (·.1)) ≤ Val.nodesL xs := by
          have : ∀ (a : List Val) (b : List Int), Val.nodesL ((a.zip b).map (·.1)) ≤ Val.nodesL a := by
            intro a
            induction a with
            | nil => intro b; simp [Val.nodesL]
            | cons x r ih =>
              intro b
              cases b with
              | nil => simp [Val.nodesL]
              | cons y t => simp [Val.nodesL]; exact ih t
          exact this _ _
        have h3 : (xs.zip (wsOf f.kind xs w)).length ≤ xs.length := by rw [List.length_zip]; omega
        simp only [List.map_nil, List.length_nil, Val.nodesL] at h1
        unfold mergeP
        refine ⟨by omega, ?_, slimL_of fun x hx' => ?_⟩
        · split
          · unfold divG; simp; omega
          · split
            · simp; omega
            · simp
        · obtain ⟨p, hp, rfl⟩ := List.mem_map.1 hx'
          rcases mergeF_fst _ _ p hp with ⟨q, h4, h5⟩ | ⟨q, h4, _⟩
          · rw [h5]; exact slimL_mem ho.2 (zip_fst h4).1
          · cases h4
      · rw [Val.nodes_eq, Val.nodes_eq, slimV_eq]
        simp only [Val.args_mk, Val.ws_mk]
        exact ⟨by omega, hs.1, ho.2⟩
    · cases h
theorem normL_nodes (n : Int) : ∀ (l : List Val) (g : Nat → Fun) (i : Nat) (xs : List Val), slimL l → Val.nodesL l ≤ 1000000000 → normL n l g i = some xs → Val.nodesL xs ≤ Val.nodesL l ∧ slimL xs
  | [], g, i, xs, hs, hb, h => by rw [normL] at h; cases h; exact ⟨Nat.le_refl _, hs⟩
  | v :: r, g, i, xs, hs, hb, h => by
    rw [normL] at h
    rw [slimL] at hs
    rw [Val.nodesL] at hb
    simp only [Option.bind_eq_some_iff, Option.map_eq_some_iff] at h
    obtain ⟨x, h1, y, h2, rfl⟩ := h
    have a := norm_nodes n v (g i) x hs.1 (by omega) h1
    have b := normL_nodes n r g (i + 1) y hs.2 (by omega) h2
    rw [Val.nodesL, Val.nodesL, slimL]
    exact ⟨by omega, a.2, b.2⟩
end
theorem parts_at {f : Fun} {v : Val} (hf : shapedF f = true) (hp : partsB f v = true) : (partsL f v).length = v.args.length ∧ ∀ i (h : i < (partsL f v).length), (partsL f v)[i] = argF f v.num i := by
  unfold partsB at hp
  rw [Bool.and_eq_true, decide_eq_true_eq] at hp
  refine ⟨hp.1, fun i h => ?_⟩
  have hk := shaped_kind hf
  revert h
  unfold partsL argF
  by_cases h0 : f.kind = 0 ∨ f.kind = 1
  · rw [if_pos h0]; intro h; simp at h
  rw [if_neg h0]
  by_cases h2 : f.kind = 2
  · rw [if_pos h2, if_pos h2]
    intro h
    rw [List.getD_eq_getElem?_getD, List.getElem?_eq_getElem h]
    rfl
  rw [if_neg h2, if_neg h2]
  by_cases h3 : f.kind = 3
  · rw [if_pos h3, if_pos h3]
    by_cases hc : 0 ≤ v.num ∧ v.num ≤ 1
    · rw [if_pos hc]
      intro h
      have : i = 0 := by simpa using h
      subst this
      simp [h2, h3]
    · rw [if_neg hc]
      intro h
      simp at h
  rw [if_neg h3, if_neg h3]
  split <;> intro h <;> simp
theorem head_split {n : Int} {f : Fun} {v : Val} (hf : shapedF f = true) : headL n f v.num v.args.length v.ws = (partsB f v && numB f n v.num && wghB f.kind v.args.length v.ws) := by
  unfold headL numB wghB
  congr 2
  unfold partsB partsL
  have hk := shaped_kind hf
  have hfn := shaped_num hf
  rw [Bool.eq_iff_iff]
  rcases hk with ⟨hk, hl⟩ | ⟨hk, hl⟩ | ⟨hk, hl⟩ | ⟨hk, hl⟩ | ⟨hk, hl⟩ | ⟨hk, hl⟩ | ⟨hk, hl⟩ | ⟨hk, hl⟩
  · simp [hk]; exact ⟨fun h => by rw [h]; rfl, fun h => List.eq_nil_of_length_eq_zero h.symm⟩
  · simp [hk]; exact ⟨fun h => by rw [h]; rfl, fun h => List.eq_nil_of_length_eq_zero h.symm⟩
  · simp [hk]
  · by_cases hc : 0 ≤ v.num ∧ v.num ≤ 1
    · simp [hk, hc]; exact eq_comm
    · simp [hk, hc]
      intro h1 h2
      exact absurd ⟨h1, h2⟩ hc
  · simp [hk]; omega
  · simp [hk]
  · simp [hk]
  · simp [hk]
abbrev PRV := Option Val × List UInt8
def takeC (c : UInt8) (s : List UInt8) (k : List UInt8 → PRV) : PRV := if (isC c s).1 then k (isC c s).2 else (none, (isC c s).2)
def bindV (x : PRV) (k : Val → List UInt8 → PRV) : PRV := match x with
  | (some v, t) => k v t
  | (none, t) => (none, t)
def bindN (x : Option Int × List UInt8) (k : Int → List UInt8 → PRV) : PRV := match x with
  | (some v, t) => k v t
  | (none, t) => (none, t)
def listV (val : List UInt8 → PRV) (e : UInt8) (w : Bool) : Nat → List Val → List Int → List UInt8 → PRV
  | 0, _, _, s => (none, s)
  | n + 1, a, ws, s =>
    if (isC e s).1 then (some (.mk 0 a ws), (isC e s).2) else
      if a.length ≠ 0 ∧ (isC 44 (isC e s).2).1 = false then (none, (isC 44 (isC e s).2).2) else
        bindV (val (if a.length = 0 then (isC e s).2 else (isC 44 (isC e s).2).2)) fun x u =>
          if w then takeC 58 u fun t => bindN (pNum t) fun k v => listV val e w n (a ++ [x]) (ws ++ [k]) v
          else listV val e w n (a ++ [x]) ws u
def pV : Nat → Fun → List UInt8 → PRV
  | 0, _, s => (none, s)
  | N + 1, f, s =>
    if f.kind = 0 ∨ f.kind = 1 then bindN (pNum s) fun k t => (some (.mk k [] []), t)
    else if f.kind = 2 then takeC 40 s fun s => bindV (pV N (f.args.getD 0 fun0) s) fun x s => takeC 44 s fun s => bindV (pV N (f.args.getD 1 fun0) s) fun y s => takeC 41 s fun s => (some (.mk 0 [x, y] []), s)
    else if f.kind = 3 then (if (isC 108 s).1 then bindV (pV N (f.args.getD 0 fun0) (isC 108 s).2) fun x t => (some (.mk 0 [x] []), t) else takeC 114 (isC 108 s).2 fun s => bindV (pV N (f.args.getD 1 fun0) s) fun x t => (some (.mk 1 [x] []), t))
    else if f.kind = 4 then takeC 91 s fun s => bindV (listV (pV N (f.args.getD 0 fun0)) 93 false (s.length + 1) [] [] s) fun v t => if (v.args.length : Int) = f.num then (some v, t) else (none, t)
    else takeC 123 s fun s => listV (pV N (f.args.getD 0 fun0)) 125 (decide (6 ≤ f.kind)) (s.length + 1) [] [] s
theorem pNum_suffix (s : List UInt8) : (pNum s).2 <:+ s := by
  have h := dropC_suffix 32 s
  unfold pNum
  split
  · exact h
  · exact (List.drop_suffix _ _).trans h
theorem takeC_suffix {c : UInt8} {s : List UInt8} {k : List UInt8 → PRV} (hk : ∀ t, (k t).2 <:+ t) : (takeC c s k).2 <:+ s := by
  unfold takeC
  split
  · exact (hk _).trans (isC_suffix _ _)
  · exact isC_suffix _ _
theorem bindV_suffix {x : PRV} {s : List UInt8} {k : Val → List UInt8 → PRV} (hx : x.2 <:+ s) (hk : ∀ v t, (k v t).2 <:+ t) : (bindV x k).2 <:+ s := by
  obtain ⟨o, t⟩ := x
  cases o with
  | none => exact hx
  | some v => exact (hk v t).trans hx
theorem bindN_suffix {x : Option Int × List UInt8} {s : List UInt8} {k : Int → List UInt8 → PRV} (hx : x.2 <:+ s) (hk : ∀ v t, (k v t).2 <:+ t) : (bindN x k).2 <:+ s := by
  obtain ⟨o, t⟩ := x
  cases o with
  | none => exact hx
  | some v => exact (hk v t).trans hx
theorem listV_suffix {val : List UInt8 → PRV} (hv : ∀ s, (val s).2 <:+ s) (e : UInt8) (w : Bool) : ∀ (n : Nat) (a : List Val) (ws : List Int) (s : List UInt8), (listV val e w n a ws s).2 <:+ s
  | 0, a, ws, s => by rw [listV]; exact List.suffix_refl _
  | n + 1, a, ws, s => by
    rw [listV]
    have h1 := isC_suffix e s
    have h2 := isC_suffix 44 (isC e s).2
    split
    · exact h1
    split
    · exact h2.trans h1
    refine bindV_suffix (s := s) ((hv _).trans ?_) fun x u => ?_
    · split
      · exact h1
      · exact h2.trans h1
    split
    · exact takeC_suffix fun t => bindN_suffix (pNum_suffix t) fun k v => listV_suffix hv e w n _ _ v
    · exact listV_suffix hv e w n _ _ u
theorem pV_suffix : ∀ (N : Nat) (f : Fun) (s : List UInt8), (pV N f s).2 <:+ s
  | 0, f, s => by rw [pV]; exact List.suffix_refl _
  | N + 1, f, s => by
    have ih := pV_suffix N
    rw [pV]
    split
    · exact bindN_suffix (pNum_suffix s) fun _ _ => List.suffix_refl _
    split
    · exact takeC_suffix fun s => bindV_suffix (ih _ s) fun x s => takeC_suffix fun s => bindV_suffix (ih _ s) fun y s => takeC_suffix fun s => List.suffix_refl _
    split
    · split
      · exact bindV_suffix ((ih _ _).trans (isC_suffix _ _)) fun _ _ => List.suffix_refl _
      · exact (takeC_suffix fun s => bindV_suffix (ih _ s) fun _ _ => List.suffix_refl _).trans (isC_suffix _ _)
    split
    · refine takeC_suffix fun s => bindV_suffix (listV_suffix (ih _) _ _ _ _ _ s) fun v t => ?_
      split <;> exact List.suffix_refl _
    · exact takeC_suffix fun s => listV_suffix (ih _) _ _ _ _ _ s
def CostV (val : List UInt8 → PRV) : Prop := ∀ s v t, val s = (some v, t) → v.nodes + t.length ≤ s.length ∧ slimV v
theorem pNum_cost {s t : List UInt8} {k : Int} (h : pNum s = (some k, t)) : 1 + t.length ≤ s.length := by
  have hl := dropC_length 32 s
  unfold pNum at h
  split at h
  · cases h
  · rename_i h0
    simp only [Prod.mk.injEq] at h
    have hd := digN_le (dropC 32 s)
    rw [← h.2, List.length_drop]
    omega
theorem takeC_some {c : UInt8} {s : List UInt8} {k : List UInt8 → PRV} {v : Val} {t : List UInt8} (h : takeC c s k = (some v, t)) : (isC c s).1 = true ∧ (isC c s).2.length < s.length ∧ k (isC c s).2 = (some v, t) := by
  unfold takeC at h
  split at h
  · rename_i hc
    exact ⟨hc, isC_true hc, h⟩
  · cases h
theorem bindV_some {x : PRV} {k : Val → List UInt8 → PRV} {v : Val} {t : List UInt8} (h : bindV x k = (some v, t)) : ∃ y u, x = (some y, u) ∧ k y u = (some v, t) := by
  obtain ⟨o, u⟩ := x
  cases o with
  | none => cases h
  | some y => exact ⟨y, u, rfl, h⟩
theorem bindN_some {x : Option Int × List UInt8} {k : Int → List UInt8 → PRV} {v : Val} {t : List UInt8} (h : bindN x k = (some v, t)) : ∃ y u, x = (some y, u) ∧ k y u = (some v, t) := by
  obtain ⟨o, u⟩ := x
  cases o with
  | none => cases h
  | some y => exact ⟨y, u, rfl, h⟩
theorem nodesL_append : ∀ a b : List Val, Val.nodesL (a ++ b) = Val.nodesL a + Val.nodesL b
  | [], b => by simp [Val.nodesL]
  | x :: r, b => by rw [List.cons_append, Val.nodesL, Val.nodesL, nodesL_append r b]; omega
theorem slimL_append {a b : List Val} (ha : slimL a) (hb : slimL b) : slimL (a ++ b) := slimL_of fun x hx => by
  rcases List.mem_append.1 hx with h | h
  · exact slimL_mem ha h
  · exact slimL_mem hb h
theorem listV_cost {val : List UInt8 → PRV} (hv : CostV val) (e : UInt8) (w : Bool) : ∀ (n : Nat) (a : List Val) (ws : List Int) (s : List UInt8) (v : Val) (t : List UInt8), listV val e w n a ws s = (some v, t) → slimL a → ws.length + s.length ≤ 1000000000 → v.nodes + t.length + 1 ≤ 1 + Val.nodesL a + s.length ∧ slimV v ∧ v.num = 0 ∧ a.length ≤ v.args.length
  | 0, a, ws, s, v, t, h, _, _ => by rw [listV] at h; cases h
  | n + 1, a, ws, s, v, t, h, ha, hw => by
    rw [listV] at h
    split at h
    · rename_i hc
      simp only [Prod.mk.injEq, Option.some.injEq] at h
      obtain ⟨rfl, rfl⟩ := h
      have := isC_true hc
      rw [Val.nodes_eq, slimV_eq]
      simp only [Val.args_mk, Val.ws_mk, Val.num_mk]
      exact ⟨by omega, ⟨by omega, ha⟩, trivial, Nat.le_refl _⟩
    split at h
    · cases h
    obtain ⟨x, u, h1, h2⟩ := bindV_some h
    have hx := hv _ _ _ h1
    have hle : (if a.length = 0 then (isC e s).2 else (isC 44 (isC e s).2).2).length ≤ s.length := by
      have h1 := (isC_suffix e s).length_le
      have h2 := (isC_suffix 44 (isC e s).2).length_le
      split <;> omega
    have hpos := x.nodes_pos
    have hn := nodesL_append a [x]
    have hs := slimL_append (b := [x]) ha (by rw [slimL, slimL]; exact ⟨hx.2, trivial⟩)
    simp only [Val.nodesL] at hn
    split at h2
    · obtain ⟨_, h4, h5⟩ := takeC_some h2
      obtain ⟨k, q, h6, h7⟩ := bindN_some h5
      have h8 := pNum_cost h6
      obtain ⟨r1, r2, r3, r4⟩ := listV_cost hv e w n _ _ _ _ _ h7 hs (by simp; omega)
      simp at r4
      exact ⟨by omega, r2, r3, by omega⟩
    · obtain ⟨r1, r2, r3, r4⟩ := listV_cost hv e w n _ _ _ _ _ h2 hs (by omega)
      simp at r4
      exact ⟨by omega, r2, r3, by omega⟩
theorem pV_cost : ∀ (N : Nat) (f : Fun) (s : List UInt8), s.length ≤ 1000000 → ∀ v t, pV N f s = (some v, t) → v.nodes + t.length ≤ s.length ∧ slimV v
  | 0, f, s, _, v, t, h => by rw [pV] at h; cases h
  | N + 1, f, s, hs, v, t, h => by
    have ih := pV_cost N
    have leaf : ∀ k : Int, (Val.mk k [] []).nodes = 1 ∧ slimV (.mk k [] []) := fun k => by rw [Val.nodes_eq, slimV_eq]; simp [Val.nodesL, slimL]
    rw [pV] at h
    split at h
    · obtain ⟨k, u, h1, h2⟩ := bindN_some h
      have := pNum_cost h1
      simp only [Prod.mk.injEq, Option.some.injEq] at h2
      obtain ⟨rfl, rfl⟩ := h2
      have := leaf k
      exact ⟨by omega, this.2⟩
    split at h
    · obtain ⟨_, h1, h2⟩ := takeC_some h
      obtain ⟨x, u, h3, h4⟩ := bindV_some h2
      obtain ⟨_, h5, h6⟩ := takeC_some h4
      obtain ⟨y, q, h7, h8⟩ := bindV_some h6
      obtain ⟨_, h9, h10⟩ := takeC_some h8
      simp only [Prod.mk.injEq, Option.some.injEq] at h10
      obtain ⟨rfl, rfl⟩ := h10
      have a := ih _ _ (by omega) _ _ h3
      have b := ih _ _ (by omega) _ _ h7
      rw [Val.nodes_eq, slimV_eq]
      simp only [Val.args_mk, Val.ws_mk, Val.nodesL, slimL, List.length_nil]
      exact ⟨by omega, by omega, a.2, b.2, trivial⟩
    split at h
    · split at h
      · rename_i hc
        have hl := isC_true hc
        obtain ⟨x, u, h3, h4⟩ := bindV_some h
        simp only [Prod.mk.injEq, Option.some.injEq] at h4
        obtain ⟨rfl, rfl⟩ := h4
        have a := ih _ _ (by omega) _ _ h3
        rw [Val.nodes_eq, slimV_eq]
        simp only [Val.args_mk, Val.ws_mk, Val.nodesL, slimL, List.length_nil]
        exact ⟨by omega, by omega, a.2, trivial⟩
      · have hl := (isC_suffix 108 s).length_le
        obtain ⟨_, h1, h2⟩ := takeC_some h
        obtain ⟨x, u, h3, h4⟩ := bindV_some h2
        simp only [Prod.mk.injEq, Option.some.injEq] at h4
        obtain ⟨rfl, rfl⟩ := h4
        have a := ih _ _ (by omega) _ _ h3
        rw [Val.nodes_eq, slimV_eq]
        simp only [Val.args_mk, Val.ws_mk, Val.nodesL, slimL, List.length_nil]
        exact ⟨by omega, by omega, a.2, trivial⟩
    have hsub : ∀ s' : List UInt8, s'.length ≤ s.length → CostV fun q => if q.length ≤ s'.length then pV N (f.args.getD 0 fun0) q else (none, q) := fun s' hs' q v t hq => by
      simp only at hq
      split at hq
      · exact ih _ _ (by omega) _ _ hq
      · cases hq
    have hlist : ∀ (e : UInt8) (w : Bool) (s' : List UInt8) (v : Val) (t : List UInt8), s'.length < s.length → listV (pV N (f.args.getD 0 fun0)) e w (s'.length + 1) [] [] s' = (some v, t) → v.nodes + t.length ≤ s.length ∧ slimV v := fun e w s' v t hl hq => by
      have key : ∀ (n : Nat) (a : List Val) (ws : List Int) (q : List UInt8), q.length ≤ s'.length → listV (pV N (f.args.getD 0 fun0)) e w n a ws q = listV (fun q => if q.length ≤ s'.length then pV N (f.args.getD 0 fun0) q else (none, q)) e w n a ws q := by
        intro n
        induction n with
        | zero => intro a ws q _; rw [listV, listV]
        | succ n ihn =>
          intro a ws q hq
          have h1 := (isC_suffix e q).length_le
          have h2 := (isC_suffix 44 (isC e q).2).length_le
          rw [listV, listV]
          have hle : (if a.length = 0 then (isC e q).2 else (isC 44 (isC e q).2).2).length ≤ s'.length := by split <;> omega
          rw [if_pos hle]
          have hsuf := pV_suffix N (f.args.getD 0 fun0) (if a.length = 0 then (isC e q).2 else (isC 44 (isC e q).2).2)
          generalize pV N (f.args.getD 0 fun0) (if a.length = 0 then (isC e q).2 else (isC 44 (isC e q).2).2) = x at hsuf ⊢
          obtain ⟨o, u⟩ := x
          have hu := hsuf.length_le
          simp only at hu
          cases o with
          | none => rfl
          | some y =>
            simp only [bindV]
            cases w with
            | false => simp only [Bool.false_eq_true, if_false]; rw [ihn _ _ u (by omega)]
            | true =>
              simp only [if_true, takeC]
              have h3 := (isC_suffix 58 u).length_le
              have h4 := (pNum_suffix (isC 58 u).2).length_le
              generalize pNum (isC 58 u).2 = z at h4
              obtain ⟨o2, r⟩ := z
              simp only at h4
              cases o2 with
              | none => rfl
              | some k => simp only [bindN]; rw [ihn _ _ r (by omega)]
      rw [key _ _ _ _ (Nat.le_refl _)] at hq
      obtain ⟨r1, r2, _⟩ := listV_cost (hsub s' (by omega)) e w _ _ _ _ _ _ hq (by rw [slimL]; trivial) (by simp; omega)
      simp only [Val.nodesL] at r1
      exact ⟨by omega, r2⟩
    split at h
    · obtain ⟨_, h1, h2⟩ := takeC_some h
      obtain ⟨x, u, h3, h4⟩ := bindV_some h2
      split at h4
      · simp only [Prod.mk.injEq, Option.some.injEq] at h4
        obtain ⟨rfl, rfl⟩ := h4
        exact hlist _ _ _ _ _ h1 h3
      · cases h4
    · obtain ⟨_, h1, h2⟩ := takeC_some h
      exact hlist _ _ _ _ _ h1 h2
def zeroV : Val := .mk 0 [] []
def normD (n : Int) (v : Val) (f : Fun) : Val := (normV n v f).getD zeroV
theorem ev_Merged0 (k a : Int) (h5 : k = 5 ∨ k = 6) (m : Mem) : evCall C0 39 [.int .i64 k, .agg [.int .i64 a, .nils, .nils]] m = some (.ret (.agg (Val.mk a [] []).cells), m) := by
  rw [evCall_body C0 (C0_ext _ (by decide)) (by rw [C0_P]; exact Tryz.func39) rfl (by rw [C0_ann]; rfl) (by decide) (by simp [Tryz.f39])]
  simp [Tryz.f39, a39, reg39, loop39, draw39, dok39]
  rw [evCode_loop]
  rcases h5 with h5 | h5
  · simp [round, Tryz.f39, a39, reg39, loop39, draw39, dok39, h5]
  · simp [round, Tryz.f39, a39, reg39, loop39, draw39, dok39, h5]
def wR (w : List Int) : List Row := if w.length = 0 then [] else [⟨3, ints w⟩]
def wA (n : Nat) (w : List Int) : A := if w.length = 0 then .nils else .sl n w.length 0 w.length
def xR (xs : List Val) : List Row := if xs.length = 0 then [] else [⟨28, Val.cellsL xs⟩]
def xA (n : Nat) (xs : List Val) : A := if xs.length = 0 then .nils else .sl n (xs.length * 3) 0 xs.length
theorem wxR_closed (w : List Int) (xs : List Val) : (wR w ++ xR xs).all (fun r => r.cs.all (closed 0 0)) = true := by
  unfold wR xR
  split <;> split <;> simp
theorem wA_closed (n : Nat) (w : List Int) (xs : List Val) (nb : Nat) : closed nb (n + (wR w ++ xR xs).length) (wA n w) = true := by
  unfold wA wR
  split
  · simp
  · simp
theorem wA_closed2 (n : Nat) (w : List Int) (nb x : Nat) : closed nb (n + ((wR w).length + x)) (wA n w) = true := by
  unfold wA wR
  split
  · simp
  · simp
    omega
theorem wR_closed (w : List Int) : (wR w).all (fun r => r.cs.all (closed 0 0)) = true := by
  unfold wR
  split <;> simp
def NormAt (n : Int) (v : Val) : Prop := ∀ (f : Fun), shapedF f = true → ∀ (m : Mem), evCall C0 57 [.agg f.cells, .int .i64 n, .agg v.cells] m = some (.ret (.tup [.agg (normD n v f).cells, .bool (normV n v f).isSome]), m)
set_option maxHeartbeats 8000000 in
theorem ev_normal1 (n : Int) (hn0 : 0 ≤ n) (hn1 : n ≤ 1000000) (v : Val) (hb : v.nodes ≤ 1000000) (hs : slimV v) (H : ∀ u, u ∈ v.args → NormAt n u) : NormAt n v := by
  intro f hf m
  have hs' := hs
  rw [slimV_eq] at hs'
  have hlen := v.length_args
  have hfn := shaped_num hf
  have hp := ev_Parts f v hf (by omega)
  have hnm := ev_rnumber f n v (by omega) (by omega) (by omega)
  have hwg := ev_rweighed f.kind v (by omega) hs'.1
  have hst := ev_Sets f.kind
  have hsp := head_split (n := n) (v := v) hf
  unfold normD
  rw [normV_eq]
  simp at hp hnm hwg
  rw [evCall_body C0 (C0_ext _ (by decide)) (by rw [C0_P]; exact Tryz.func57) rfl (by rw [C0_ann]; rfl) (by decide) (by simp [Tryz.f57])]
  cases hpb : partsB f v
  case false =>
    rw [hpb, Bool.false_and, Bool.false_and] at hsp
    rw [hsp]
    simp [hpb] at hp
    simp [Tryz.f57, a57, reg57, loop57, draw57, dok57, hp, zeroV]
  cases hnb : numB f n v.num
  case false =>
    rw [hpb, hnb, Bool.true_and, Bool.false_and] at hsp
    rw [hsp]
    simp [hpb] at hp
    simp [hnb] at hnm
    simp [Tryz.f57, a57, reg57, loop57, draw57, dok57, hp, hnm, zeroV]
  cases hwb : wghB f.kind v.args.length v.ws
  case false =>
    rw [hpb, hnb, hwb] at hsp
    rw [hsp]
    simp [hpb] at hp
    simp [hnb] at hnm
    simp [hwb] at hwg
    simp [Tryz.f57, a57, reg57, loop57, draw57, dok57, hp, hnm, hwg, zeroV]
  rw [hpb, hnb, hwb] at hsp
  rw [hsp, if_pos (show (true && true && true) = true from rfl)]
  simp [hpb] at hp
  simp [hnb] at hnm
  simp [hwb] at hwg
  obtain ⟨hPl, hPa⟩ := parts_at hf hpb
  generalize partsL f v = P at hp hPl hPa
  have hwz : v.ws.length * 8 ≤ 70368744177664 := by omega
  have hwy : v.ws.length ≤ 70368744177664 := by omega
  by_cases hw0 : v.ws.length = 0
  case' pos =>
    simp [hw0] at hp hnm hwg
    simp [Tryz.f57, a57, reg57, loop57, draw57, dok57, hp, hnm, hwg, hw0]
  case' neg => simp [Tryz.f57, a57, reg57, loop57, draw57, dok57, hp, hnm, hwg, hw0, show ¬ v.ws = [] from fun h => hw0 (by rw [h]; rfl), hwz, hwy, flat_mem_ints]
  all_goals
    refine loop_in (fun x : Nat × List Val => ⟨[(1, .int .i64 n), (3, .ptr m.bx.length 0), (6, .ptr (m.bx.length + 2) 0), (8, .isl false P.length (Fun.cellsL P)), (10, .ptr (m.bx.length + 3) 0), (45, .isl false v.args.length (Val.cellsL v.args)), (46, .int .i64 v.args.length), (47, .int .i64 x.1)],
        ⟨m.bx ++ [f.cells, v.cells, [.int .i64 0, .nils, .nils], [.int .i64 v.num, xA (m.rw.length + (wR v.ws).length) x.2, wA m.rw.length v.ws]], m.rw ++ (wR v.ws ++ xR x.2)⟩⟩)
      (fun x => some (.ret (.tup [.agg (((normL n v.args (argF f v.num) 0).map fun xs => if setsK f.kind = true then mergeV f.kind v.num xs v.ws else .mk v.num xs v.ws).getD zeroV).cells, .bool ((normL n v.args (argF f v.num) 0).map fun xs => if setsK f.kind = true then mergeV f.kind v.num xs v.ws else .mk v.num xs v.ws).isSome]), m)) (fun x => v.args.length - x.1)
      (fun x => x.1 ≤ v.args.length ∧ x.2.length = x.1 ∧ normL n v.args (argF f v.num) 0 = (normL n (v.args.drop x.1) (argF f v.num) x.1).map (x.2 ++ ·)) (0, []) ?_ ?_ ?_ ?_ ?_
    · simp [xA, wA, wR, xR, hw0]
    · simp
    · simp
    · intro x; simp [Tryz.f57, a57, reg57, loop57, draw57, dok57]
    · rintro ⟨i, xs⟩ ⟨hi, hxl, hnl⟩ hrec
      simp only at hi hxl hnl ⊢
      have hcl := wxR_closed v.ws xs
      have hwc := wA_closed m.rw.length v.ws xs
      by_cases hlt : i < v.args.length
      · have w2 : IntKind.i64.wrap (i + 1) = i + 1 := wrap_id _ (by omega)
        have h3 : (i + 1) * 3 ≤ v.args.length * 3 := by omega
        have hiP : i < P.length := by omega
        have hgi := hPa i hiP
        have hk01 : ¬ f.kind = 0 ∧ ¬ f.kind = 1 := by
          refine ⟨fun h => ?_, fun h => ?_⟩
          · have := (head_num hsp).2.2 (.inl h); omega
          · have := (head_num hsp).2.2 (.inr h); omega
        have hgs := argF_shaped hf hk01.1 hk01.2 hsp i hlt
        rw [Nat.zero_add] at hgs
        have he := H v.args[i] (List.getElem_mem hlt) (argF f v.num i) hgs
        rw [normL_drop hlt] at hnl
        unfold normD at he
        cases hc : normV n v.args[i] (argF f v.num i) with
        | none =>
          clear hrec
          rw [hc] at hnl he
          rw [hnl]
          simp [zeroV] at he
          simp [round, Tryz.f57, a57, reg57, loop57, draw57, dok57, hlt, w2, h3, hiP, show (i + 1) * 3 ≤ P.length * 3 by omega, hgi, he, zeroV]
        | some y =>
          rw [hc] at hnl he
          simp at he
          have hwc2 : ∀ nb x, closed nb (m.rw.length + ((wR v.ws).length + x)) (wA m.rw.length v.ws) = true := fun nb x => wA_closed2 _ _ _ _
          have hwR := wR_closed v.ws
          have hin : normL n v.args (argF f v.num) 0 = (normL n (v.args.drop (i + 1)) (argF f v.num) (i + 1)).map ((xs ++ [y]) ++ ·) := by
            rw [hnl]
            simp only [Option.bind_some, Option.map_map]
            congr 1
            funext z
            simp
          cases xs with
          | nil =>
            have hi0 : i = 0 := by simpa using hxl.symm
            subst hi0
            have b3 := Val.at_cellsL v.args 0 hlt
            have b1 := Fun.at_cellsL P 0 hiP
            rw [hgi] at b1
            simp at b1 b3
            simp [round, Tryz.f57, a57, reg57, loop57, draw57, dok57, hlt, w2, h3, hiP, show 3 ≤ P.length * 3 by omega, show 3 ≤ v.args.length * 3 by omega, hgi, b1, b3, he, xA, xR, app_at, app_set, endRound_J, hwR, hwc2]
            refine hrec (1, [y]) _ _ ?_ ?_ ?_ ?_
            · simp; omega
            · exact ⟨by simp only; omega, rfl, by rw [hin]; rfl⟩
            · simp [xA, xR, Val.cellsL]
            · simp
          | cons a r =>
            have hr : r.length + 1 = i := by simpa using hxl
            simp [round, Tryz.f57, a57, reg57, loop57, draw57, dok57, hlt, w2, h3, hiP, show (i + 1) * 3 ≤ P.length * 3 by omega, hgi, he, xA, xR, app_at, app_set, endRound_J, hwR, hwc2, show (r.length + 1 + 1) * 56 ≤ 70368744177664 by omega, show r.length + 1 + 1 ≤ 70368744177664 by omega]
            refine hrec (i + 1, a :: r ++ [y]) _ _ ?_ ?_ ?_ ?_
            · simp; omega
            · exact ⟨by simp only; omega, by simp; omega, by rw [hin]⟩
            · simp [xA, xR, Val.cellsL, Val.cellsL_append]
            · simp
      · clear hrec
        have hie : i = v.args.length := by omega
        subst hie
        rw [List.drop_eq_nil_of_le (Nat.le_refl _), normL, Option.map_some, List.append_nil] at hnl
        rw [hnl]
        have hnum := head_num hsp
        cases hset : setsK f.kind
        · have hwt : wtd f.kind = false := by
            cases h : wtd f.kind
            · rfl
            · unfold setsK at hset
              rw [h, Bool.or_true] at hset
              cases hset
          have hwe := hnum.2.1 hwt
          rw [hset] at hst
          by_cases hx0 : xs.length = 0
          · have hx1 : v.args.length = 0 := by omega
            have hxe : xs = [] := List.eq_nil_of_length_eq_zero hx0
            subst hxe
            simp [round, Tryz.f57, a57, reg57, loop57, draw57, dok57, hst, xA, wA, xR, wR, hwe, hx1]
          · have hx1 : ¬ v.args.length = 0 := by omega
            have hall : List.take (xs.length * 3) (Val.cellsL xs) = Val.cellsL xs := List.take_of_length_le (by simp)
            simp [round, Tryz.f57, a57, reg57, loop57, draw57, dok57, hst, xA, wA, xR, wR, hwe, hx0, hx1, hxl, hall]
            rw [← hxl]
            exact hall
        · rw [hset] at hst
          have hss := (head_sets hset).1 hsp
          have hnn := normL_nodes n v.args _ 0 xs hs'.2 (by have := Val.nodes_eq v; omega) hnl
          have hvn := Val.nodes_eq v
          have hwk3 : wtd f.kind = true → v.ws.length = xs.length ∧ (∀ w, w ∈ v.ws → 1 ≤ w) ∧ v.ws.sum ≤ 1048576 := fun h => by
            rw [if_pos h] at hss
            have h2 := (weighI_iff v.ws 0 (by omega)).1 hss.2.1
            exact ⟨by omega, h2.1, by omega⟩
          have hk7 : f.kind = 7 → 0 < xs.length := fun h => by
            have hw7 : wtd f.kind = true := by rw [h]; rfl
            rw [if_pos hw7] at hss
            have := hss.2.2.2
            omega
          by_cases hx0 : xs.length = 0
          · have hx1 : v.args.length = 0 := by omega
            have hxe : xs = [] := List.eq_nil_of_length_eq_zero hx0
            subst hxe
            have hwe : v.ws = [] := by
              cases h : wtd f.kind
              · exact hnum.2.1 h
              · exact List.eq_nil_of_length_eq_zero (by rw [(hwk3 h).1]; rfl)
            have hk56 : f.kind = 5 ∨ f.kind = 6 := by
              rcases setsK_kind hset with h | h | h
              · exact .inl h
              · exact .inr h
              · have := hk7 h; simp at this
            have he0 := ev_Merged0 f.kind v.num hk56
            simp at he0
            have hmv : mergeV f.kind v.num [] v.ws = .mk v.num [] [] := by
              unfold mergeV mergeP
              rw [hwe]
              rcases hk56 with h | h <;> rw [h] <;> rfl
            simp [hmv]
            simp [round, Tryz.f57, a57, reg57, loop57, draw57, dok57, hst, xA, wA, xR, wR, hwe, hx1, he0]
          · have hx1 : 0 < xs.length := by omega
            have hmw : mwA f.kind m.rw.length (.mk v.num xs v.ws) = wA m.rw.length v.ws := by
              unfold mwA wA
              cases h : wtd f.kind
              · rw [hnum.2.1 h]; simp
              · have := (hwk3 h).1
                rw [if_neg (by simp), if_neg (by omega)]
                rfl
            have he := ev_MergedR f.kind (.mk v.num xs v.ws) (m.rw.length + (wR v.ws).length) m.rw.length hset (by rw [Val.nodes_eq, Val.args_mk]; omega) (by rw [slimV_eq]; exact ⟨hs'.1, hnn.2⟩) hwk3 hk7
              ⟨m.bx ++ [f.cells, v.cells, [.int .i64 0, .nils, .nils], [.int .i64 v.num, xA (m.rw.length + (wR v.ws).length) xs, wA m.rw.length v.ws]], m.rw ++ (wR v.ws ++ xR xs)⟩
              (by simp [app_at, xR, show ¬ xs = [] from fun h => hx0 (by rw [h]; rfl)])
              (fun h => by
                have h1 : ¬ v.ws.length = 0 := by rw [(hwk3 h).1]; omega
                have := app_at m.rw (wR v.ws ++ xR xs) 0
                rw [Nat.add_zero] at this
                simp only [this]
                unfold wR
                rw [if_neg h1]
                rfl)
            rw [hmw] at he
            have hxx : xA (m.rw.length + (wR v.ws).length) xs = .sl (m.rw.length + (wR v.ws).length) (xs.length * 3) 0 xs.length := by unfold xA; rw [if_neg hx0]
            simp [hxx, hxl] at he
            simp [round, Tryz.f57, a57, reg57, loop57, draw57, dok57, hst, hxx, he, hxl]
theorem ev_normal (n : Int) (hn0 : 0 ≤ n) (hn1 : n ≤ 1000000) (N : Nat) : ∀ (v : Val), v.nodes ≤ N → v.nodes ≤ 1000000 → slimV v → NormAt n v := by
  induction N with
  | zero => intro v hN; have := v.nodes_pos; omega
  | succ N ih =>
  intro v hN hb hs
  have hs' := (slimV_eq v ▸ hs).2
  exact ev_normal1 n hn0 hn1 v hb hs fun u hu => ih u (by have := Val.nodes_arg hu; omega) (by have := Val.nodes_arg hu; omega) (slimL_mem hs' hu)
theorem insP_app {u : Val} {w : Int} {r : List (Val × Int)} : ∀ {o : List (Val × Int)}, (∀ p, p ∈ o → cmpV p.1 u < 0) → insP u w (o ++ r) = o ++ insP u w r
  | [], _ => rfl
  | p :: o, h => by
    have h1 := h p List.mem_cons_self
    have h2 := cmpV_anti p.1 u
    rw [List.cons_append, insP, if_neg (by omega), if_neg (by omega), insP_app fun q hq => h q (List.mem_cons_of_mem _ hq)]
    rfl
theorem insP_top {u : Val} {w : Int} {o : List (Val × Int)} (hs : o.Pairwise LtP) (h : ∀ q, q ∈ o → cmpV q.1 u ≤ 0) (hl : 0 < o.length) :
    insP u w o = if cmpV (o[o.length - 1]).1 u = 0 then o.set (o.length - 1) ((o[o.length - 1]).1, (o[o.length - 1]).2 + w) else o ++ [(u, w)] := by
  have hne : o ≠ [] := List.length_pos_iff.1 hl
  obtain ⟨q, r, rfl⟩ : ∃ q r, o = r ++ [q] := ⟨o.getLast hne, o.dropLast, (List.dropLast_concat_getLast hne).symm⟩
  have hq : (r ++ [q])[(r ++ [q]).length - 1] = q := by simp
  rw [hq]
  have hr : ∀ p, p ∈ r → cmpV p.1 q.1 < 0 := fun p hp => (List.pairwise_append.1 hs).2.2 p hp q (by simp)
  have hqu := h q (by simp)
  by_cases hc : cmpV q.1 u = 0
  · rw [if_pos hc]
    have hu := (cmpV_zero _ _).1 hc
    rw [insP_app fun p hp => by rw [← hu]; exact hr p hp, insP, if_pos (by rw [hu]; exact cmpV_self _)]
    simp
  · rw [if_neg hc]
    refine insP_end fun p hp => ?_
    rcases List.mem_append.1 hp with hp | hp
    · exact cmpV_lt_trans (hr p hp) (by omega)
    · rw [List.mem_singleton.1 hp]
      omega
theorem at_elemsC : ∀ (l : List (Val × Int)) (i : Nat) (h : i < l.length), ((elemsC l).drop (i * 4)).take 4 = elemC l[i]
  | p :: r, 0, _ => by
    show (elemC p ++ elemsC r).take 4 = _
    rw [← elemC_length p, List.take_left]
    rfl
  | p :: r, i + 1, h => by
    have := at_elemsC r i (by simpa using h)
    show (List.drop ((i + 1) * 4) (elemC p ++ elemsC r)).take 4 = _
    rw [show (i + 1) * 4 = (elemC p).length + i * 4 by simp; omega, ← List.drop_drop, List.drop_left]
    simpa using this
theorem elemsC_append (l r : List (Val × Int)) : elemsC (l ++ r) = elemsC l ++ elemsC r := by unfold elemsC; rw [List.map_append, List.flatten_append]
theorem elemsC_one (p : Val × Int) : elemsC [p] = elemC p := by unfold elemsC; simp
theorem elemC_eq (p : Val × Int) : elemC p = [.int .i64 p.1.num, .isl false p.1.args.length (Val.cellsL p.1.args), .isl false p.1.ws.length (ints p.1.ws), .int .i64 p.2] := by unfold elemC; rw [Val.cells_eq]; rfl
theorem elemsC_closed (nb nr : Nat) : ∀ l : List (Val × Int), (elemsC l).all (closed nb nr) = true
  | [] => rfl
  | p :: r => by
    show (elemC p ++ elemsC r).all _ = true
    rw [List.all_append, elemsC_closed nb nr r]
    unfold elemC
    rw [List.all_append, Val.closed_cells]
    rfl
theorem elemsC_flat : ∀ l : List (Val × Int), (elemsC l).all flat = true
  | [] => rfl
  | p :: r => by
    show (elemC p ++ elemsC r).all _ = true
    rw [List.all_append, elemsC_flat r]
    unfold elemC
    rw [List.all_append, Val.cells_eq]
    rfl
theorem app_at0 {α : Type} (R J : List α) : (R ++ J)[R.length]? = J[0]? := by
  rw [List.getElem?_append_right (Nat.le_refl _), Nat.sub_self]
theorem app_set0 {α : Type} (R J : List α) (x : α) : (R ++ J).set R.length x = R ++ J.set 0 x := by
  rw [List.set_append_right _ _ (Nat.le_refl _), Nat.sub_self]
theorem ev_vSame (u v : Val) (hb : u.nodes ≤ 1000000000) (hs : slimV u) (m : Mem) : evCall C0 120 [.agg u.cells, .agg v.cells] m = some (.ret (.bool (decide (cmpV u v = 0))), m) := by
  rw [evCall_body C0 (C0_ext _ (by decide)) (by rw [C0_P]; exact Tryz.func120) rfl (by rw [C0_ann]; rfl) (by decide) (by simp [Tryz.f120])]
  have he := ev_Compare u.nodes u (Nat.le_refl _) hb hs v
  simp at he
  simp [Tryz.f120, a120, reg120, he]
set_option maxHeartbeats 1000000 in
theorem ev_vgcdR (l : List Int) (id : Nat) (hl : l.length ≤ 1000000000) (hp : ∀ w, w ∈ l → 1 ≤ w ∧ w ≤ 1048576) (m : Mem) (hR : m.rw[id]? = some ⟨3, ints l⟩) : evCall C0 121 [.sl id l.length 0 l.length] m = some (.ret (.int .i64 (gcdN l)), m) := by
  have hid : id < m.rw.length := (List.getElem?_eq_some_iff.1 hR).1
  have hR2 := (List.getElem?_eq_some_iff.1 hR).2
  rw [evCall_body C0 (C0_ext _ (by decide)) (by rw [C0_P]; exact Tryz.func121) rfl (by rw [C0_ann]; rfl) (by decide) (by simp [Tryz.f121])]
  simp [Tryz.f121, a121, reg121, loop121, draw121, dok121]
  refine loop_in (fun x : Nat × Nat => ⟨[(3, .int .i64 x.2), (6, .sl id l.length 0 l.length), (7, .int .i64 l.length), (8, .int .i64 x.1)], m⟩)
    (fun x => some (.ret (.int .i64 (gcdF x.2 (l.drop x.1))), m)) (fun x => l.length - x.1) (fun x => x.1 ≤ l.length ∧ x.2 ≤ 1048576) (0, 0) ?_ ?_ ?_ ?_ ?_
  · simp
  · simp [gcdN]
  · simp
  · intro x; simp [Tryz.f121, a121, reg121, loop121, draw121, dok121]
  · rintro ⟨i, q⟩ hI hrec
    simp only at hI
    obtain ⟨hi, hq⟩ := hI
    by_cases hlt : i < l.length
    · have w2 : IntKind.i64.wrap (i + 1) = i + 1 := wrap_id _ (by omega)
      have hx := hp l[i] (List.getElem_mem hlt)
      have hat := ints_at hlt
      simp only
      rw [gcdF_drop hlt]
      obtain ⟨n, hn⟩ : ∃ n : Nat, l[i] = n := ⟨l[i].toNat, by omega⟩
      rw [hn] at hx hat ⊢
      simp only [Int.natAbs_natCast]
      have hle : Nat.gcd q n ≤ 1048576 := Nat.le_trans (Nat.le_of_dvd (by omega) (Nat.gcd_dvd_right q n)) (by omega)
      simp [round, Tryz.f121, a121, reg121, loop121, draw121, dok121, hlt, w2, hat, hid, hR2, show i + 1 ≤ l.length by omega]
      rw [loop_mp (fun y : Nat × Nat => ⟨[(3, .int .i64 y.1), (5, .int .i64 y.2), (6, .sl id l.length 0 l.length), (7, .int .i64 l.length), (8, .int .i64 i)], m⟩)
        (fun y => some (.normal, ⟨[(3, .int .i64 (Nat.gcd y.1 y.2 : Nat)), (5, .int .i64 0), (6, .sl id l.length 0 l.length), (7, .int .i64 l.length), (8, .int .i64 i), (13, .bool false)], m⟩)) (fun y => y.2) (fun y => y.1 ≤ 1048576 ∧ y.2 ≤ 1048576) (q, n) ?_ rfl ?_ ?_ ?_]
      · simp [Tryz.f121, a121, reg121, loop121, draw121, dok121, w2, endRound_M0, hid]
        refine hrec (i + 1, Nat.gcd q n) _ _ ?_ ?_ ?_ ?_
        · simp; omega
        · exact ⟨by simp; omega, hle⟩
        · simp
        · simp
      · simp [Tryz.f121, a121, reg121, loop121, draw121, dok121]
      · exact ⟨hq, by omega⟩
      · intro x; simp [Tryz.f121, a121, reg121, loop121, draw121, dok121]
      · rintro ⟨a, c⟩ ⟨ha, hc⟩ hrec2
        clear hrec
        by_cases h0 : c = 0
        · subst h0
          simp [round, Tryz.f121, a121, reg121, loop121, draw121, dok121]
        · have ht : (a : Int).tmod (c : Int) = ((a % c : Nat) : Int) := tmod_nat a c
          have hne : ¬ (c : Int) = 0 := by omega
          have hm : a % c < c := Nat.mod_lt _ (by omega)
          simp [round, Tryz.f121, a121, reg121, loop121, draw121, dok121, h0, ht, endRound_M0, hid]
          refine hrec2 (c, a % c) _ _ ?_ ?_ ?_ ?_
          · exact hm
          · exact ⟨hc, by simp only; omega⟩
          · simp
          · simp only
            rw [Nat.gcd_comm c, ← Nat.gcd_rec, Nat.gcd_comm]
    · clear hrec
      simp [round, Tryz.f121, a121, reg121, loop121, draw121, dok121, hlt]
      rw [List.drop_eq_nil_of_le (by omega)]
      rfl
theorem perm_sum {l r : List Int} (h : l.Perm r) : l.sum = r.sum := by
  induction h with
  | nil => rfl
  | cons x _ ih => simp [ih]
  | swap x y l => simp only [List.sum_cons]; omega
  | trans _ _ ih1 ih2 => rw [ih1, ih2]
theorem insP_len (u : Val) (w : Int) : ∀ o : List (Val × Int), (insP u w o).length ≤ o.length + 1
  | [] => by rw [insP]; simp
  | p :: r => by
    have := insP_len u w r
    rw [insP]
    split
    · simp
    · split
      · simp
      · simp; omega
def elA (n : Nat) (ps : List (Val × Int)) : A := if ps.length = 0 then .nils else .sl n (ps.length * 4) 0 ps.length
def elR (ps : List (Val × Int)) : List Row := if ps.length = 0 then [] else [⟨144, elemsC ps⟩]
theorem ev_vMerged0 (f : Fun) (hk : setsK f.kind = true) (h7 : f.kind ≠ 7) (m : Mem) : evCall C0 88 [.agg f.cells, .agg [.int .i64 0, .nils, .isl false 0 []]] m = some (.ret (.agg (Val.mk 0 [] []).cells), m) := by
  rw [evCall_body C0 (C0_ext _ (by decide)) (by rw [C0_P]; exact Tryz.func88) rfl (by rw [C0_ann]; rfl) (by decide) (by simp [Tryz.f88])]
  simp [Tryz.f88, a88, reg88, loop88, draw88, dok88]
  rw [evCode_loop]
  simp [round, Tryz.f88, a88, reg88, loop88, draw88, dok88, ev_SortFunc, sortFG_nil]
  rw [evCode_loop]
  simp [round, Tryz.f88, a88, reg88, loop88, draw88, dok88, h7]
set_option maxHeartbeats 8000000 in
theorem ev_vMerged (f : Fun) (xs : List Val) (ws : List Int) (ia : Nat) (hx0 : 0 < xs.length) (hk : setsK f.kind = true) (hb : ∀ x, x ∈ xs → x.nodes ≤ 1000000 ∧ slimV x) (hl : xs.length ≤ 1000000) (hw : wtd f.kind = true → ws.length = xs.length ∧ (∀ w, w ∈ ws → 1 ≤ w) ∧ ws.sum ≤ 1048576) (m : Mem) (hRa : m.rw[ia]? = some ⟨28, Val.cellsL xs⟩) :
    evCall C0 88 [.agg f.cells, .agg [.int .i64 0, .sl ia (xs.length * 3) 0 xs.length, .isl false ws.length (ints ws)]] m = some (.ret (.agg (mergeV f.kind 0 xs ws).cells), m) := by
  have hia : ia < m.rw.length := (List.getElem?_eq_some_iff.1 hRa).1
  have hia2 : ∀ x, ia < m.rw.length + x := fun x => by omega
  have hRa2 := (List.getElem?_eq_some_iff.1 hRa).2
  have hwl : (wsOf f.kind xs ws).length = xs.length := by
    unfold wsOf
    cases hwk : wtd f.kind
    · simp
    · simpa using (hw hwk).1
  have hk5 : wtd f.kind = false → f.kind = 5 := fun h => by
    unfold setsK at hk
    rw [h, Bool.or_false] at hk
    simpa using hk
  have hk5' : wtd f.kind = true → ¬ f.kind = 5 := fun h h5 => by rw [h5] at h; exact absurd h (by decide)
  generalize hps : xs.zip (wsOf f.kind xs ws) = ps
  have hpl : ps.length = xs.length := by rw [← hps, List.length_zip]; omega
  have hpf : ps.map (·.1) = xs := by rw [← hps]; exact List.map_fst_zip (by omega)
  have hsnd : ps.map (·.2) = wsOf f.kind xs ws := by rw [← hps]; exact List.map_snd_zip (by omega)
  have hmem : ∀ p, p ∈ ps → p.1.nodes ≤ 1000000000 ∧ slimV p.1 := fun p hp => by
    have h1 : p.1 ∈ xs := by rw [← hpf]; exact List.mem_map_of_mem hp
    exact ⟨by have := (hb _ h1).1; omega, (hb _ h1).2⟩
  have hsort : ∀ bx, evCall C0 118 [.sl m.rw.length (ps.length * 4) 0 ps.length, .fn 119 []] ⟨bx, m.rw ++ [⟨144, elemsC ps⟩]⟩ = some (.ret (.tup []), ⟨bx, m.rw ++ [⟨144, elemsC (sortP ps)⟩]⟩) := fun bx => by
    rw [ev_SortFunc, sortFG_row (ps := ps) (t := 144) (by simp) rfl rfl (by omega) (by omega) hmem]
    simp
  rw [evCall_body C0 (C0_ext _ (by decide)) (by rw [C0_P]; exact Tryz.func88) rfl (by rw [C0_ann]; rfl) (by decide) (by simp [Tryz.f88])]
  simp [Tryz.f88, a88, reg88, loop88, draw88, dok88, at_lt, hia, hia2, hRa2]
  refine loop_in (fun x : Nat × List (Val × Int) => ⟨[(2, .ptr m.bx.length 0), (3, .ptr (m.bx.length + 1) 0), (4, .ptr (m.bx.length + 2) 0), (5, elA m.rw.length x.2), (16, .sl ia (xs.length * 3) 0 xs.length), (17, .int .i64 xs.length), (18, .int .i64 x.1)],
      ⟨m.bx ++ [f.cells, [.int .i64 0, .sl ia (xs.length * 3) 0 xs.length, .isl false ws.length (ints ws)], [.int .i64 0, .nils, .nils]], m.rw ++ elR x.2⟩⟩)
    (fun x => some (.ret (.agg (mergeV f.kind 0 xs ws).cells), m)) (fun x => xs.length - x.1)
    (fun x => x.1 ≤ xs.length ∧ x.2 = ps.take x.1) (0, []) ?_ ?_ ?_ ?_ ?_
  · simp [elA, elR]
  · simp
  · simp
  · intro x; simp [Tryz.f88, a88, reg88, loop88, draw88, dok88]
  · rintro ⟨i, o⟩ ⟨hi, ho⟩ hrec
    simp only at hi ho ⊢
    by_cases hlt : i < xs.length
    · have w2 : IntKind.i64.wrap (i + 1) = i + 1 := wrap_id _ (by omega)
      have h3 : (i + 1) * 3 ≤ xs.length * 3 := by omega
      have h3' : i * 3 + 3 ≤ xs.length * 3 := by omega
      have hip : i < ps.length := by omega
      have hol : o.length = i := by rw [ho, List.length_take]; omega
      have hp1 : ps[i].1 = xs[i] := by simp only [← hpf, List.getElem_map]
      have hnx : ps.take (i + 1) = o ++ [ps[i]] := by rw [ho, List.take_succ_eq_append_getElem hip]
      have hec := elemC_eq ps[i]
      rw [hp1] at hec
      have hp2 : ps[i].2 = (wsOf f.kind xs ws)[i]'(by omega) := by simp only [← hsnd, List.getElem_map]
      have helc := elemsC_closed
      have helf := elemsC_flat
      have hes1 : (o.length + 1) * 64 ≤ 70368744177664 := by omega
      have hes2 : o.length ≤ 70368744177663 := by omega
      have hes3 := elemsC_length o
      cases hwk : wtd f.kind
      · have h5 := hk5 hwk
        have hz : ps[i].2 = 0 := by rw [hp2]; simp [wsOf, hwk]
        rw [hz] at hec
        by_cases ho0 : o.length = 0
        · have hoe : o = [] := List.eq_nil_of_length_eq_zero ho0
          simp [round, Tryz.f88, a88, reg88, loop88, draw88, dok88, at_lt, hia, hia2, hRa2, hlt, w2, h3, h3', h5, elA, elR, hoe, app_at, app_set, app_at0, app_set0, endRound_R0, helc]
          refine hrec (i + 1, [ps[i]]) _ _ ?_ ?_ ?_ ?_
          · simp; omega
          · exact ⟨by simp only; omega, by rw [hnx, hoe]; rfl⟩
          · simp [elA, elR, elemsC_one, hec, h5]
          · simp [h5]
        · have hoz : ¬ o = [] := fun h => ho0 (by rw [h]; rfl)
          simp [round, Tryz.f88, a88, reg88, loop88, draw88, dok88, at_lt, hia, hia2, hRa2, hlt, w2, h3, h3', h5, elA, elR, ho0, hoz, app_at, app_set, app_at0, app_set0, endRound_J, helc, hes1, hes2, hes3]
          refine hrec (i + 1, o ++ [ps[i]]) _ _ ?_ ?_ ?_ ?_
          · simp; omega
          · exact ⟨by simp only; omega, by rw [hnx]⟩
          · simp [elA, elR, elemsC_append, elemsC_one, hec, h5]
          · simp [h5]
      · have h5 := hk5' hwk
        have hiw : i < ws.length := by have := (hw hwk).1; omega
        have hz : ps[i].2 = ws[i] := by rw [hp2]; simp [wsOf, hwk]
        rw [hz] at hec
        have hat := ints_at hiw
        by_cases ho0 : o.length = 0
        · have hoe : o = [] := List.eq_nil_of_length_eq_zero ho0
          simp [round, Tryz.f88, a88, reg88, loop88, draw88, dok88, at_lt, hia, hia2, hRa2, hlt, w2, h3, h3', h5, elA, elR, hoe, app_at, app_set, app_at0, app_set0, endRound_R0, helc, hat, hiw, show i + 1 ≤ ws.length by omega]
          refine hrec (i + 1, [ps[i]]) _ _ ?_ ?_ ?_ ?_
          · simp; omega
          · exact ⟨by simp only; omega, by rw [hnx, hoe]; rfl⟩
          · simp [elA, elR, elemsC_one, hec]
          · simp
        · have hoz : ¬ o = [] := fun h => ho0 (by rw [h]; rfl)
          simp [round, Tryz.f88, a88, reg88, loop88, draw88, dok88, at_lt, hia, hia2, hRa2, hlt, w2, h3, h3', h5, elA, elR, ho0, hoz, app_at, app_set, app_at0, app_set0, endRound_J, helc, hes1, hes2, hes3, hat, hiw, show i + 1 ≤ ws.length by omega]
          refine hrec (i + 1, o ++ [ps[i]]) _ _ ?_ ?_ ?_ ?_
          · simp; omega
          · exact ⟨by simp only; omega, by rw [hnx]⟩
          · simp [elA, elR, elemsC_append, elemsC_one, hec]
          · simp
    · clear hrec
      have hie : i = xs.length := by omega
      subst hie
      have hoe : o = ps := by rw [ho, List.take_of_length_le (by omega)]
      rw [hoe]
      clear ho hoe o
      have hpe : ¬ ps.length = 0 := by omega
      have hpe' : ¬ ps = [] := fun h => hpe (by rw [h]; rfl)
      have hql := sortP_length ps
      have hqs := sortP_sorted ps
      have hqp := sortP_perm ps
      have hqn : ∀ p, p ∈ sortP ps → p.1.nodes ≤ 1000000000 ∧ slimV p.1 := fun p hp => hmem p (hqp.mem_iff.1 hp)
      have hmq : mergeF [] (sortP ps) = mergeP f.kind xs ws := by rw [merge_perm hqp, ← hps]; rfl
      have hqw : wtd f.kind = true → (∀ p, p ∈ sortP ps → 1 ≤ p.2) ∧ ((sortP ps).map (·.2)).sum ≤ 1048576 := fun h => by
        have hz : wsOf f.kind xs ws = ws := by unfold wsOf; rw [h, if_pos rfl]
        obtain ⟨h1, h2, h3⟩ := hw h
        refine ⟨fun p hp => h2 _ ?_, ?_⟩
        · rw [← hz, ← hsnd]
          exact List.mem_map_of_mem (hqp.mem_iff.1 hp)
        · have h4 : ((sortP ps).map (·.2)).sum = (ps.map (·.2)).sum := perm_sum (hqp.map _)
          rw [h4, hsnd, hz]
          exact h3
      have hqz : wtd f.kind = false → ∀ p, p ∈ sortP ps → p.2 = 0 := fun h p hp => by
        have h1 : p.2 ∈ ps.map (·.2) := List.mem_map_of_mem (hqp.mem_iff.1 hp)
        rw [hsnd] at h1
        unfold wsOf at h1
        rw [h] at h1
        simp at h1
        exact h1.2.symm
      simp [round, Tryz.f88, a88, reg88, loop88, draw88, dok88, elA, elR, hpe, hpe', hsort]
      clear hsort
      generalize sortP ps = qs at *
      refine loop_in (fun s : MgS => ⟨[(2, .ptr m.bx.length 0), (4, .ptr (m.bx.length + 2) 0), (9, .ptr (m.bx.length + 3) 0), (40, .sl m.rw.length (ps.length * 4) 0 ps.length), (41, .int .i64 ps.length), (42, .int .i64 s.i)],
          ⟨m.bx ++ [f.cells, [.int .i64 0, .sl ia (xs.length * 3) 0 xs.length, .isl false ws.length (ints ws)], [.int .i64 0, .nils, .nils], [.int .i64 0, mgA (m.rw.length + s.ja) s.o, mgW f.kind (m.rw.length + s.jw) s.o]], m.rw ++ s.J⟩⟩)
        (fun s => some (.ret (.agg (mergeV f.kind 0 xs ws).cells), m)) (fun s => ps.length - s.i)
        (fun s => s.i ≤ ps.length ∧ s.o.length ≤ s.i ∧ (0 < s.i → 0 < s.o.length) ∧ mergeF s.o (qs.drop s.i) = mergeF [] qs ∧ s.o.Pairwise LtP ∧ (∀ p, p ∈ s.o → ∀ q, q ∈ qs.drop s.i → cmpV p.1 q.1 ≤ 0) ∧ (∀ p, p ∈ s.o → p.1.nodes ≤ 1000000000 ∧ slimV p.1) ∧ MgOk f.kind m.rw.length s ∧ s.J[0]? = some ⟨144, elemsC qs⟩ ∧ (0 < s.o.length → 0 < s.ja) ∧ (0 < s.o.length → wtd f.kind = true → 0 < s.jw))
        ⟨0, [], [⟨144, elemsC qs⟩], 0, 0⟩ ?_ ?_ ?_ ?_ ?_
      · simp [mgA, mgW]
      · simp
      · refine ⟨by simp, by simp, by simp, rfl, List.Pairwise.nil, fun p hp => (by cases hp), fun p hp => (by cases hp), ⟨by simp [elemsC_closed], fun h => by simp at h, fun h => by simp at h, fun _ p hp => by cases hp⟩, rfl, fun h => by simp at h, fun h => by simp at h⟩
      · intro x; simp [Tryz.f88, a88, reg88, loop88, draw88, dok88]
      · rintro ⟨i, o, J, ja, jw⟩ ⟨hi, hol, hi0, hmg, hos, hle, hsm, ⟨hcl, hra, hrw, hps1⟩, hJ0, hja0, hjw0⟩ hrec
        simp only at hi hol hi0 hmg hos hle hsm hcl hra hrw hps1 hJ0 hja0 hjw0 ⊢
        have hJp : 0 < J.length := (List.getElem?_eq_some_iff.1 hJ0).1
        have hJ2 := (List.getElem?_eq_some_iff.1 hJ0).2
        by_cases hlt : i < ps.length
        · have w2 : IntKind.i64.wrap (i + 1) = i + 1 := wrap_id _ (by omega)
          have hiq : i < qs.length := by omega
          have h4 : (i + 1) * 4 ≤ ps.length * 4 := by omega
          have h4' : i * 4 + 4 ≤ ps.length * 4 := by omega
          have hat4 := at_elemsC qs i hiq
          have hqi := hqn _ (List.getElem_mem hiq)
          have hdr : qs.drop i = qs[i] :: qs.drop (i + 1) := List.drop_eq_getElem_cons hiq
          have hmg2 : mergeF (insP qs[i].1 qs[i].2 o) (qs.drop (i + 1)) = mergeF [] qs := by rw [← hmg, hdr]; rfl
          have hos2 := insP_sorted (u := qs[i].1) (w := qs[i].2) hos
          have hle2 : ∀ p, p ∈ o → cmpV p.1 qs[i].1 ≤ 0 := fun p hp => hle p hp _ (by rw [hdr]; exact List.mem_cons_self)
          have hnext : ∀ q, q ∈ qs.drop (i + 1) → cmpV qs[i].1 q.1 ≤ 0 := by
            have h1 := hqs.sublist (List.drop_sublist i qs)
            rw [hdr, List.pairwise_cons] at h1
            exact h1.1
          have hle3 : ∀ p, p ∈ insP qs[i].1 qs[i].2 o → ∀ q, q ∈ qs.drop (i + 1) → cmpV p.1 q.1 ≤ 0 := fun p hp q hq => by
            rcases insP_fst hp with h1 | ⟨r, hr, h1⟩
            · rw [h1]; exact hnext q hq
            · rw [h1]; exact hle r hr q (by rw [hdr]; exact List.mem_cons_of_mem _ hq)
          have hsm2 : ∀ p, p ∈ insP qs[i].1 qs[i].2 o → p.1.nodes ≤ 1000000000 ∧ slimV p.1 := fun p hp => by
            rcases insP_fst hp with h1 | ⟨r, hr, h1⟩
            · rw [h1]; exact hqi
            · rw [h1]; exact hsm r hr
          have hps2 : wtd f.kind = true → ∀ p, p ∈ insP qs[i].1 qs[i].2 o → 1 ≤ p.2 := fun h => insP_pos ((hqw h).1 _ (List.getElem_mem hiq)) (hps1 h)
          have hec := elemC_eq qs[i]
          have hw5 : wtd 5 = false := rfl
          have hine := insP_ne qs[i].1 qs[i].2 o
          have hine1 : 0 < (insP qs[i].1 qs[i].2 o).length := List.length_pos_iff.2 hine
          have hinl := insP_len qs[i].1 qs[i].2 o
          have hql4 := elemsC_length qs
          have hcle : ∀ nb nr, (elemC qs[i]).all (closed nb nr) = true := fun nb nr => by have := elemsC_closed nb nr [qs[i]]; rwa [elemsC_one] at this
          rw [hec] at hcle
          have hI : ∀ (J' : List Row) (ja' jw' : Nat), J'.all (fun r => r.cs.all (closed 0 0)) = true → J'[ja']? = some ⟨28, Val.cellsL ((insP qs[i].1 qs[i].2 o).map (·.1))⟩ → (wtd f.kind = true → J'[jw']? = some ⟨3, ints ((insP qs[i].1 qs[i].2 o).map (·.2))⟩ ∧ ja' ≠ jw') → J'[0]? = some ⟨144, elemsC qs⟩ → 0 < ja' → (wtd f.kind = true → 0 < jw') →
              (i + 1 ≤ ps.length ∧ (insP qs[i].1 qs[i].2 o).length ≤ i + 1 ∧ (0 < i + 1 → 0 < (insP qs[i].1 qs[i].2 o).length) ∧ mergeF (insP qs[i].1 qs[i].2 o) (qs.drop (i + 1)) = mergeF [] qs ∧ (insP qs[i].1 qs[i].2 o).Pairwise LtP ∧ (∀ p, p ∈ insP qs[i].1 qs[i].2 o → ∀ q, q ∈ qs.drop (i + 1) → cmpV p.1 q.1 ≤ 0) ∧ (∀ p, p ∈ insP qs[i].1 qs[i].2 o → p.1.nodes ≤ 1000000000 ∧ slimV p.1) ∧ MgOk f.kind m.rw.length ⟨i + 1, insP qs[i].1 qs[i].2 o, J', ja', jw'⟩ ∧ J'[0]? = some ⟨144, elemsC qs⟩ ∧ (0 < (insP qs[i].1 qs[i].2 o).length → 0 < ja') ∧ (0 < (insP qs[i].1 qs[i].2 o).length → wtd f.kind = true → 0 < jw')) :=
            fun J' ja' jw' g1 g2 g3 g4 g5 g6 => ⟨by omega, by omega, fun _ => hine1, hmg2, hos2, hle3, hsm2, ⟨g1, fun _ => g2, fun _ h => g3 h, hps2⟩, g4, fun _ => g5, fun _ h => g6 h⟩
          have hsb : wtd f.kind = true → (o.map (·.2)).sum + qs[i].2 ≤ 1048576 := fun h => by
            have e := congrArg (fun l : List (Val × Int) => (l.map (·.2)).sum) hmg
            rw [mergeF_sum, mergeF_sum, hdr, List.map_cons, List.sum_cons] at e
            have h1 := sum_pos fun q (hq : q ∈ qs.drop (i + 1)) => (hqw h).1 q (List.mem_of_mem_drop hq)
            have h2 := (hqw h).2
            try simp at e
            try simp at h1
            omega
          clear hle hle3 hsm2 hps2 hnext hmg hmg2 hos2
          generalize hO : insP qs[i].1 qs[i].2 o = O at *
          by_cases hi00 : i = 0
          · subst hi00
            have hat0 := hat4
            simp only [Nat.zero_mul, List.drop_zero] at hat0
            rw [hec] at hat0
            have h40 : 4 ≤ ps.length * 4 := by omega
            have hoe : o = [] := List.eq_nil_of_length_eq_zero (by omega)
            subst hoe
            have hO1 : O = [(qs[0].1, qs[0].2)] := by rw [← hO, insP]
            cases hwk : wtd f.kind
            · have h5 := hk5 hwk
              simp [round, Tryz.f88, a88, reg88, loop88, draw88, dok88, hia2, hlt, w2, app_at0, hJp, hJ2, hql, hql4, h4, h4', h40, hat0, hat4, hec, mgA, mgW, hwk, h5, endRound_J, hcl]
              refine hrec ⟨1, O, J ++ [⟨28, Val.cellsL (O.map (·.1))⟩], J.length, 0⟩ _ _ ?_ ?_ ?_ ?_
              · simp; omega
              · exact hI _ _ _ (by simp [hcl]) (by simp) (fun h => absurd h (by simp [hwk])) (by rw [List.getElem?_append_left hJp]; exact hJ0) hJp (fun h => absurd h (by simp [hwk]))
              · simp [mgA, mgW, hwk, h5, hw5, hO1, Val.cellsL]
              · simp [h5]
            · have h5 := hk5' hwk
              simp [round, Tryz.f88, a88, reg88, loop88, draw88, dok88, hia2, hlt, w2, app_at0, hJp, hJ2, hql, hql4, h4, h4', h40, hat0, hat4, hec, mgA, mgW, hwk, h5, endRound_J, hcl]
              refine hrec ⟨1, O, J ++ [⟨28, Val.cellsL (O.map (·.1))⟩, ⟨3, ints (O.map (·.2))⟩], J.length, J.length + 1⟩ _ _ ?_ ?_ ?_ ?_
              · simp; omega
              · exact hI _ _ _ (by simp [hcl]) (by simp) (fun h => ⟨by simp, by omega⟩) (by rw [List.getElem?_append_left hJp]; exact hJ0) hJp (fun h => by omega)
              · simp [mgA, mgW, hwk, h5, hO1, Val.cellsL, ints]
              · simp
          · have ho1 : 0 < o.length := hi0 (by omega)
            have htop := insP_top (w := qs[i].2) hos hle2 ho1
            rw [hO] at htop
            obtain ⟨k, hlk⟩ : ∃ k, o.length = k + 1 := ⟨o.length - 1, by omega⟩
            have hko : k < o.length := by omega
            simp only [hlk, Nat.add_sub_cancel] at htop
            have ho0 : ¬ o = [] := fun h => by rw [h] at ho1; simp at ho1
            have w4 : IntKind.i64.wrap (k : Int) = k := wrap_id _ (by omega)
            have hJa := hra ho1
            have hja : ja < J.length := (List.getElem?_eq_some_iff.1 hJa).1
            have hJa2 := (List.getElem?_eq_some_iff.1 hJa).2
            have hsk := hsm _ (List.getElem_mem hko)
            have he := ev_vSame o[k].1 qs[i].1 hsk.1 hsk.2
            simp at he
            have hatk := Val.at_cellsL (o.map (·.1)) k (by simpa using hko)
            simp at hatk
            have hi01 : 0 < i := by omega
            have hk3 : k * 3 + 3 ≤ (k + 1) * 3 := by omega
            by_cases hc : cmpV o[k].1 qs[i].1 = 0
            · simp [hc] at he
              rw [if_pos hc] at htop
              have hfst : O.map (·.1) = o.map (·.1) := by
                rw [htop, List.map_set]
                exact List.ext_getElem (by simp) fun n h1 h2 => by
                  rw [List.getElem_set]
                  split
                  · rename_i h; subst h; simp
                  · rfl
              have hil : O.length = o.length := by rw [htop]; simp
              cases hwk : wtd f.kind
              · have h5 := hk5 hwk
                simp [round, Tryz.f88, a88, reg88, loop88, draw88, dok88, hia2, hlt, w2, w4, app_at0, app_at, app_set, hJp, hJ2, hja, hJa2, hql, hql4, h4, h4', hat4, hec, mgA, mgW, hwk, h5, hw5, hlk, ho0, hi01, hi00, hatk, hk3, he, hc, endRound_J, hcl, all_set, show (k : Int) < (k : Int) + 1 by omega]
                refine hrec ⟨i + 1, O, J, ja, jw⟩ _ _ ?_ ?_ ?_ ?_
                · simp; omega
                · exact hI _ _ _ hcl (by rw [hfst]; exact hJa) (fun h => absurd h (by simp [hwk])) hJ0 (hja0 ho1) (fun h => absurd h (by simp [hwk]))
                · simp [mgA, mgW, hwk, h5, hw5, hil, hlk, hine, ho0]
                · simp [h5]
              · have h5 := hk5' hwk
                obtain ⟨hJw, hne⟩ := hrw ho1 hwk
                have hjw : jw < J.length := (List.getElem?_eq_some_iff.1 hJw).1
                have hJw2 := (List.getElem?_eq_some_iff.1 hJw).2
                have hat2 : ((ints (o.map (·.2))).drop k).take 1 = [.int .i64 o[k].2] := by
                  have := ints_at (ks := o.map (·.2)) (i := k) (by simpa using hko)
                  simpa using this
                have hwp := hps1 hwk
                have hsum := mem_sum hwp (List.getElem_mem hko)
                have hp1 := hwp _ (List.getElem_mem hko)
                have hq1 := (hqw hwk).1 _ (List.getElem_mem hiq)
                have w3 : IntKind.i64.wrap (o[k].2 + qs[i].2) = o[k].2 + qs[i].2 := wrap_id _ (by have := hsb hwk; omega)
                have hset : List.take k (ints (o.map (·.2))) ++ A.int .i64 (o[k].2 + qs[i].2) :: List.drop (k + 1) (ints (o.map (·.2))) = ints (O.map (·.2)) := by
                  rw [htop, List.map_set, List.set_eq_take_append_cons_drop, if_pos (by simpa using hko)]
                  simp [ints]
                simp [round, Tryz.f88, a88, reg88, loop88, draw88, dok88, hia2, hlt, w2, w4, app_at0, app_at, app_set, hJp, hJ2, hja, hJa2, hql, hql4, h4, h4', hat4, hec, mgA, mgW, hwk, h5, hw5, hlk, ho0, hi01, hi00, hatk, hk3, he, hc, endRound_J, hcl, all_set, show (k : Int) < (k : Int) + 1 by omega, hjw, hJw2, hat2, w3, hset]
                refine hrec ⟨i + 1, O, J.set jw ⟨3, ints (O.map (·.2))⟩, ja, jw⟩ _ _ ?_ ?_ ?_ ?_
                · simp; omega
                · exact hI _ _ _ (by simp [all_set, hcl]) (by rw [List.getElem?_set_ne (Ne.symm hne), hfst]; exact hJa) (fun _ => ⟨by simp [hjw], hne⟩) (by rw [List.getElem?_set_ne (by have := hjw0 ho1 hwk; omega)]; exact hJ0) (hja0 ho1) (fun h => hjw0 ho1 h)
                · simp [mgA, mgW, hwk, h5, hil, hlk, hine, ho0]
                · simp
            · simp [hc] at he
              rw [if_neg hc] at htop
              have hil : O.length = k + 1 + 1 := by rw [htop]; simp [hlk]
              have hcl3 : Val.cellsL (o.map (·.1)) ++ qs[i].1.cells = Val.cellsL (O.map (·.1)) := by rw [htop, List.map_append, Val.cellsL_append]; simp [Val.cellsL]
              simp only [Val.cells_eq] at hcl3
              cases hwk : wtd f.kind
              · have h5 := hk5 hwk
                simp [round, Tryz.f88, a88, reg88, loop88, draw88, dok88, hia2, hlt, w2, w4, app_at0, app_at, app_set, hJp, hJ2, hja, hJa2, hql, hql4, h4, h4', hat4, hec, mgA, mgW, hwk, h5, hw5, hlk, ho0, hi01, hi00, hatk, hk3, he, hc, endRound_J, hcl, all_set, show (k : Int) < (k : Int) + 1 by omega, hcl3, show (k + 1 + 1) * 56 ≤ 70368744177664 by omega, show k + 1 + 1 ≤ 70368744177664 by omega, show (k + 1 + 1) * 8 ≤ 70368744177664 by omega, show (k + 1) * 3 + 3 = (k + 1 + 1) * 3 by omega]
                refine hrec ⟨i + 1, O, J.set ja ⟨28, Val.cellsL (O.map (·.1))⟩, ja, jw⟩ _ _ ?_ ?_ ?_ ?_
                · simp; omega
                · exact hI _ _ _ (by simp [all_set, hcl]) (by simp [hja]) (fun h => absurd h (by simp [hwk])) (by rw [List.getElem?_set_ne (by have := hja0 ho1; omega)]; exact hJ0) (hja0 ho1) (fun h => absurd h (by simp [hwk]))
                · simp [mgA, mgW, hwk, h5, hw5, hil, hlk, hine, ho0]
                · simp [h5]
              · have h5 := hk5' hwk
                obtain ⟨hJw, hne⟩ := hrw ho1 hwk
                have hjw : jw < J.length := (List.getElem?_eq_some_iff.1 hJw).1
                have hJw2 := (List.getElem?_eq_some_iff.1 hJw).2
                have hin : ints (o.map (·.2)) ++ [A.int .i64 qs[i].2] = ints (O.map (·.2)) := by rw [htop, List.map_append, ints_append]; simp [ints]
                have hcl2 : ((J.set ja ⟨28, Val.cellsL (O.map (·.1))⟩).set jw ⟨3, ints (O.map (·.2))⟩).all (fun r => r.cs.all (closed 0 0)) = true := all_set (all_set hcl _ _ (Val.closed_cellsL _ _ _)) _ _ (closed_ints _ _ _)
                simp [round, Tryz.f88, a88, reg88, loop88, draw88, dok88, hia2, hlt, w2, w4, app_at0, app_at, app_set, hJp, hJ2, hja, hJa2, hql, hql4, h4, h4', hat4, hec, mgA, mgW, hwk, h5, hw5, hlk, ho0, hi01, hi00, hatk, hk3, he, hc, endRound_J, hcl, all_set, show (k : Int) < (k : Int) + 1 by omega, hcl3, hcl2, hjw, hJw2, hin, hne, show (k + 1 + 1) * 56 ≤ 70368744177664 by omega, show k + 1 + 1 ≤ 70368744177664 by omega, show (k + 1 + 1) * 8 ≤ 70368744177664 by omega, show (k + 1) * 3 + 3 = (k + 1 + 1) * 3 by omega]
                refine hrec ⟨i + 1, O, (J.set ja ⟨28, Val.cellsL (O.map (·.1))⟩).set jw ⟨3, ints (O.map (·.2))⟩, ja, jw⟩ _ _ ?_ ?_ ?_ ?_
                · simp; omega
                · exact hI _ _ _ hcl2 (by rw [List.getElem?_set_ne (Ne.symm hne)]; simp [hja]) (fun _ => ⟨by simp [hjw], hne⟩) (by rw [List.getElem?_set_ne (by have := hjw0 ho1 hwk; omega), List.getElem?_set_ne (by have := hja0 ho1; omega)]; exact hJ0) (hja0 ho1) (fun h => hjw0 ho1 h)
                · simp [mgA, mgW, hwk, h5, hil, hlk, hine, ho0]
                · simp
        · clear hrec
          have hie : i = ps.length := by omega
          subst hie
          have hO : o = mergeP f.kind xs ws := by
            rw [← hmq, ← hmg, List.drop_eq_nil_of_le (by omega)]
            rfl
          have ho1 : 0 < o.length := hi0 (by omega)
          have ho0 : ¬ o = [] := fun h => by rw [h] at ho1; simp at ho1
          have hJa := hra ho1
          have hja : ja < J.length := (List.getElem?_eq_some_iff.1 hJa).1
          have hJa2 := (List.getElem?_eq_some_iff.1 hJa).2
          have hall : List.take (o.length * 3) (Val.cellsL (o.map (·.1))) = Val.cellsL (o.map (·.1)) := List.take_of_length_le (by simp)
          have hallw : List.take o.length (ints (o.map (·.2))) = ints (o.map (·.2)) := List.take_of_length_le (by simp)
          have hO2 : wtd f.kind = true → ∀ w, w ∈ o.map (·.2) → 1 ≤ w ∧ w ≤ 1048576 := fun h w hmem => by
            obtain ⟨p, hp, rfl⟩ := List.mem_map.1 hmem
            refine ⟨hps1 h p hp, ?_⟩
            have h1 := mem_sum (hps1 h) hp
            have h2 : (o.map (·.2)).sum = (qs.map (·.2)).sum := by
              rw [hO, ← hmq, mergeF_sum]
              simp
            have h3 := (hqw h).2
            omega
          unfold mergeV
          rw [← hO]
          by_cases h7 : f.kind = 7
          · have hwk : wtd f.kind = true := by rw [h7]; rfl
            obtain ⟨hJw, hne⟩ := hrw ho1 hwk
            have hjw : jw < J.length := (List.getElem?_eq_some_iff.1 hJw).1
            have hJw2 := (List.getElem?_eq_some_iff.1 hJw).2
            have hws : ∀ w, w ∈ o.map (·.2) → 1 ≤ w ∧ w ≤ 1048576 := hO2 hwk
            have hwp : ∀ w, w ∈ o.map (·.2) → 1 ≤ w := fun w h => (hws w h).1
            have hWl : (o.map (·.2)).length = o.length := by simp
            generalize o.map (·.2) = W at *
            have hgp : 0 < gcdN W := gcdN_pos (fun h => by rw [h] at hWl; simp at hWl; omega) hwp
            have hg := ev_vgcdR W (m.rw.length + jw) (by omega) hws
            have hgc : ∀ bx, evCall C0 121 [.sl (m.rw.length + jw) o.length 0 o.length] ⟨bx, m.rw ++ J⟩ = some (.ret (.int .i64 (gcdN W)), ⟨bx, m.rw ++ J⟩) := fun bx => by
              have := hg ⟨bx, m.rw ++ J⟩ (by rw [app_at]; exact hJw)
              rwa [hWl] at this
            simp [round, Tryz.f88, a88, reg88, loop88, draw88, dok88, hia2, app_at, h7, show wtd 7 = true from rfl, ho0, mgA, mgW, hwk, hgc, hjw, hJw2, hja, hJa2]
            refine loop_in (fun j : Nat => ⟨[(4, .ptr (m.bx.length + 2) 0), (9, .ptr (m.bx.length + 3) 0), (13, .int .i64 (gcdN W)), (101, .int .i64 o.length), (102, .int .i64 j)],
                ⟨m.bx ++ [f.cells, [.int .i64 0, .sl ia (xs.length * 3) 0 xs.length, .isl false ws.length (ints ws)], [.int .i64 0, .nils, .nils], [.int .i64 0, .sl (m.rw.length + ja) (o.length * 3) 0 o.length, .sl (m.rw.length + jw) o.length 0 o.length]], m.rw ++ J.set jw ⟨3, ints ((divG W).take j ++ W.drop j)⟩⟩⟩)
              (fun i => some (.ret (.agg (Val.mk 0 (o.map (·.1)) (divG W)).cells), m)) (fun j => o.length - j) (fun j => j ≤ o.length) 0 ?_ ?_ ?_ ?_ ?_
            · have hset0 : J.set jw ⟨3, ints W⟩ = J := by rw [← hJw2]; exact List.set_getElem_self hjw
              simp [hset0, h7]
            · simp
            · omega
            · intro x; simp [Tryz.f88, a88, reg88, loop88, draw88, dok88, hia2]
            · intro j hj hrec
              have hdl : (divG W).length = W.length := by unfold divG; simp
              have hne' : ¬ jw = ja := fun h => hne h.symm
              have hg0 : ¬ (gcdN W : Int) = 0 := by omega
              by_cases hit : j < o.length
              · have w2 : IntKind.i64.wrap (j + 1) = j + 1 := wrap_id _ (by omega)
                have hiW : j < W.length := by omega
                have hx := hws W[j] (List.getElem_mem hiW)
                have hq := tdiv_pos hx.1 hgp ((gcdF_dvd W 0).2 _ (List.getElem_mem hiW))
                have w3 : IntKind.i64.wrap (W[j].tdiv (gcdN W)) = W[j].tdiv (gcdN W) := wrap_id _ (by omega)
                have hDl : ((divG W).take j ++ W.drop j).length = o.length := by simp; omega
                have hat : ((ints ((divG W).take j ++ W.drop j)).drop j).take 1 = [.int .i64 W[j]] := by
                  have h1 := ints_at (ks := (divG W).take j ++ W.drop j) (i := j) (by omega)
                  rw [h1]
                  congr 2
                  rw [List.getElem_append_right (by simp; omega)]
                  simp [Nat.min_eq_left (show j ≤ (divG W).length by omega)]
                have hst : List.take j (ints ((divG W).take j ++ W.drop j)) ++ A.int .i64 (W[j].tdiv (gcdN W)) :: List.drop (j + 1) (ints ((divG W).take j ++ W.drop j)) = ints ((divG W).take (j + 1) ++ W.drop (j + 1)) := by
                  have h1 : (divG W)[j]'(by omega) = W[j].tdiv (gcdN W) := by unfold divG; simp
                  have h2 : ((divG W).take j).length = j := by simp; omega
                  unfold ints
                  rw [← List.map_take, ← List.map_drop, ← List.drop_drop]
                  have h3 : List.take j ((divG W).take j ++ W.drop j) = (divG W).take j := by rw [List.take_append_of_le_length (by omega), List.take_of_length_le (by omega)]
                  have h4 : List.drop j ((divG W).take j ++ W.drop j) = W.drop j := by rw [List.drop_append_of_le_length (by omega), List.drop_eq_nil_of_le (by omega)]; rfl
                  rw [h3, h4, List.drop_drop, List.take_succ_eq_append_getElem (by omega), h1]
                  simp
                generalize (divG W).take j ++ W.drop j = D at hDl hat hst ⊢
                simp [round, Tryz.f88, a88, reg88, loop88, draw88, dok88, hia2, hit, w2, w3, app_at, app_set, hjw, hDl, hat, hst, show ¬ gcdN W = 0 by omega, show j + 1 ≤ o.length by omega, endRound_J, all_set, hcl, hja]
                refine hrec (j + 1) _ _ ?_ ?_ ?_ ?_
                · omega
                · omega
                · simp
                · simp
              · clear hrec
                have hie : j = o.length := by omega
                subst hie
                rw [List.take_of_length_le (by omega), List.drop_eq_nil_of_le (by omega), List.append_nil]
                have hdl2 : (divG W).length = o.length := by omega
                have htk : List.take o.length (ints (divG W)) = ints (divG W) := List.take_of_length_le (by simp; omega)
                simp [round, Tryz.f88, a88, reg88, loop88, draw88, dok88, hia2, app_at, hjw, hja, hJa2, hne', hall, hdl2, htk]
          · cases hwk : wtd f.kind
            · have h5 := hk5 hwk
              simp [round, Tryz.f88, a88, reg88, loop88, draw88, dok88, hia2, app_at, show wtd 5 = false from rfl, h5, h7, ho0, mgA, mgW, hwk, hja, hJa2, hall]
            · have h5 := hk5' hwk
              obtain ⟨hJw, hne⟩ := hrw ho1 hwk
              have hjw : jw < J.length := (List.getElem?_eq_some_iff.1 hJw).1
              have hJw2 := (List.getElem?_eq_some_iff.1 hJw).2
              simp [round, Tryz.f88, a88, reg88, loop88, draw88, dok88, hia2, app_at, h5, h7, ho0, mgA, mgW, hwk, hja, hJa2, hjw, hJw2, hall, hallw]
theorem merge_nodes (kind k : Int) (xs : List Val) (w : List Int) (hs : slimL xs) (hx : xs.length ≤ 1000000000) : (mergeV kind k xs w).nodes ≤ 1 + Val.nodesL xs ∧ slimV (mergeV kind k xs w) := by
  unfold mergeV
  rw [Val.nodes_eq, slimV_eq]
  simp only [Val.args_mk, Val.ws_mk]
  have h1 := nodesL_merge (xs.zip (wsOf kind xs w)) []
  have h2 : Val.nodesL ((xs.zip (wsOf kind xs w)).map (·.1)) ≤ Val.nodesL xs := by
    have : ∀ (a : List Val) (b : List Int), Val.nodesL ((a.zip b).map (·.1)) ≤ Val.nodesL a := by
      intro a
      induction a with
      | nil => intro b; simp [Val.nodesL]
      | cons x r ih =>
        intro b
        cases b with
        | nil => simp [Val.nodesL]
        | cons y t => simp [Val.nodesL]; exact ih t
    exact this _ _
  have h3 : (xs.zip (wsOf kind xs w)).length ≤ xs.length := by rw [List.length_zip]; omega
  simp only [List.map_nil, List.length_nil, Val.nodesL] at h1
  unfold mergeP
  refine ⟨by omega, ?_, slimL_of fun x hx' => ?_⟩
  · split
    · unfold divG; simp; omega
    · split
      · simp; omega
      · simp
  · obtain ⟨p, hp, rfl⟩ := List.mem_map.1 hx'
    rcases mergeF_fst _ _ p hp with ⟨q, h4, h5⟩ | ⟨q, h4, _⟩
    · rw [h5]; exact slimL_mem hs (zip_fst h4).1
    · cases h4
mutual
theorem map_nodes {t : Int → Val} (ht : ∀ x, (t x).nodes ≤ 1 ∧ slimV (t x)) : ∀ (v : Val) (f : Fun), slimV v → v.nodes ≤ 1000000000 → (mapV t v f).nodes ≤ v.nodes ∧ slimV (mapV t v f)
  | .mk k l w, f, hs, hb => by
    rw [slimV_eq] at hs
    have hv := Val.nodes_eq (.mk k l w)
    rw [hv] at hb ⊢
    simp only [Val.args_mk] at hb hs ⊢
    have ih := mapL_nodes ht l (argF f k) 0 hs.2 (by omega)
    have hl := Val.length_nodesL l
    have hm := mapL_length t l (argF f k) 0
    rw [mapV]
    split
    · have := ht k; exact ⟨by omega, this.2⟩
    split
    · rw [Val.nodes_eq, slimV_eq]; simp [Val.nodesL, slimL]
    have hplain : ∀ q, (Val.mk q (mapL t l (argF f k) 0) []).nodes ≤ 1 + Val.nodesL l ∧ slimV (Val.mk q (mapL t l (argF f k) 0) []) := fun q => by
      rw [Val.nodes_eq, slimV_eq]
      simp only [Val.args_mk, Val.ws_mk]
      exact ⟨by omega, by simp, ih.2⟩
    split
    · exact hplain 0
    split
    · exact hplain k
    split
    · exact hplain 0
    have := merge_nodes f.kind 0 (mapL t l (argF f k) 0) w ih.2 (by omega)
    exact ⟨by omega, this.2⟩
theorem mapL_nodes {t : Int → Val} (ht : ∀ x, (t x).nodes ≤ 1 ∧ slimV (t x)) : ∀ (l : List Val) (g : Nat → Fun) (i : Nat), slimL l → Val.nodesL l ≤ 1000000000 → Val.nodesL (mapL t l g i) ≤ Val.nodesL l ∧ slimL (mapL t l g i)
  | [], g, i, hs, hb => by rw [mapL]; exact ⟨Nat.le_refl _, hs⟩
  | v :: r, g, i, hs, hb => by
    rw [slimL] at hs
    rw [Val.nodesL] at hb
    have a := map_nodes ht v (g i) hs.1 (by omega)
    have b := mapL_nodes ht r g (i + 1) hs.2 (by omega)
    rw [mapL, Val.nodesL, Val.nodesL, slimL]
    exact ⟨by omega, a.2, b.2⟩
end
structure MapOk (t : Int → Val) (h : FuncId) (caps : List A) (n : Int) (Q : Mem → Prop) : Prop where
  ev : ∀ x, 0 ≤ x → x < n → ∀ m, Q m → evCall C0 h (.int .i64 x :: caps) m = some (.ret (.agg (t x).cells), m)
  up : ∀ m b r, Q m → Q ⟨m.bx ++ b, m.rw ++ r⟩
  cl : ∀ m, Q m → closed m.bx.length m.rw.length (.fn h caps) = true
  sm : ∀ x, (t x).nodes ≤ 1 ∧ slimV (t x)
def MapAt (t : Int → Val) (h : FuncId) (caps : List A) (n : Int) (Q : Mem → Prop) (v : Val) : Prop :=
  ∀ f, shapedF f = true → okV exL n v f = true → ∀ m, Q m → evCall C0 64 [.agg f.cells, .agg v.cells, .fn h caps] m = some (.ret (.agg (mapV t v f).cells), m)
section
variable {t : Int → Val} {h : FuncId} {caps : List A} {n : Int} {Q : Mem → Prop}
set_option maxHeartbeats 8000000 in
theorem mapped_plain (hM : MapOk t h caps n Q) (v : Val) (H : ∀ u, u ∈ v.args → MapAt t h caps n Q u) (f : Fun) (hf : shapedF f = true) (hok : okV exL n v f = true) (hk : f.kind ≤ 3) (m : Mem) (hQ : Q m) :
    evCall C0 64 [.agg f.cells, .agg v.cells, .fn h caps] m = some (.ret (.agg (mapV t v f).cells), m) := by
  rw [okV_eq, Bool.and_eq_true, Bool.and_eq_true] at hok
  obtain ⟨⟨hh, _⟩, hokl⟩ := hok
  have hq0 : ∀ b, Q ⟨m.bx ++ b, m.rw⟩ := fun b => by have := hM.up m b [] hQ; rwa [List.append_nil] at this
  obtain ⟨hd1, hd2, hd3⟩ := head_num hh
  have hh' := hh
  unfold headL at hh'
  simp only [Bool.and_eq_true] at hh'
  obtain ⟨⟨q1, q2⟩, q3⟩ := hh'
  rw [mapV_eq]
  rw [evCall_body C0 (C0_ext _ (by decide)) (by rw [C0_P]; exact Tryz.func64) rfl (by rw [C0_ann]; rfl) (by decide) (by simp [Tryz.f64])]
  rcases shaped_kind hf with ⟨h0, hl⟩ | ⟨h0, hl⟩ | ⟨h0, hl⟩ | ⟨h0, hl⟩ | ⟨h0, hl⟩ | ⟨h0, hl⟩ | ⟨h0, hl⟩ | ⟨h0, hl⟩
  · simp [h0] at q2
    have he := fun b => hM.ev v.num q2.1 (by omega) _ (hq0 b)
    simp at he
    simp [Tryz.f64, a64, reg64, loop64, draw64, dok64, h0, he]
  · simp [Tryz.f64, a64, reg64, loop64, draw64, dok64, h0]
  · simp [h0, hl] at q1
    have a0 : 0 < v.args.length := by omega
    have a1 : 1 < v.args.length := by omega
    have f0 : 0 < f.args.length := by omega
    have f1 : 1 < f.args.length := by omega
    have g0 : argF f v.num 0 = f.args[0] := by unfold argF; rw [if_pos h0, List.getD_eq_getElem?_getD, List.getElem?_eq_getElem f0]; rfl
    have g1 : argF f v.num 1 = f.args[1] := by unfold argF; rw [if_pos h0, List.getD_eq_getElem?_getD, List.getElem?_eq_getElem f1]; rfl
    have b1 := Fun.at_cellsL f.args 0 f0
    have b2 := Fun.at_cellsL f.args 1 f1
    have b3 := Val.at_cellsL v.args 0 a0
    have b4 := Val.at_cellsL v.args 1 a1
    simp at b1 b2 b3 b4
    have o0 := okL_mem hokl 0 a0
    have o1 := okL_mem hokl 1 a1
    rw [Nat.zero_add] at o0 o1
    rw [g0] at o0
    rw [g1] at o1
    have he0 := fun b => H v.args[0] (List.getElem_mem a0) f.args[0] (shaped_arg hf f0) o0 _ (hq0 b)
    have he1 := fun b => H v.args[1] (List.getElem_mem a1) f.args[1] (shaped_arg hf f1) o1 _ (hq0 b)
    simp at he0 he1
    have hm : mapL t v.args (argF f v.num) 0 = [mapV t v.args[0] f.args[0], mapV t v.args[1] f.args[1]] := by
      have e0 := mapL_drop (t := t) a0 (argF f v.num)
      have e1 := mapL_drop (t := t) a1 (argF f v.num)
      rw [List.drop_zero] at e0
      rw [e0, e1, g0, g1, List.drop_eq_nil_of_le (by omega), mapL]
    have hcl : Val.cellsL [mapV t v.args[0] f.args[0], mapV t v.args[1] f.args[1]] = (mapV t v.args[0] f.args[0]).cells ++ (mapV t v.args[1] f.args[1]).cells := by rw [Val.cellsL, Val.cellsL, Val.cellsL, List.append_nil]
    simp [Tryz.f64, a64, reg64, loop64, draw64, dok64, h0, show v.args.length = 2 by omega, hl, b1, b2, b3, b4, he0, he1, hm, hcl]
  · simp [h0] at q1
    have a0 : 0 < v.args.length := by omega
    have f0 : 0 < f.args.length := by omega
    have f1 : 1 < f.args.length := by omega
    have b1 := Fun.at_cellsL f.args 0 f0
    have b2 := Fun.at_cellsL f.args 1 f1
    have b3 := Val.at_cellsL v.args 0 a0
    simp at b1 b2 b3
    have o0 := okL_mem hokl 0 a0
    rw [Nat.zero_add] at o0
    have e0 := mapL_drop (t := t) a0 (argF f v.num)
    rw [List.drop_zero, List.drop_eq_nil_of_le (by omega), mapL] at e0
    by_cases cn : v.num = 0
    · have g0 : argF f v.num 0 = f.args[0] := by unfold argF; rw [if_neg (by omega), if_pos h0, cn, List.getD_eq_getElem?_getD, List.getElem?_eq_getElem (by simpa using f0)]; rfl
      rw [g0] at o0 e0
      rw [cn] at e0
      have he0 := fun b => H v.args[0] (List.getElem_mem a0) f.args[0] (shaped_arg hf f0) o0 _ (hq0 b)
      simp at he0
      simp [Tryz.f64, a64, reg64, loop64, draw64, dok64, h0, q1.2, hl, b1, b2, b3, he0, e0, cn, Val.cellsL]
    · have cm : v.num = 1 := by omega
      have g0 : argF f v.num 0 = f.args[1] := by unfold argF; rw [if_neg (by omega), if_pos h0, cm, List.getD_eq_getElem?_getD, List.getElem?_eq_getElem (by simpa using f1)]; rfl
      rw [g0] at o0 e0
      rw [cm] at e0
      have he0 := fun b => H v.args[0] (List.getElem_mem a0) f.args[1] (shaped_arg hf f1) o0 _ (hq0 b)
      simp at he0
      simp [Tryz.f64, a64, reg64, loop64, draw64, dok64, h0, q1.2, hl, b1, b2, b3, he0, e0, cm, Val.cellsL]
  all_goals omega
theorem mapL_snoc {t : Int → Val} {l : List Val} {g : Nat → Fun} {i : Nat} (h : i < l.length) {xs : List Val} (hm : mapL t l g 0 = xs ++ mapL t (l.drop i) g i) : mapL t l g 0 = (xs ++ [mapV t l[i] (g i)]) ++ mapL t (l.drop (i + 1)) g (i + 1) := by
  rw [hm, mapL_drop h]
  simp
set_option maxHeartbeats 8000000 in
theorem mapped_many (hM : MapOk t h caps n Q) (v : Val) (hb : v.nodes ≤ 1000000) (hs : slimV v) (H : ∀ u, u ∈ v.args → MapAt t h caps n Q u) (f : Fun) (hf : shapedF f = true) (hok : okV exL n v f = true) (hk : 4 ≤ f.kind) (m : Mem) (hQ : Q m) :
    evCall C0 64 [.agg f.cells, .agg v.cells, .fn h caps] m = some (.ret (.agg (mapV t v f).cells), m) := by
  have hs' := hs
  rw [slimV_eq] at hs'
  rw [okV_eq, Bool.and_eq_true, Bool.and_eq_true] at hok
  obtain ⟨⟨hh, _⟩, hokl⟩ := hok
  have hlen := v.length_args
  obtain ⟨hd1, hd2, hd3⟩ := head_num hh
  have hfl : f.args.length = 1 := by have := shaped_kind hf; omega
  have hk7 : f.kind ≤ 7 := by have := shaped_kind hf; omega
  have f0 : 0 < f.args.length := by omega
  have b1 := Fun.at_cellsL f.args 0 f0
  simp at b1
  have hg : ∀ j, argF f v.num j = f.args[0] := fun j => by
    unfold argF
    rw [if_neg (by omega), if_neg (by omega), List.getD_eq_getElem?_getD, List.getElem?_eq_getElem f0]
    rfl
  have k4 : ¬ f.kind = 0 ∧ ¬ f.kind = 1 ∧ ¬ f.kind = 2 ∧ ¬ f.kind = 3 := by omega
  have hfin := hM.cl m hQ
  have hcl : ∀ b r, closed (m.bx.length + b) (m.rw.length + r) (.fn h caps) = true := fun b r => closed_mono (by omega) (by omega) _ hfin
  have hcl0 : ∀ b, closed (m.bx.length + b) m.rw.length (.fn h caps) = true := fun b => closed_mono (by omega) (by omega) _ hfin
  have hmn := mapL_nodes hM.sm v.args (argF f v.num) 0 hs'.2 (by have := v.nodes_eq; omega)
  have hml := mapL_length t v.args (argF f v.num) 0
  have hvn := v.nodes_eq
  rw [mapV_eq, if_neg k4.1, if_neg k4.2.1, if_neg k4.2.2.1, if_neg k4.2.2.2]
  rw [evCall_body C0 (C0_ext _ (by decide)) (by rw [C0_P]; exact Tryz.func64) rfl (by rw [C0_ann]; rfl) (by decide) (by simp [Tryz.f64])]
  simp [Tryz.f64, a64, reg64, loop64, draw64, dok64, k4]
  refine loop_in (fun x : Nat × List Val => ⟨[(2, .fn h caps), (3, .ptr m.bx.length 0), (4, .ptr (m.bx.length + 1) 0), (6, .ptr (m.bx.length + 2) 0), (7, .ptr (m.bx.length + 3) 0), (66, .isl false v.args.length (Val.cellsL v.args)), (67, .int .i64 v.args.length), (68, .int .i64 x.1)],
      ⟨m.bx ++ [f.cells, v.cells, [.int .i64 0, .nils, .nils], [.int .i64 0, xA m.rw.length x.2, .nils]], m.rw ++ xR x.2⟩⟩)
    (fun x => some (.ret (.agg (if f.kind = 4 then Val.mk 0 (mapL t v.args (argF f v.num) 0) [] else mergeV f.kind 0 (mapL t v.args (argF f v.num) 0) v.ws).cells), m)) (fun x => v.args.length - x.1)
    (fun x => x.1 ≤ v.args.length ∧ x.2.length = x.1 ∧ mapL t v.args (argF f v.num) 0 = x.2 ++ mapL t (v.args.drop x.1) (argF f v.num) x.1) (0, []) ?_ ?_ ?_ ?_ ?_
  · simp [xA, xR]
  · simp
  · simp
  · intro x; simp [Tryz.f64, a64, reg64, loop64, draw64, dok64]
  · rintro ⟨i, xs⟩ ⟨hi, hxl, hml2⟩ hrec
    simp only at hi hxl hml2 ⊢
    by_cases hlt : i < v.args.length
    · have w2 : IntKind.i64.wrap (i + 1) = i + 1 := wrap_id _ (by omega)
      have h3 : (i + 1) * 3 ≤ v.args.length * 3 := by omega
      have o0 := okL_mem hokl i hlt
      rw [Nat.zero_add, hg] at o0
      have hnx := mapL_snoc hlt hml2
      rw [hg] at hnx
      have he := fun (b : List (List A)) (r : List Row) => H v.args[i] (List.getElem_mem hlt) f.args[0] (shaped_arg hf f0) o0 _ (hM.up m b r hQ)
      have he0 := fun (b : List (List A)) => H v.args[i] (List.getElem_mem hlt) f.args[0] (shaped_arg hf f0) o0 ⟨m.bx ++ b, m.rw⟩ (by have := hM.up m b [] hQ; rwa [List.append_nil] at this)
      simp at he he0
      cases xs with
      | nil =>
        have hi0 : i = 0 := by simpa using hxl.symm
        subst hi0
        have b3 := Val.at_cellsL v.args 0 hlt
        simp at b3
        simp [round, Tryz.f64, a64, reg64, loop64, draw64, dok64, hlt, w2, h3, hfl, show 3 ≤ v.args.length * 3 by omega, b1, b3, he, he0, xA, xR, app_at, app_set, endRound_R0, hcl, hcl0]
        refine hrec (1, [mapV t v.args[0] f.args[0]]) _ _ ?_ ?_ ?_ ?_
        · simp; omega
        · exact ⟨by simp only; omega, rfl, by rw [hnx]; rfl⟩
        · simp [xA, xR, Val.cellsL, hfl]
        · simp
      | cons a r =>
        have hr : r.length + 1 = i := by simpa using hxl
        simp [round, Tryz.f64, a64, reg64, loop64, draw64, dok64, hlt, w2, h3, hfl, b1, he, he0, xA, xR, app_at, app_set, endRound_J, hcl, hcl0, show (r.length + 1 + 1) * 56 ≤ 70368744177664 by omega, show r.length + 1 + 1 ≤ 70368744177664 by omega]
        refine hrec (i + 1, a :: r ++ [mapV t v.args[i] f.args[0]]) _ _ ?_ ?_ ?_ ?_
        · simp; omega
        · exact ⟨by simp only; omega, by simp; omega, by rw [hnx]⟩
        · simp [xA, xR, Val.cellsL, Val.cellsL_append, hfl]
        · simp
    · clear hrec
      have hie : i = v.args.length := by omega
      subst hie
      rw [List.drop_eq_nil_of_le (Nat.le_refl _), mapL, List.append_nil] at hml2
      rw [hml2] at hmn hml ⊢
      by_cases h4 : f.kind = 4
      · by_cases hx0 : xs.length = 0
        · have hxe : xs = [] := List.eq_nil_of_length_eq_zero hx0
          subst hxe
          simp [round, Tryz.f64, a64, reg64, loop64, draw64, dok64, h4, xA, xR]
        · have hxe : ¬ xs = [] := fun h => hx0 (by rw [h]; rfl)
          have hall : List.take (xs.length * 3) (Val.cellsL xs) = Val.cellsL xs := List.take_of_length_le (by simp)
          simp [round, Tryz.f64, a64, reg64, loop64, draw64, dok64, h4, xA, xR, hx0, hxe, hall]
      · have hset : setsK f.kind = true := by unfold setsK wtd; simp; omega
        have hss := (head_sets hset).1 hh
        have hwk3 : wtd f.kind = true → v.ws.length = xs.length ∧ (∀ w, w ∈ v.ws → 1 ≤ w) ∧ v.ws.sum ≤ 1048576 := fun h => by
          rw [if_pos h] at hss
          have h2 := (weighI_iff v.ws 0 (by omega)).1 hss.2.1
          exact ⟨by omega, h2.1, by omega⟩
        by_cases hx0 : xs.length = 0
        · have hxe : xs = [] := List.eq_nil_of_length_eq_zero hx0
          subst hxe
          have hwe : v.ws = [] := by
            cases h : wtd f.kind
            · exact hd2 h
            · exact List.eq_nil_of_length_eq_zero (by rw [(hwk3 h).1]; rfl)
          have h7 : f.kind ≠ 7 := fun h => by
            have hw7 : wtd f.kind = true := by rw [h]; rfl
            rw [if_pos hw7] at hss
            have := hss.2.2.2
            have h8 := hml
            simp at h8
            omega
          have he0 := ev_vMerged0 f hset h7
          simp at he0
          have hmv : mergeV f.kind 0 [] v.ws = .mk 0 [] [] := by
            unfold mergeV mergeP
            rw [hwe]
            have h56 : f.kind = 5 ∨ f.kind = 6 := by omega
            rcases h56 with h | h <;> rw [h] <;> rfl
          simp [hmv, h4]
          simp [round, Tryz.f64, a64, reg64, loop64, draw64, dok64, h4, xA, xR, he0, hwe]
        · have hxe : ¬ xs = [] := fun h => hx0 (by rw [h]; rfl)
          have he := ev_vMerged f xs v.ws m.rw.length (by omega) hset (fun x hx => ⟨by have := Val.nodes_mem hx; omega, slimL_mem hmn.2 hx⟩) (by omega) hwk3 ⟨m.bx ++ [f.cells, v.cells, [.int .i64 0, .nils, .nils], [.int .i64 0, .sl m.rw.length (xs.length * 3) 0 xs.length, .isl false v.ws.length (ints v.ws)]], m.rw ++ xR xs⟩ (by simp [xR, hxe])
          simp at he
          simp [round, Tryz.f64, a64, reg64, loop64, draw64, dok64, h4, xA, hxe, he]
theorem ev_Mapped (hM : MapOk t h caps n Q) (N : Nat) : ∀ (v : Val), v.nodes ≤ N → v.nodes ≤ 1000000 → slimV v → MapAt t h caps n Q v := by
  induction N with
  | zero => intro v hN; have := v.nodes_pos; omega
  | succ N ih =>
  intro v hN hb hs f hf hok m hQ
  have hs' := (slimV_eq v ▸ hs).2
  have H : ∀ u, u ∈ v.args → MapAt t h caps n Q u := fun u hu => ih u (by have := Val.nodes_arg hu; omega) (by have := Val.nodes_arg hu; omega) (slimL_mem hs' hu)
  by_cases hk : f.kind ≤ 3
  · exact mapped_plain hM v H f hf hok hk m hQ
  · exact mapped_many hM v hb hs H f hf hok (by omega) m hQ
end
theorem endRound_SJ {l : List Nat} {M L L' : List (List A)} {k : Nat} {x x' : List A} {R J J' : List Row} {tm : List (Nat × A)} (hJ : J'.all (fun r => r.cs.all (closed 0 0)) = true) (hx : x'.all (closed (M.length + L.length) (R.length + J'.length)) = true) (hL : L.length ≤ L'.length) (hl : l.all (fun t => closed (M.length + L.length) (R.length + J'.length) (lk t tm)) = true) (hc : (L'.take L.length).all (fun cs => cs.all (closed (M.length + L.length) (R.length + J'.length))) = true) :
    endRound (some l) ⟨M.set k x ++ L, R ++ J⟩ ⟨tm, ⟨M.set k x' ++ L', R ++ J'⟩⟩ = some ⟨prune (some l) tm, ⟨M.set k x' ++ L'.take L.length, R ++ J'⟩⟩ := by
  refine endRound_eq (B := M.set k x' ++ L'.take L.length) (J := L'.drop L.length) (by simp) (by simp; omega) (by simpa using List.all_eq_true.1 hl) (fun i hi => ?_) (fun i hi => ?_)
  · simp only [List.length_append, List.length_set] at hi ⊢
    by_cases h : i < M.length
    · rw [List.getElem?_append_left (by simpa using h), List.getElem?_append_left (by simpa using h)]
      by_cases hk : k = i
      · subst hk; right; exact ⟨x', by simp [h], hx⟩
      · left; simp [hk]
    · right
      have := all_take (B := M.set k x') hc (by simpa using h) (by simpa using hi) hL
      simpa using this
  · by_cases h : i < R.length
    · left; rw [List.getElem?_append_left h, List.getElem?_append_left h]
    · right
      have hi' : i < (R ++ J').length := hi
      simp only [List.length_append] at hi
      refine ⟨(R ++ J')[i], List.getElem?_eq_getElem hi', ?_⟩
      rw [List.getElem_append_right (by omega)]
      exact closed_up (List.all_eq_true.1 hJ _ (List.getElem_mem (l := J') (n := i - R.length) (by omega)))
theorem endRound_SJ0 {l : List Nat} {M L L' : List (List A)} {k : Nat} {x x' : List A} {R J' : List Row} {tm : List (Nat × A)} (hJ : J'.all (fun r => r.cs.all (closed 0 0)) = true) (hx : x'.all (closed (M.length + L.length) (R.length + J'.length)) = true) (hL : L.length ≤ L'.length) (hl : l.all (fun t => closed (M.length + L.length) (R.length + J'.length) (lk t tm)) = true) (hc : (L'.take L.length).all (fun cs => cs.all (closed (M.length + L.length) (R.length + J'.length))) = true) :
    endRound (some l) ⟨M.set k x ++ L, R⟩ ⟨tm, ⟨M.set k x' ++ L', R ++ J'⟩⟩ = some ⟨prune (some l) tm, ⟨M.set k x' ++ L'.take L.length, R ++ J'⟩⟩ := by
  have := endRound_SJ (J := []) (x := x) (k := k) hJ hx hL hl hc
  simpa using this
def resV (x : PRV) : Res := match x.1 with
  | some v => .ret (.agg v.cells)
  | none => .pan wrongV
@[simp] theorem resV_some (v : Val) (t : List UInt8) : resV (some v, t) = .ret (.agg v.cells) := rfl
@[simp] theorem resV_none (t : List UInt8) : resV (none, t) = .pan wrongV := rfl
def lvR (w : Bool) (a : List Val) (ws : List Int) : List Row := if a.length = 0 then [] else if w then [⟨28, Val.cellsL a⟩, ⟨3, ints ws⟩] else [⟨28, Val.cellsL a⟩]
def lvW (w : Bool) (n : Nat) (a : List Val) (ws : List Int) : A := if a.length = 0 ∨ w = false then .nils else .sl (n + 1) ws.length 0 ws.length
def ValOk (id : Nat) (f : Fun) (val : List UInt8 → PRV) : Prop := ∀ s (m : Mem), Sm s → m.bx[id]? = some [.str s] → evCall C0 74 [.ptr id 0, .agg f.cells] m = some (resV (val s), ⟨m.bx.set id [.str (val s).2], m.rw⟩)
structure LvS where
  n : Nat
  a : List Val
  ws : List Int
  s : List UInt8
set_option maxHeartbeats 16000000 in
theorem ev_vlist (id : Nat) (f : Fun) (val : List UInt8 → PRV) (hsuf : ∀ s, (val s).2 <:+ s) (hval : ValOk id f val) (hcost : ∀ s v t, Sm s → val s = (some v, t) → t.length < s.length) (e : UInt8) (he0 : e ≠ 0) (w : Bool) (s : List UInt8) (hs : Sm s) (m : Mem) (hbx : m.bx[id]? = some [.str s]) :
    evCall C0 96 [.ptr id 0, .agg f.cells, .int .u8 e.toNat, .bool w] m = some (resV (listV val e w (s.length + 1) [] [] s), ⟨m.bx.set id [.str (listV val e w (s.length + 1) [] [] s).2], m.rw⟩) := by
  have hid : id < m.bx.length := (List.getElem?_eq_some_iff.1 hbx).1
  have hg : m.bx[id] = [.str s] := (List.getElem?_eq_some_iff.1 hbx).2
  have hset : m.bx.set id [.str s] = m.bx := by rw [← hg]; exact List.set_getElem_self hid
  have hidk : ∀ k, id < m.bx.length + k := fun k => by omega
  rw [evCall_body C0 (C0_ext _ (by decide)) (by rw [C0_P]; exact Tryz.func96) rfl (by rw [C0_ann]; rfl) (by decide) (by simp [Tryz.f96])]
  simp [Tryz.f96, a96, reg96, loop96, draw96, dok96]
  refine loop_in (fun x : LvS => ⟨[(0, .ptr id 0), (2, .int .u8 e.toNat), (3, .bool w), (5, .ptr m.bx.length 0), (8, .ptr (m.bx.length + 1) 0), (9, .ptr (m.bx.length + 2) 0)],
      ⟨m.bx.set id [.str x.s] ++ [f.cells, [.int .i64 0, .nils, .nils], [.int .i64 0, xA m.rw.length x.a, lvW w m.rw.length x.a x.ws]], m.rw ++ lvR w x.a x.ws⟩⟩)
    (fun x => some (resV (listV val e w x.n x.a x.ws x.s), ⟨m.bx.set id [.str (listV val e w x.n x.a x.ws x.s).2], m.rw⟩)) (fun x => x.s.length)
    (fun x => Sm x.s ∧ x.s.length < x.n ∧ x.a.length + x.s.length ≤ 1000000 ∧ (w = true → x.ws.length = x.a.length) ∧ (w = false → x.ws = [])) ⟨s.length + 1, [], [], s⟩ ?_ ?_ ?_ ?_ ?_
  · simp [xA, lvW, lvR, hset]
  · rfl
  · simp [hs]; exact hs
  · intro x; simp [Tryz.f96, a96, reg96, loop96, draw96, dok96]
  · rintro ⟨n, a, ws, t⟩ ⟨ht, hn, hal, hwt, hwf⟩ hrec
    simp only at ht hn hal hwt hwf ⊢
    obtain ⟨n, rfl⟩ : ∃ k, n = k + 1 := ⟨n - 1, by omega⟩
    have ht1 : Sm (isC e t).2 := ht.suffix (isC_suffix e t)
    have ht1l := (isC_suffix e t).length_le
    rw [listV]
    cases a with
    | nil =>
      have hws : ws = [] := by
        cases w
        · exact hwf rfl
        · exact List.eq_nil_of_length_eq_zero (hwt rfl)
      subst hws
      have e1 := ev_vis id e he0 t ⟨m.bx.set id [.str t] ++ [f.cells, [.int .i64 0, .nils, .nils], [.int .i64 0, .nils, .nils]], m.rw⟩ (by simp [at_lt, hid])
      cases hc : (isC e t).1 with
      | true =>
        clear hrec
        simp [set_lt, hid, hc] at e1
        simp [round, Tryz.f96, a96, reg96, loop96, draw96, dok96, hid, hidk, at_lt, set_lt, app_at, app_set, app_at0, app_set0, leave_set, leave_setb, xA, lvW, lvR, e1]
      | false =>
      have e2 := hval (isC e t).2 ⟨m.bx.set id [.str (isC e t).2] ++ [f.cells, [.int .i64 0, .nils, .nils], [.int .i64 0, .nils, .nils]], m.rw⟩ ht1 (by simp [at_lt, hid])
      have hvs := hsuf (isC e t).2
      have hvc := hcost (isC e t).2
      simp [set_lt, hid, hc] at e1
      simp only [Bool.false_eq_true, if_false, List.length_nil, ne_eq, not_true_eq_false, false_and, if_true]
      cases hv : val (isC e t).2 with
      | mk o u =>
      rw [hv] at e2 hvs
      have hu := ht1.suffix hvs
      have hul := hvs.length_le
      simp only at hu hul
      cases o with
      | none =>
        clear hrec
        simp [set_lt, hid] at e2
        simp [round, Tryz.f96, a96, reg96, loop96, draw96, dok96, hid, hidk, at_lt, set_lt, app_at, app_set, app_at0, app_set0, leave_set, leave_setb, xA, lvW, lvR, e1, e2, bindV, afterP, maskTm]
        try simp [wrongV]
      | some x =>
      have hult := hvc x u ht1 hv
      simp at hal
      simp [set_lt, hid] at e2
      cases w with
      | false =>
        simp [round, Tryz.f96, a96, reg96, loop96, draw96, dok96, hid, hidk, at_lt, set_lt, app_at, app_set, app_at0, app_set0, leave_set, leave_setb, xA, lvW, lvR, e1, e2, bindV, endRound_SJ, endRound_SJ0]
        refine hrec ⟨n, [x], [], u⟩ _ _ ?_ ?_ ?_ ?_
        · simp only; omega
        · exact ⟨hu, by simp only; omega, by simp; omega, (fun h => by cases h), fun _ => rfl⟩
        · simp [xA, lvW, lvR, Val.cellsL, Val.cellsL_append]
        · simp
      | true =>
        have e3 := ev_vtake id 58 (by decide) u ⟨m.bx.set id [.str u] ++ [f.cells, [.int .i64 0, .nils, .nils], [.int .i64 0, .sl m.rw.length 3 0 1, .nils]], m.rw ++ [⟨28, x.cells⟩]⟩ (by simp [at_lt, hid])
        have hu2 : Sm (isC 58 u).2 := hu.suffix (isC_suffix 58 u)
        have hu2l := (isC_suffix 58 u).length_le
        cases h58 : (isC 58 u).1 with
        | false =>
          clear hrec
          simp [set_lt, hid, h58] at e3
          simp [round, Tryz.f96, a96, reg96, loop96, draw96, dok96, hid, hidk, at_lt, set_lt, app_at, app_set, app_at0, app_set0, leave_set, leave_setb, xA, lvW, lvR, e1, e2, e3, bindV, takeC, h58, afterP, maskTm]
          try simp [wrongV]
        | true =>
        have e4 := ev_vnumber id (isC 58 u).2 hu2 ⟨m.bx.set id [.str (isC 58 u).2] ++ [f.cells, [.int .i64 0, .nils, .nils], [.int .i64 0, .sl m.rw.length 3 0 1, .nils]], m.rw ++ [⟨28, x.cells⟩]⟩ (by simp [at_lt, hid])
        have hql := (pNum_suffix (isC 58 u).2).length_le
        have hqs := hu2.suffix (pNum_suffix (isC 58 u).2)
        simp [set_lt, hid, h58] at e3
        cases hp : pNum (isC 58 u).2 with
        | mk o2 q =>
        rw [hp] at e4 hql hqs
        simp only at hql hqs
        cases o2 with
        | none =>
          clear hrec
          simp [set_lt, hid] at e4
          simp [round, Tryz.f96, a96, reg96, loop96, draw96, dok96, hid, hidk, at_lt, set_lt, app_at, app_set, app_at0, app_set0, leave_set, leave_setb, xA, lvW, lvR, e1, e2, e3, e4, bindV, takeC, bindN, h58, hp, afterP, maskTm]
          try simp [wrongV]
        | some k =>
          simp [set_lt, hid] at e4
          simp [round, Tryz.f96, a96, reg96, loop96, draw96, dok96, hid, hidk, at_lt, set_lt, app_at, app_set, app_at0, app_set0, leave_set, leave_setb, xA, lvW, lvR, e1, e2, e3, e4, bindV, takeC, bindN, h58, hp, endRound_SJ, endRound_SJ0]
          refine hrec ⟨n, [x], [k], q⟩ _ _ ?_ ?_ ?_ ?_
          · simp only; omega
          · exact ⟨hqs, by simp only; omega, by simp; omega, fun _ => by simp, (fun h => by cases h)⟩
          · simp [xA, lvW, lvR, Val.cellsL, Val.cellsL_append, ints_append, ints]
          · simp
    | cons b r =>
      simp at hal
      have hsz : (r.length + 1 + 1) * 56 ≤ 70368744177664 ∧ r.length + 1 + 1 ≤ 70368744177664 ∧ (r.length + 1 + 1) * 8 ≤ 70368744177664 := by omega
      have e1 := ev_vis id e he0 t ⟨m.bx.set id [.str t] ++ [f.cells, [.int .i64 0, .nils, .nils], [.int .i64 0, xA m.rw.length (b :: r), lvW w m.rw.length (b :: r) ws]], m.rw ++ lvR w (b :: r) ws⟩ (by simp [at_lt, hid])
      cases hc : (isC e t).1 with
      | true =>
        clear hrec
        have hall : List.take ((r.length + 1) * 3) (Val.cellsL (b :: r)) = Val.cellsL (b :: r) := List.take_of_length_le (by simp)
        have hallw : List.take ws.length (ints ws) = ints ws := take_ints ws
        cases w with
        | false =>
          have hwe : ws = [] := hwf rfl
          subst hwe
          simp [set_lt, hid, hc, xA, lvW, lvR] at e1
          simp [round, Tryz.f96, a96, reg96, loop96, draw96, dok96, hid, hidk, at_lt, set_lt, app_at, app_set, app_at0, app_set0, leave_set, leave_setb, xA, lvW, lvR, e1, hall]
        | true =>
          have hwl : ws.length = r.length + 1 := by simpa using hwt rfl
          simp [set_lt, hid, hc, xA, lvW, lvR] at e1
          simp [round, Tryz.f96, a96, reg96, loop96, draw96, dok96, hid, hidk, at_lt, set_lt, app_at, app_set, app_at0, app_set0, leave_set, leave_setb, xA, lvW, lvR, e1, hall]
      | false =>
      have e0 := ev_vtake id 44 (by decide) (isC e t).2 ⟨m.bx.set id [.str (isC e t).2] ++ [f.cells, [.int .i64 0, .nils, .nils], [.int .i64 0, xA m.rw.length (b :: r), lvW w m.rw.length (b :: r) ws]], m.rw ++ lvR w (b :: r) ws⟩ (by simp [at_lt, hid])
      have ht2 : Sm (isC 44 (isC e t).2).2 := ht1.suffix (isC_suffix 44 _)
      have ht2l := (isC_suffix 44 (isC e t).2).length_le
      cases h44 : (isC 44 (isC e t).2).1 with
      | false =>
        clear hrec
        cases w with
        | false =>
          have hwe : ws = [] := hwf rfl
          subst hwe
          simp [set_lt, hid, hc, h44, xA, lvW, lvR] at e0 e1
          simp [round, Tryz.f96, a96, reg96, loop96, draw96, dok96, hid, hidk, at_lt, set_lt, app_at, app_set, app_at0, app_set0, leave_set, leave_setb, xA, lvW, lvR, e0, e1]
          try simp [wrongV]
        | true =>
          simp [set_lt, hid, hc, h44, xA, lvW, lvR] at e0 e1
          simp [round, Tryz.f96, a96, reg96, loop96, draw96, dok96, hid, hidk, at_lt, set_lt, app_at, app_set, app_at0, app_set0, leave_set, leave_setb, xA, lvW, lvR, e0, e1]
          try simp [wrongV]
      | true =>
      have e2 := hval (isC 44 (isC e t).2).2 ⟨m.bx.set id [.str (isC 44 (isC e t).2).2] ++ [f.cells, [.int .i64 0, .nils, .nils], [.int .i64 0, xA m.rw.length (b :: r), lvW w m.rw.length (b :: r) ws]], m.rw ++ lvR w (b :: r) ws⟩ ht2 (by simp [at_lt, hid])
      have hvs := hsuf (isC 44 (isC e t).2).2
      have hvc := hcost (isC 44 (isC e t).2).2
      simp only [Bool.false_eq_true, if_false, List.length_cons, Nat.succ_ne_zero, ne_eq, not_false_eq_true, true_and, reduceCtorEq]
      cases hv : val (isC 44 (isC e t).2).2 with
      | mk o u =>
      rw [hv] at e2 hvs
      have hu := ht2.suffix hvs
      have hul := hvs.length_le
      simp only at hu hul
      cases o with
      | none =>
        clear hrec
        cases w with
        | false =>
          have hwe : ws = [] := hwf rfl
          subst hwe
          simp [set_lt, hid, hc, h44, xA, lvW, lvR] at e0 e1 e2
          simp [round, Tryz.f96, a96, reg96, loop96, draw96, dok96, hid, hidk, at_lt, set_lt, app_at, app_set, app_at0, app_set0, leave_set, leave_setb, xA, lvW, lvR, e0, e1, e2, bindV, afterP, maskTm]
          try simp [wrongV]
        | true =>
          simp [set_lt, hid, hc, h44, xA, lvW, lvR] at e0 e1 e2
          simp [round, Tryz.f96, a96, reg96, loop96, draw96, dok96, hid, hidk, at_lt, set_lt, app_at, app_set, app_at0, app_set0, leave_set, leave_setb, xA, lvW, lvR, e0, e1, e2, bindV, afterP, maskTm]
          try simp [wrongV]
      | some x =>
      have hult := hvc x u ht2 hv
      cases w with
      | false =>
        have hwe : ws = [] := hwf rfl
        subst hwe
        simp [set_lt, hid, hc, h44, xA, lvW, lvR] at e0 e1 e2
        simp [round, Tryz.f96, a96, reg96, loop96, draw96, dok96, hid, hidk, at_lt, set_lt, app_at, app_set, app_at0, app_set0, leave_set, leave_setb, xA, lvW, lvR, e0, e1, e2, bindV, endRound_SJ, endRound_SJ0, hsz]
        refine hrec ⟨n, b :: r ++ [x], [], u⟩ _ _ ?_ ?_ ?_ ?_
        · simp only; omega
        · exact ⟨hu, by simp only; omega, by simp; omega, (fun h => by cases h), fun _ => rfl⟩
        · simp [xA, lvW, lvR, Val.cellsL, Val.cellsL_append]
        · simp
      | true =>
        simp [set_lt, hid, hc, h44, xA, lvW, lvR] at e0 e1 e2
        have hwl : ws.length = r.length + 1 := by simpa using hwt rfl
        have hszw : (ws.length + 1) * 8 ≤ 70368744177664 ∧ ws.length + 1 ≤ 70368744177664 := by omega
        have e3 := ev_vtake id 58 (by decide) u ⟨m.bx.set id [.str u] ++ [f.cells, [.int .i64 0, .nils, .nils], [.int .i64 0, .sl m.rw.length ((r.length + 1 + 1) * 3) 0 (r.length + 1 + 1), .sl (m.rw.length + 1) ws.length 0 ws.length]], m.rw ++ [⟨28, Val.cellsL (b :: r) ++ x.cells⟩, ⟨3, ints ws⟩]⟩ (by simp [at_lt, hid])
        have hu2 : Sm (isC 58 u).2 := hu.suffix (isC_suffix 58 u)
        have hu2l := (isC_suffix 58 u).length_le
        cases h58 : (isC 58 u).1 with
        | false =>
          clear hrec
          simp [set_lt, hid, h58] at e3
          simp [round, Tryz.f96, a96, reg96, loop96, draw96, dok96, hid, hidk, at_lt, set_lt, app_at, app_set, app_at0, app_set0, leave_set, leave_setb, xA, lvW, lvR, e0, e1, e2, e3, bindV, takeC, h58, afterP, maskTm, hsz]
          try simp [wrongV]
        | true =>
        have e4 := ev_vnumber id (isC 58 u).2 hu2 ⟨m.bx.set id [.str (isC 58 u).2] ++ [f.cells, [.int .i64 0, .nils, .nils], [.int .i64 0, .sl m.rw.length ((r.length + 1 + 1) * 3) 0 (r.length + 1 + 1), .sl (m.rw.length + 1) ws.length 0 ws.length]], m.rw ++ [⟨28, Val.cellsL (b :: r) ++ x.cells⟩, ⟨3, ints ws⟩]⟩ (by simp [at_lt, hid])
        have hql := (pNum_suffix (isC 58 u).2).length_le
        have hqs := hu2.suffix (pNum_suffix (isC 58 u).2)
        simp [set_lt, hid, h58] at e3
        cases hp : pNum (isC 58 u).2 with
        | mk o2 q =>
        rw [hp] at e4 hql hqs
        simp only at hql hqs
        cases o2 with
        | none =>
          clear hrec
          simp [set_lt, hid] at e4
          simp [round, Tryz.f96, a96, reg96, loop96, draw96, dok96, hid, hidk, at_lt, set_lt, app_at, app_set, app_at0, app_set0, leave_set, leave_setb, xA, lvW, lvR, e0, e1, e2, e3, e4, bindV, takeC, bindN, h58, hp, afterP, maskTm, hsz]
          try simp [wrongV]
        | some k =>
          simp [set_lt, hid] at e4
          simp [round, Tryz.f96, a96, reg96, loop96, draw96, dok96, hid, hidk, at_lt, set_lt, app_at, app_set, app_at0, app_set0, leave_set, leave_setb, xA, lvW, lvR, e0, e1, e2, e3, e4, bindV, takeC, bindN, h58, hp, endRound_SJ, endRound_SJ0, hsz, hszw, flat_mem_ints]
          refine hrec ⟨n, b :: r ++ [x], ws ++ [k], q⟩ _ _ ?_ ?_ ?_ ?_
          · simp only; omega
          · exact ⟨hqs, by simp only; omega, by simp; omega, fun _ => by simp [hwl], (fun h => by cases h)⟩
          · simp [xA, lvW, lvR, Val.cellsL, Val.cellsL_append, ints_append, ints, hwl]
          · simp
end AE
end Go.Proofs.YthoomlenmgdebaaGreatDoor
