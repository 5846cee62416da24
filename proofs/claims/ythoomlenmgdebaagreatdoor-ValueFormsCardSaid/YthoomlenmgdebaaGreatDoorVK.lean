/- The reference's merging of elements; evaluated. -/
import Derived.Test.YthoomlenmgdebaaGreatDoorVI
set_option linter.unusedVariables false
set_option linter.unusedSimpArgs false
namespace Go.Proofs.YthoomlenmgdebaaGreatDoor
namespace AE
open Go

/-- Where the elements lie. -/
def mgA (id : Nat) (o : List (Val × Int)) : A := if o.length = 0 then .nils else .sl id (o.length * 3) 0 o.length
def mgW (k : Int) (id : Nat) (o : List (Val × Int)) : A := if wtd k = false ∨ o.length = 0 then .nils else .sl id o.length 0 o.length
structure MgS where
  i : Nat
  o : List (Val × Int)
  J : List Row
  ja : Nat
  jw : Nat
structure MgOk (k : Int) (nr : Nat) (s : MgS) : Prop where
  cl : s.J.all (fun r => r.cs.all (closed 0 0)) = true
  ra : 0 < s.o.length → s.J[s.ja]? = some ⟨28, Val.cellsL (s.o.map (·.1))⟩
  rw : 0 < s.o.length → wtd k = true → s.J[s.jw]? = some ⟨3, ints (s.o.map (·.2))⟩ ∧ s.ja ≠ s.jw
  ps : wtd k = true → ∀ p, p ∈ s.o → 1 ≤ p.2
theorem app_at {α : Type} (R J : List α) (j : Nat) : (R ++ J)[R.length + j]? = J[j]? := by
  rw [List.getElem?_append_right (by omega), Nat.add_sub_cancel_left]
theorem app_set {α : Type} (R J : List α) (j : Nat) (x : α) : (R ++ J).set (R.length + j) x = R ++ J.set j x := by
  rw [List.set_append_right _ _ (by omega), Nat.add_sub_cancel_left]
theorem take_cellsL (l : List Val) (a : Nat) (h : a ≤ l.length) : (Val.cellsL l).take (a * 3) = Val.cellsL (l.take a) := by
  have h1 : (Val.cellsL (l.take a)).length = a * 3 := by rw [Val.cellsL_length, List.length_take, Nat.min_eq_left h]
  have h2 : Val.cellsL l = Val.cellsL (l.take a) ++ Val.cellsL (l.drop a) := by rw [← Val.cellsL_append, List.take_append_drop]
  rw [h2, ← h1, List.take_left]
theorem drop_cellsL (l : List Val) (a : Nat) (h : a ≤ l.length) : (Val.cellsL l).drop (a * 3) = Val.cellsL (l.drop a) := by
  have h1 : (Val.cellsL (l.take a)).length = a * 3 := by rw [Val.cellsL_length, List.length_take, Nat.min_eq_left h]
  have h2 : Val.cellsL l = Val.cellsL (l.take a) ++ Val.cellsL (l.drop a) := by rw [← Val.cellsL_append, List.take_append_drop]
  rw [h2, ← h1, List.drop_left]
theorem cells_ins (o : List (Val × Int)) (a : Nat) (u : Val) (w : Int) (h : a ≤ o.length) : (Val.cellsL (o.map (·.1))).take (a * 3) ++ (u.cells ++ (Val.cellsL (o.map (·.1))).drop (a * 3)) = Val.cellsL ((o.take a ++ (u, w) :: o.drop a).map (·.1)) := by
  rw [take_cellsL _ _ (by simpa using h), drop_cellsL _ _ (by simpa using h), List.map_append, Val.cellsL_append, List.map_cons, Val.cellsL, List.map_take, List.map_drop]
theorem all_set {p : Row → Bool} {J : List Row} (h : J.all p = true) (i : Nat) (r : Row) (hr : p r = true) : (J.set i r).all p = true := by
  rw [List.all_eq_true] at h ⊢
  intro x hx
  rcases List.mem_or_eq_of_mem_set hx with h1 | h1
  · exact h x h1
  · rw [h1]; exact hr
theorem sum_pos : ∀ {o : List (Val × Int)}, (∀ p, p ∈ o → 1 ≤ p.2) → 0 ≤ (o.map (·.2)).sum
  | [], _ => by simp
  | p :: r, h => by
    have := sum_pos fun q hq => h q (List.mem_cons_of_mem _ hq)
    have := h p List.mem_cons_self
    simp
    omega
theorem mem_sum : ∀ {o : List (Val × Int)} {q : Val × Int}, (∀ p, p ∈ o → 1 ≤ p.2) → q ∈ o → q.2 ≤ (o.map (·.2)).sum
  | p :: r, q, h, hq => by
    have h1 := sum_pos fun q hq => h q (List.mem_cons_of_mem p hq)
    have h2 := h p List.mem_cons_self
    simp only [List.map_cons, List.sum_cons]
    rcases List.mem_cons.1 hq with rfl | hq
    · omega
    · have := mem_sum (fun q hq => h q (List.mem_cons_of_mem p hq)) hq
      omega
theorem int_sum_pos : ∀ {o : List Int}, (∀ p, p ∈ o → 1 ≤ p) → 0 ≤ o.sum
  | [], _ => by simp
  | p :: r, h => by
    have := int_sum_pos fun q hq => h q (List.mem_cons_of_mem _ hq)
    have := h p List.mem_cons_self
    simp
    omega
theorem merge_bounds {k : Int} {v : Val} {o : List (Val × Int)} {i : Nat} (hk : wtd k = true) (hw : wtd k = true → v.ws.length = v.args.length ∧ (∀ w, w ∈ v.ws → 1 ≤ w) ∧ v.ws.sum ≤ 1048576) (hmg : mergeF o ((v.args.zip (wsOf k v.args v.ws)).drop i) = mergeP k v.args v.ws) (hlt : i < v.args.length) (hps : ∀ p, p ∈ o → 1 ≤ p.2) :
    ∃ h : i < v.ws.length, (wsOf k v.args v.ws).getD i 0 = v.ws[i] ∧ 1 ≤ v.ws[i] ∧ v.ws[i] ≤ 1048576 - (o.map (·.2)).sum ∧ (∀ p, p ∈ o → 1 ≤ p.2) := by
  obtain ⟨h1, h2, h3⟩ := hw hk
  have hz : wsOf k v.args v.ws = v.ws := by unfold wsOf; rw [hk, if_pos rfl]
  have hi : i < v.ws.length := by omega
  refine ⟨hi, ?_, h2 _ (List.getElem_mem hi), ?_, hps⟩
  · rw [hz, List.getD_eq_getElem?_getD, List.getElem?_eq_getElem hi]; rfl
  · have e := congrArg (fun l : List (Val × Int) => (l.map (·.2)).sum) hmg
    simp only [mergeP] at e
    rw [mergeF_sum, mergeF_sum, hz, zip_snd_map h1, List.map_drop, zip_snd_map h1, List.drop_eq_getElem_cons hi, List.sum_cons] at e
    have h4 : 0 ≤ (v.ws.drop (i + 1)).sum := int_sum_pos fun p hp => h2 p (List.mem_of_mem_drop hp)
    simp at e
    omega
theorem mgW_closed {k : Int} {n jw : Nat} {J : List Row} {o : List (Val × Int)} {p : Prop} (h : 0 < o.length → wtd k = true → J[jw]? = some ⟨3, ints (o.map (·.2))⟩ ∧ p) (nb : Nat) : closed nb (n + J.length) (mgW k (n + jw) o) = true := by
  unfold mgW
  split
  · simp
  · rename_i hc
    simp only [not_or, Bool.not_eq_false] at hc
    have := (List.getElem?_eq_some_iff.1 (h (by omega) hc.1).1).1
    simp
    omega
set_option maxHeartbeats 8000000 in
theorem ev_Merged (k : Int) (v : Val) (hk : setsK k = true) (hb : v.nodes ≤ 1000000) (hs : slimV v) (hw : wtd k = true → v.ws.length = v.args.length ∧ (∀ w, w ∈ v.ws → 1 ≤ w) ∧ v.ws.sum ≤ 1048576) (h7 : k = 7 → 0 < v.args.length) (m : Mem) :
    evCall C0 39 [.int .i64 k, .agg v.cells] m = some (.ret (.agg (mergeV k v.num v.args v.ws).cells), m) := by
  have hlen := v.length_args
  rw [slimV_eq] at hs
  rw [evCall_body C0 (C0_ext _ (by decide)) (by rw [C0_P]; exact Tryz.func39) rfl (by rw [C0_ann]; rfl) (by decide) (by simp [Tryz.f39])]
  simp [Tryz.f39, evOps_cons, wantA_some, argsTm, ann_keep_39, ann_recov_39, ann_reg_39, reg39, ann_loop_39, loop39, headId, endRound_L, endRound_S, ann_draw_39, draw39, ann_dok_39, dok39, evDraw_cons, drawEnd, chkNeed, kindS, isEff]
  refine loop_in (fun s : MgS => ⟨[(0, .int .i64 k), (3, .ptr m.bx.length 0), (4, .ptr (m.bx.length + 1) 0), (5, .ptr (m.bx.length + 2) 0), (18, .isl false v.args.length (Val.cellsL v.args)), (19, .int .i64 v.args.length), (20, .int .i64 s.i)],
      ⟨m.bx ++ [v.cells, [.int .i64 0, .nils, .nils], [.int .i64 v.num, mgA (m.rw.length + s.ja) s.o, mgW k (m.rw.length + s.jw) s.o]], m.rw ++ s.J⟩⟩)
    (fun s => some (.ret (.agg (mergeV k v.num v.args v.ws).cells), m)) (fun s => v.args.length - s.i)
    (fun s => s.i ≤ v.args.length ∧ s.o.length ≤ s.i ∧ mergeF s.o ((v.args.zip (wsOf k v.args v.ws)).drop s.i) = mergeP k v.args v.ws ∧ MgOk k m.rw.length s) ⟨0, [], [], 0, 0⟩ ?_ ?_ ?_ ?_ ?_
  · simp [mgA, mgW]
  · simp
  · refine ⟨by simp, by simp, rfl, ⟨rfl, fun h => by simp at h, fun h => by simp at h, fun _ p hp => by cases hp⟩⟩
  · intro x; simp [Tryz.f39, evOps_cons, wantA_some, argsTm, ann_keep_39, ann_recov_39, ann_reg_39, reg39, ann_loop_39, loop39, headId, endRound_L, endRound_S, ann_draw_39, draw39, ann_dok_39, dok39, evDraw_cons, drawEnd, chkNeed, kindS, isEff]
  · rintro ⟨i, o, J, ja, jw⟩ ⟨hi, hol, hmg, hcl, hra, hrw, hps⟩ hrec
    simp only at hi hol hmg hcl hra hrw hps ⊢
    by_cases hlt : i < v.args.length
    · have w2 : IntKind.i64.wrap (i + 1) = i + 1 := wrap_id _ (by omega)
      have h3 : (i + 1) * 3 ≤ v.args.length * 3 := by omega
      have hm := Val.nodes_arg (List.getElem_mem hlt)
      simp [round, Tryz.f39, evOps_cons, wantA_some, argsTm, ann_keep_39, ann_recov_39, ann_reg_39, reg39, ann_loop_39, loop39, headId, endRound_L, endRound_S, ann_draw_39, draw39, ann_dok_39, dok39, evDraw_cons, drawEnd, chkNeed, kindS, isEff, hlt, w2, h3]
      rw [loop_mp (fun y : Nat × Int => ⟨[(0, .int .i64 k), (3, .ptr m.bx.length 0), (4, .ptr (m.bx.length + 1) 0), (5, .ptr (m.bx.length + 2) 0), (6, .int .i64 i), (7, .ptr (m.bx.length + 3) 0), (8, .int .i64 y.1), (9, .int .i64 y.2), (18, .isl false v.args.length (Val.cellsL v.args)), (19, .int .i64 v.args.length), (20, .int .i64 i)],
          ⟨m.bx ++ [v.cells, [.int .i64 0, .nils, .nils], [.int .i64 v.num, mgA (m.rw.length + ja) o, mgW k (m.rw.length + jw) o], v.args[i].cells], m.rw ++ J⟩⟩)
        (fun y => some (.normal, ⟨[(0, .int .i64 k), (3, .ptr m.bx.length 0), (4, .ptr (m.bx.length + 1) 0), (5, .ptr (m.bx.length + 2) 0), (6, .int .i64 i), (7, .ptr (m.bx.length + 3) 0), (8, .int .i64 (posP v.args[i] o).1), (9, .int .i64 (posP v.args[i] o).2), (18, .isl false v.args.length (Val.cellsL v.args)), (19, .int .i64 v.args.length), (20, .int .i64 i), (33, .bool false)],
          ⟨m.bx ++ [v.cells, [.int .i64 0, .nils, .nils], [.int .i64 v.num, mgA (m.rw.length + ja) o, mgW k (m.rw.length + jw) o], v.args[i].cells], m.rw ++ J⟩⟩))
        (fun y => 2 * (o.length - y.1) + (if 0 < y.2 then 1 else 0)) (fun y => y.1 ≤ o.length ∧ ((y.2 = 1 ∧ posP v.args[i] o = (y.1 + (posP v.args[i] (o.drop y.1)).1, (posP v.args[i] (o.drop y.1)).2)) ∨ (y.2 ≤ 0 ∧ posP v.args[i] o = (y.1, y.2)))) (0, 1) ?_ rfl ?_ ?_ ?_]
      · have hpl := posP_le v.args[i] o
        have hpe := posP_end v.args[i] o
        have hpi := posP_in v.args[i] o
        have hwt := ev_Weighted k
        have hwl : (wsOf k v.args v.ws).length = v.args.length := by
          unfold wsOf
          cases hwk : wtd k
          · simp
          · simpa using (hw hwk).1
        have hstep : mergeF o ((v.args.zip (wsOf k v.args v.ws)).drop i) = mergeF (insP v.args[i] ((wsOf k v.args v.ws).getD i 0) o) ((v.args.zip (wsOf k v.args v.ws)).drop (i + 1)) := by
          have hz : i < (v.args.zip (wsOf k v.args v.ws)).length := by rw [List.length_zip, hwl]; omega
          rw [List.drop_eq_getElem_cons hz]
          have : (v.args.zip (wsOf k v.args v.ws))[i] = (v.args[i], (wsOf k v.args v.ws).getD i 0) := by
            rw [List.getElem_zip, List.getD_eq_getElem?_getD, List.getElem?_eq_getElem (by omega)]
            rfl
          rw [this]
          rfl
        have hwi : wtd k = true → ∃ h : i < v.ws.length, (wsOf k v.args v.ws).getD i 0 = v.ws[i] ∧ 1 ≤ v.ws[i] ∧ v.ws[i] ≤ 1048576 - (o.map (·.2)).sum ∧ (∀ p, p ∈ o → 1 ≤ p.2) := fun h => merge_bounds h hw hmg hlt (hps h)
        have hwu : wtd k = false → (wsOf k v.args v.ws).getD i 0 = 0 := fun h => by
          unfold wsOf
          rw [h]
          simp [hlt]
        generalize (wsOf k v.args v.ws).getD i 0 = wi at hstep hwi hwu
        have hps' : wtd k = true → ∀ p, p ∈ insP v.args[i] wi o → 1 ≤ p.2 := fun h => by
          obtain ⟨h1, h2, h3, h4, h5⟩ := hwi h
          exact insP_pos (by omega) h5
        have hsame := @insP_same v.args[i] wi o
        have hnew := @insP_new v.args[i] wi o
        generalize hoo : insP v.args[i] wi o = o' at hsame hnew hstep hps'
        have ho'0 : ¬ o' = [] := hoo ▸ insP_ne _ _ _
        have ho'1 : 0 < o'.length := List.length_pos_iff.2 ho'0
        generalize hpp : posP v.args[i] o = pp at hpl hpe hpi hsame hnew ⊢
        obtain ⟨a, c⟩ := pp
        simp only at hpl hpe hpi hsame hnew ⊢
        by_cases hc0 : c = 0
        · obtain ⟨hao, hse, hfe⟩ := hsame hc0
          clear hnew hpi hpe
          subst hc0
          have ho1 : 0 < o.length := by omega
          have ho0 : ¬ o = [] := fun h => by rw [h] at ho1; simp at ho1
          have hJa := hra ho1
          have hja : ja < J.length := (List.getElem?_eq_some_iff.1 hJa).1
          have hJa2 := (List.getElem?_eq_some_iff.1 hJa).2
          have hil : o'.length = o.length := by rw [hse]; simp
          have hfst : o'.map (·.1) = o.map (·.1) := by
            rw [hse, List.map_set]
            exact List.ext_getElem (by simp) fun n h1 h2 => by
              rw [List.getElem_set]
              split
              · rename_i h; subst h; simp
              · rfl
          cases hwk : wtd k
          · simp [hwk] at hwt
            simp [Tryz.f39, evOps_cons, wantA_some, argsTm, ann_keep_39, ann_recov_39, ann_reg_39, reg39, ann_loop_39, loop39, headId, endRound_L, endRound_S, ann_draw_39, draw39, ann_dok_39, dok39, evDraw_cons, drawEnd, chkNeed, kindS, isEff, hwt, mgA, mgW, hwk, ho0, ho1, hao, app_at, hja, hJa2, show ¬ (a : Int) = o.length by omega, endRound_J, hcl]
            refine hrec ⟨i + 1, o', J, ja, jw⟩ _ _ ?_ ?_ ?_ ?_
            · simp; omega
            · refine ⟨by simp only; omega, by simp only; omega, ?_, ?_⟩
              · simp only
                rw [← hmg, hstep]
              · exact ⟨hcl, fun _ => by simp only; rw [hfst]; exact hJa, fun _ h => absurd h (by simp [hwk]), hps'⟩
            · simp [mgA, mgW, hwk, hil, w2, ho'0, ho0]
            · simp
          · simp [hwk] at hwt
            obtain ⟨hiw, hwe, hw1, hw2, hwp⟩ := hwi hwk
            obtain ⟨hJw, hne⟩ := hrw ho1 hwk
            have hjw : jw < J.length := (List.getElem?_eq_some_iff.1 hJw).1
            have hJw2 := (List.getElem?_eq_some_iff.1 hJw).2
            have hat := ints_at hiw
            have hat2 : ((ints (o.map (·.2))).drop a).take 1 = [.int .i64 o[a].2] := by
              have := ints_at (ks := o.map (·.2)) (i := a) (by simpa using hao)
              simpa using this
            rw [hwe] at hse
            have hsum := mem_sum hwp (List.getElem_mem hao)
            have hp1 := hwp _ (List.getElem_mem hao)
            have w3 : IntKind.i64.wrap (o[a].2 + v.ws[i]) = o[a].2 + v.ws[i] := wrap_id _ (by omega)
            have hset : List.take a (ints (o.map (·.2))) ++ A.int .i64 (o[a].2 + v.ws[i]) :: List.drop (a + 1) (ints (o.map (·.2))) = ints (o'.map (·.2)) := by
              rw [hse, List.map_set, List.set_eq_take_append_cons_drop, if_pos (by simpa using hao)]
              simp [ints]
            simp [Tryz.f39, evOps_cons, wantA_some, argsTm, ann_keep_39, ann_recov_39, ann_reg_39, reg39, ann_loop_39, loop39, headId, endRound_L, endRound_S, ann_draw_39, draw39, ann_dok_39, dok39, evDraw_cons, drawEnd, chkNeed, kindS, isEff, hwt, mgA, mgW, hwk, ho0, ho1, hao, app_at, app_set, hja, hJa2, hjw, hJw2, hiw, show i + 1 ≤ v.ws.length by omega, show a + 1 ≤ o.length by omega, hat, hat2, w3, hset, show ¬ (a : Int) = o.length by omega, endRound_J, hcl, all_set]
            refine hrec ⟨i + 1, o', J.set jw ⟨3, ints (o'.map (·.2))⟩, ja, jw⟩ _ _ ?_ ?_ ?_ ?_
            · simp; omega
            · refine ⟨by simp only; omega, by simp only; omega, ?_, ?_⟩
              · simp only
                rw [← hmg, hstep]
              · exact ⟨by simp [all_set, hcl], fun _ => by simp only; rw [hfst, List.getElem?_set_ne (Ne.symm hne)]; exact hJa, fun _ _ => by simp only; exact ⟨by simp [hjw], hne⟩, hps'⟩
            · simp [mgA, mgW, hwk, hil, w2, ho'0, ho0]
            · simp
        · have hnw := hnew hc0
          clear hsame
          have hil : o'.length = o.length + 1 := by rw [hnw]; simp; omega
          have hsnd : o'.map (·.2) = (o.map (·.2)).take a ++ wi :: (o.map (·.2)).drop a := by rw [hnw]; simp
          have hrow := cells_ins o a v.args[i] wi hpl
          simp only [Val.cells_eq, List.cons_append, List.nil_append] at hrow
          rw [← hnw] at hrow
          by_cases ho : o = []
          · have ha0 : a = 0 := by rw [ho] at hpl; simpa using hpl
            subst ha0
            rw [ho] at hrow
            simp at hrow
            have hoq : o' = [(v.args[i], wi)] := by rw [hnw, ho]; rfl
            cases hwk : wtd k
            · simp [hwk] at hwt
              simp [Tryz.f39, evOps_cons, wantA_some, argsTm, ann_keep_39, ann_recov_39, ann_reg_39, reg39, ann_loop_39, loop39, headId, endRound_L, endRound_S, ann_draw_39, draw39, ann_dok_39, dok39, evDraw_cons, drawEnd, chkNeed, kindS, isEff, hwt, mgA, mgW, hwk, w2, endRound_J, hcl, app_at, app_set, at_lt, ho]
              refine hrec ⟨i + 1, o', J ++ [⟨28, Val.cellsL (o'.map (·.1))⟩], J.length, 0⟩ _ _ ?_ ?_ ?_ ?_
              · simp; omega
              · refine ⟨by simp only; omega, by simp only; omega, ?_, ?_⟩
                · simp only
                  rw [← hmg, hstep]
                · exact ⟨by simp [hcl], fun _ => by simp, fun _ h => absurd h (by simp [hwk]), hps'⟩
              · simp [mgA, mgW, hwk, hil, w2, ho'0, ho, hoq, Val.cellsL]
              · simp
            · simp [hwk] at hwt
              obtain ⟨hiw, hwe, hw1, hw2, hwp⟩ := hwi hwk
              have hat := ints_at hiw
              have w3 : IntKind.i64.wrap v.ws[i] = v.ws[i] := wrap_id _ (by have := sum_pos hwp; omega)
              have hld : True := trivial
              have hst : True := trivial
              simp [Tryz.f39, evOps_cons, wantA_some, argsTm, ann_keep_39, ann_recov_39, ann_reg_39, reg39, ann_loop_39, loop39, headId, endRound_L, endRound_S, ann_draw_39, draw39, ann_dok_39, dok39, evDraw_cons, drawEnd, chkNeed, kindS, isEff, hwt, mgA, mgW, hwk, w2, endRound_J, hcl, app_at, app_set, at_lt, ho, hiw, show i + 1 ≤ v.ws.length by omega, hat, w3]
              refine hrec ⟨i + 1, o', J ++ [⟨28, Val.cellsL (o'.map (·.1))⟩, ⟨3, ints (o'.map (·.2))⟩], J.length, J.length + 1⟩ _ _ ?_ ?_ ?_ ?_
              · simp; omega
              · refine ⟨by simp only; omega, by simp only; omega, ?_, ?_⟩
                · simp only
                  rw [← hmg, hstep]
                · exact ⟨by simp [hcl], fun _ => by simp, fun _ _ => ⟨by simp, by simp⟩, hps'⟩
              · simp [mgA, mgW, hwk, hil, w2, ho'0, ho, hoq, Val.cellsL, hwe, ints]
              · simp
          have ho1 : 0 < o.length := List.length_pos_iff.2 ho
          by_cases ha0 : a = 0
          · subst ha0
            have hcl0 : c < 0 := by have := hpi (by omega); omega
            simp at hrow
            have ho0 : ¬ o = [] := fun h => by rw [h] at ho1; simp at ho1
            have hJa := hra ho1
            have hja : ja < J.length := (List.getElem?_eq_some_iff.1 hJa).1
            have hJa2 := (List.getElem?_eq_some_iff.1 hJa).2
            have hfl : (∀ x, x ∈ Val.cellsL (o.map (·.1)) → flat x = true) = True := eq_true fun x hx => List.all_eq_true.1 (Val.flat_cellsL _) x hx
            have hall : List.take (o.length * 3) (Val.cellsL (o.map (·.1))) = Val.cellsL (o.map (·.1)) := List.take_of_length_le (by simp)
            have hallw : List.take o.length (ints (o.map (·.2))) = ints (o.map (·.2)) := List.take_of_length_le (by simp)
            cases hwk : wtd k
            · simp [hwk] at hwt
              simp [Tryz.f39, evOps_cons, wantA_some, argsTm, ann_keep_39, ann_recov_39, ann_reg_39, reg39, ann_loop_39, loop39, headId, endRound_L, endRound_S, ann_draw_39, draw39, ann_dok_39, dok39, evDraw_cons, drawEnd, chkNeed, kindS, isEff, hwt, mgA, mgW, hwk, w2, endRound_J, hcl, app_at, app_set, at_lt, hall, hfl, ho0, ho1, hja, hJa2, hcl0, hrow, show ¬ (0 : Int) = o.length by omega, show ¬ o.length = 0 by omega, show (1 + o.length) * 56 ≤ 70368744177664 by omega, show 1 + o.length ≤ 70368744177664 by omega, show 3 + o.length * 3 = (1 + o.length) * 3 by omega]
              refine hrec ⟨i + 1, o', J ++ [⟨28, Val.cellsL (o'.map (·.1))⟩], J.length, 0⟩ _ _ ?_ ?_ ?_ ?_
              · simp; omega
              · refine ⟨by simp only; omega, by simp only; omega, ?_, ?_⟩
                · simp only
                  rw [← hmg, hstep]
                · exact ⟨by simp [hcl], fun _ => by simp, fun _ h => absurd h (by simp [hwk]), hps'⟩
              · simp [mgA, mgW, hwk, hil, w2, ho'0, Nat.add_comm 1 o.length]
              · simp
            · simp [hwk] at hwt
              obtain ⟨hiw, hwe, hw1, hw2, hwp⟩ := hwi hwk
              have hat := ints_at hiw
              have w3 : IntKind.i64.wrap v.ws[i] = v.ws[i] := wrap_id _ (by have := sum_pos hwp; omega)
              obtain ⟨hJw, hne⟩ := hrw ho1 hwk
              have hjw : jw < J.length := (List.getElem?_eq_some_iff.1 hJw).1
              have hJw2 := (List.getElem?_eq_some_iff.1 hJw).2
              have hld : True := trivial
              have hdr : True := trivial
              have hst : A.int .i64 v.ws[i] :: ints (o.map (·.2)) = ints (o'.map (·.2)) := by rw [hsnd, hwe]; simp [ints]
              simp [Tryz.f39, evOps_cons, wantA_some, argsTm, ann_keep_39, ann_recov_39, ann_reg_39, reg39, ann_loop_39, loop39, headId, endRound_L, endRound_S, ann_draw_39, draw39, ann_dok_39, dok39, evDraw_cons, drawEnd, chkNeed, kindS, isEff, hwt, mgA, mgW, hwk, w2, endRound_J, hcl, app_at, app_set, at_lt, hall, hfl, ho0, ho1, hja, hJa2, hcl0, hrow, show ¬ (0 : Int) = o.length by omega, show ¬ o.length = 0 by omega, show (1 + o.length) * 56 ≤ 70368744177664 by omega, show 1 + o.length ≤ 70368744177664 by omega, show 3 + o.length * 3 = (1 + o.length) * 3 by omega, eq_true (show o.length + 1 = 1 + o.length by omega), show (0 : Int) < 1 + o.length by omega, show 1 ≤ 1 + o.length by omega, show 1 ≤ o.length + 1 by omega, hallw, flat_mem_ints, hjw, hJw2, show (1 + o.length) * 8 ≤ 70368744177664 by omega, hiw, show i + 1 ≤ v.ws.length by omega, hat, w3, hld, hdr, hst]
              refine hrec ⟨i + 1, o', J ++ [⟨28, Val.cellsL (o'.map (·.1))⟩, ⟨3, ints (o'.map (·.2))⟩], J.length, J.length + 1⟩ _ _ ?_ ?_ ?_ ?_
              · simp; omega
              · refine ⟨by simp only; omega, by simp only; omega, ?_, ?_⟩
                · simp only
                  rw [← hmg, hstep]
                · exact ⟨by simp [hcl], fun _ => by simp, fun _ _ => ⟨by simp, by simp⟩, hps'⟩
              · simp [mgA, mgW, hwk, hil, w2, ho'0, Nat.add_comm 1 o.length]
              · simp
          by_cases hal : a = o.length
          · subst hal
            rw [List.take_of_length_le (by simp), List.drop_eq_nil_of_le (by simp)] at hrow
            have ho0 : ¬ o = [] := fun h => by rw [h] at ho1; simp at ho1
            have hJa := hra ho1
            have hja : ja < J.length := (List.getElem?_eq_some_iff.1 hJa).1
            have hJa2 := (List.getElem?_eq_some_iff.1 hJa).2
            have hfl : (∀ x, x ∈ Val.cellsL (o.map (·.1)) → flat x = true) = True := eq_true fun x hx => List.all_eq_true.1 (Val.flat_cellsL _) x hx
            have hall : List.take (o.length * 3) (Val.cellsL (o.map (·.1))) = Val.cellsL (o.map (·.1)) := List.take_of_length_le (by simp)
            have hallw : List.take o.length (ints (o.map (·.2))) = ints (o.map (·.2)) := List.take_of_length_le (by simp)
            cases hwk : wtd k
            · simp [hwk] at hwt
              simp [Tryz.f39, evOps_cons, wantA_some, argsTm, ann_keep_39, ann_recov_39, ann_reg_39, reg39, ann_loop_39, loop39, headId, endRound_L, endRound_S, ann_draw_39, draw39, ann_dok_39, dok39, evDraw_cons, drawEnd, chkNeed, kindS, isEff, hwt, mgA, mgW, hwk, w2, endRound_J, hcl, app_at, app_set, at_lt, hil, hall, hfl, ho0, ho1, hja, hJa2, hrow, show ¬ (0 : Int) = o.length by omega, show o.length * 3 + 3 = (o.length + 1) * 3 by omega, show o.length * 56 ≤ 70368744177664 by omega, show o.length ≤ 70368744177664 by omega, show (o.length + 1) * 56 ≤ 70368744177664 by omega, show o.length + 1 ≤ 70368744177664 by omega]
              refine hrec ⟨i + 1, o', J ++ [⟨28, Val.cellsL (o'.map (·.1))⟩], J.length, 0⟩ _ _ ?_ ?_ ?_ ?_
              · simp; omega
              · refine ⟨by simp only; omega, by simp only; omega, ?_, ?_⟩
                · simp only
                  rw [← hmg, hstep]
                · exact ⟨by simp [hcl], fun _ => by simp, fun _ h => absurd h (by simp [hwk]), hps'⟩
              · simp [mgA, mgW, hwk, hil, w2, ho'0]
              · simp
            · simp [hwk] at hwt
              obtain ⟨hiw, hwe, hw1, hw2, hwp⟩ := hwi hwk
              have hat := ints_at hiw
              have w3 : IntKind.i64.wrap v.ws[i] = v.ws[i] := wrap_id _ (by have := sum_pos hwp; omega)
              obtain ⟨hJw, hne⟩ := hrw ho1 hwk
              have hjw : jw < J.length := (List.getElem?_eq_some_iff.1 hJw).1
              have hJw2 := (List.getElem?_eq_some_iff.1 hJw).2
              have hla : (ints (o.map (·.2))).length = o.length := by simp
              have hld : List.drop o.length (ints (o.map (·.2)) ++ [A.int .i64 0]) = [A.int .i64 0] := by have := List.drop_left (l₁ := ints (o.map (·.2))) (l₂ := [A.int .i64 0]); rwa [hla] at this
              have hdr : List.drop (o.length + 1) (ints (o.map (·.2)) ++ [A.int .i64 0]) = [] := List.drop_eq_nil_of_le (by simp)
              have hst : ints (o.map (·.2)) ++ [A.int .i64 v.ws[i]] = ints (o'.map (·.2)) := by
                rw [hsnd, hwe, List.take_of_length_le (show (o.map (·.2)).length ≤ o.length by simp), List.drop_eq_nil_of_le (show (o.map (·.2)).length ≤ o.length by simp)]
                simp [ints]
              simp [Tryz.f39, evOps_cons, wantA_some, argsTm, ann_keep_39, ann_recov_39, ann_reg_39, reg39, ann_loop_39, loop39, headId, endRound_L, endRound_S, ann_draw_39, draw39, ann_dok_39, dok39, evDraw_cons, drawEnd, chkNeed, kindS, isEff, hwt, mgA, mgW, hwk, w2, endRound_J, hcl, app_at, app_set, at_lt, hil, hall, hfl, ho0, ho1, hja, hJa2, hrow, show ¬ (0 : Int) = o.length by omega, show o.length * 3 + 3 = (o.length + 1) * 3 by omega, show o.length * 56 ≤ 70368744177664 by omega, show o.length ≤ 70368744177664 by omega, show (o.length + 1) * 56 ≤ 70368744177664 by omega, show o.length + 1 ≤ 70368744177664 by omega, show (o.length : Int) < (o.length : Int) + 1 by omega, hallw, flat_mem_ints, hjw, hJw2, show o.length * 8 ≤ 70368744177664 by omega, show (o.length + 1) * 8 ≤ 70368744177664 by omega, hiw, show i + 1 ≤ v.ws.length by omega, hat, w3, hld, hdr, hst]
              refine hrec ⟨i + 1, o', J ++ [⟨28, Val.cellsL (o'.map (·.1))⟩, ⟨3, ints (o'.map (·.2))⟩], J.length, J.length + 1⟩ _ _ ?_ ?_ ?_ ?_
              · simp; omega
              · refine ⟨by simp only; omega, by simp only; omega, ?_, ?_⟩
                · simp only
                  rw [← hmg, hstep]
                · exact ⟨by simp [hcl], fun _ => by simp, fun _ _ => ⟨by simp, by simp⟩, hps'⟩
              · simp [mgA, mgW, hwk, hil, w2, ho'0]
              · simp
          · have hcl0 : c < 0 := by have := hpi (by omega); omega
            have ho0 : ¬ o = [] := fun h => by rw [h] at ho1; simp at ho1
            have hJa := hra ho1
            have hja : ja < J.length := (List.getElem?_eq_some_iff.1 hJa).1
            have hJa2 := (List.getElem?_eq_some_iff.1 hJa).2
            have hft : (∀ x, x ∈ List.take (a * 3) (Val.cellsL (o.map (·.1))) → flat x = true) = True := eq_true fun x hx => List.all_eq_true.1 (Val.flat_cellsL _) x (List.mem_of_mem_take hx)
            have hfd : (∀ x, x ∈ List.drop (a * 3) (Val.cellsL (o.map (·.1))) → flat x = true) = True := eq_true fun x hx => List.all_eq_true.1 (Val.flat_cellsL _) x (List.mem_of_mem_drop hx)
            have htd : List.take ((o.length - a) * 3) (List.drop (a * 3) (Val.cellsL (o.map (·.1)))) = List.drop (a * 3) (Val.cellsL (o.map (·.1))) := List.take_of_length_le (by simp; omega)
            cases hwk : wtd k
            · simp [hwk] at hwt
              simp [Tryz.f39, evOps_cons, wantA_some, argsTm, ann_keep_39, ann_recov_39, ann_reg_39, reg39, ann_loop_39, loop39, headId, endRound_L, endRound_S, ann_draw_39, draw39, ann_dok_39, dok39, evDraw_cons, drawEnd, chkNeed, kindS, isEff, hwt, mgA, mgW, hwk, w2, endRound_J, hcl, app_at, app_set, at_lt, hft, hfd, htd, ho0, ho1, ha0, hal, hcl0, hja, hJa2, hpl, hrow, show ¬ (a : Int) = o.length by omega, show (a : Int) ≤ o.length by omega, show ¬ (0 : Int) = a by omega, show min (a * 3) (o.length * 3) = a * 3 by omega, show a * 3 ≤ o.length * 3 by omega, show a * 3 + (o.length - a) * 3 = o.length * 3 by omega, show ((o.length : Int) - a).toNat = o.length - a by omega, show a * 3 + 3 = (a + 1) * 3 by omega, show (a + 1) * 3 + (o.length - a) * 3 = (a + 1 + (o.length - a)) * 3 by omega, show o.length * 3 - a * 3 = (o.length - a) * 3 by omega, show a * 56 ≤ 70368744177664 by omega, show a ≤ 70368744177664 by omega, show (a + 1) * 56 ≤ 70368744177664 by omega, show a + 1 ≤ 70368744177664 by omega, show (a + 1 + (o.length - a)) * 56 ≤ 70368744177664 by omega, show a + 1 + (o.length - a) ≤ 70368744177664 by omega]
              refine hrec ⟨i + 1, o', J ++ [⟨28, Val.cellsL (o'.map (·.1))⟩], J.length, 0⟩ _ _ ?_ ?_ ?_ ?_
              · simp; omega
              · refine ⟨by simp only; omega, by simp only; omega, ?_, ?_⟩
                · simp only
                  rw [← hmg, hstep]
                · exact ⟨by simp [hcl], fun _ => by simp, fun _ h => absurd h (by simp [hwk]), hps'⟩
              · simp [mgA, mgW, hwk, hil, w2, ho'0, show a + 1 + (o.length - a) = o.length + 1 by omega]
              · simp
            · simp [hwk] at hwt
              obtain ⟨hiw, hwe, hw1, hw2, hwp⟩ := hwi hwk
              have hat := ints_at hiw
              have w3 : IntKind.i64.wrap v.ws[i] = v.ws[i] := wrap_id _ (by have := sum_pos hwp; omega)
              obtain ⟨hJw, hne⟩ := hrw ho1 hwk
              have hjw : jw < J.length := (List.getElem?_eq_some_iff.1 hJw).1
              have hJw2 := (List.getElem?_eq_some_iff.1 hJw).2
              have hwft : (∀ x, x ∈ List.take a (ints (o.map (·.2))) → flat x = true) = True := eq_true fun x hx => List.all_eq_true.1 (flat_ints _) x (List.mem_of_mem_take hx)
              have hwfd : (∀ x, x ∈ List.drop a (ints (o.map (·.2))) → flat x = true) = True := eq_true fun x hx => List.all_eq_true.1 (flat_ints _) x (List.mem_of_mem_drop hx)
              have hwtd : List.take (o.length - a) (List.drop a (ints (o.map (·.2)))) = List.drop a (ints (o.map (·.2))) := List.take_of_length_le (by simp)
              have hla : (List.take a (ints (o.map (·.2)))).length = a := by simp; omega
              have hld : List.drop a (List.take a (ints (o.map (·.2))) ++ A.int .i64 0 :: List.drop a (ints (o.map (·.2)))) = A.int .i64 0 :: List.drop a (ints (o.map (·.2))) := by have := List.drop_left (l₁ := List.take a (ints (o.map (·.2)))) (l₂ := A.int .i64 0 :: List.drop a (ints (o.map (·.2)))); rwa [hla] at this
              have hdr : List.drop (a + 1) (List.take a (ints (o.map (·.2))) ++ A.int .i64 0 :: List.drop a (ints (o.map (·.2)))) = List.drop a (ints (o.map (·.2))) := by rw [← List.drop_drop, hld]; rfl
              have hst : List.take a (ints (o.map (·.2))) ++ A.int .i64 v.ws[i] :: List.drop a (ints (o.map (·.2))) = ints (o'.map (·.2)) := by rw [hsnd, hwe]; simp [ints]
              simp [Tryz.f39, evOps_cons, wantA_some, argsTm, ann_keep_39, ann_recov_39, ann_reg_39, reg39, ann_loop_39, loop39, headId, endRound_L, endRound_S, ann_draw_39, draw39, ann_dok_39, dok39, evDraw_cons, drawEnd, chkNeed, kindS, isEff, hwt, mgA, mgW, hwk, w2, endRound_J, hcl, app_at, app_set, at_lt, hft, hfd, htd, ho0, ho1, ha0, hal, hcl0, hja, hJa2, hpl, hrow, show ¬ (a : Int) = o.length by omega, show (a : Int) ≤ o.length by omega, show ¬ (0 : Int) = a by omega, show min (a * 3) (o.length * 3) = a * 3 by omega, show a * 3 ≤ o.length * 3 by omega, show a * 3 + (o.length - a) * 3 = o.length * 3 by omega, show ((o.length : Int) - a).toNat = o.length - a by omega, show a * 3 + 3 = (a + 1) * 3 by omega, show (a + 1) * 3 + (o.length - a) * 3 = (a + 1 + (o.length - a)) * 3 by omega, show o.length * 3 - a * 3 = (o.length - a) * 3 by omega, show a * 56 ≤ 70368744177664 by omega, show a ≤ 70368744177664 by omega, show (a + 1) * 56 ≤ 70368744177664 by omega, show a + 1 ≤ 70368744177664 by omega, show (a + 1 + (o.length - a)) * 56 ≤ 70368744177664 by omega, show a + 1 + (o.length - a) ≤ 70368744177664 by omega, show a + (o.length - a + 1) = a + 1 + (o.length - a) by omega, show a + 1 ≤ a + 1 + (o.length - a) by omega, show (a : Int) < (a : Int) + 1 + ((o.length - a : Nat) : Int) by omega, hjw, hJw2, hwft, hwfd, hwtd, show min a o.length = a by omega, show a * 8 ≤ 70368744177664 by omega, show (a + 1) * 8 ≤ 70368744177664 by omega, show (a + 1 + (o.length - a)) * 8 ≤ 70368744177664 by omega, show a + (o.length - a) = o.length by omega, hiw, show i + 1 ≤ v.ws.length by omega, hat, w3, hld, hdr, hst]
              refine hrec ⟨i + 1, o', J ++ [⟨28, Val.cellsL (o'.map (·.1))⟩, ⟨3, ints (o'.map (·.2))⟩], J.length, J.length + 1⟩ _ _ ?_ ?_ ?_ ?_
              · simp; omega
              · refine ⟨by simp only; omega, by simp only; omega, ?_, ?_⟩
                · simp only
                  rw [← hmg, hstep]
                · exact ⟨by simp [hcl], fun _ => by simp, fun _ _ => ⟨by simp, by simp⟩, hps'⟩
              · simp [mgA, mgW, hwk, hil, w2, ho'0, show a + 1 + (o.length - a) = o.length + 1 by omega]
              · simp
      · simp [Tryz.f39, evOps_cons, wantA_some, argsTm, ann_keep_39, ann_recov_39, ann_reg_39, reg39, ann_loop_39, loop39, headId, endRound_L, endRound_S, ann_draw_39, draw39, ann_dok_39, dok39, evDraw_cons, drawEnd, chkNeed, kindS, isEff]
      · simp
      · intro x; simp [Tryz.f39, evOps_cons, wantA_some, argsTm, ann_keep_39, ann_recov_39, ann_reg_39, reg39, ann_loop_39, loop39, headId, endRound_L, endRound_S, ann_draw_39, draw39, ann_dok_39, dok39, evDraw_cons, drawEnd, chkNeed, kindS, isEff]
      · clear hrec
        rintro ⟨a, c⟩ ⟨ha, hp⟩ hrec
        simp only at ha hp ⊢
        by_cases hao : a < o.length
        · have ho0 : ¬ o = [] := fun h => by rw [h] at hao; simp at hao
          have ho1 : 0 < o.length := by omega
          have hJa := hra ho1
          have hja : ja < J.length := (List.getElem?_eq_some_iff.1 hJa).1
          have hJa2 := (List.getElem?_eq_some_iff.1 hJa).2
          have hcw := mgW_closed (k := k) (n := m.rw.length) hrw
          rcases hp with ⟨rfl, hp⟩ | ⟨hc, hp⟩
          · have w3 : IntKind.i64.wrap (a + 1) = a + 1 := wrap_id _ (by omega)
            have he := ev_RCompare v.args[i].nodes v.args[i] (Nat.le_refl _) (by omega) (slimL_mem hs.2 (List.getElem_mem hlt)) o[a].1
            simp at he
            have hat := Val.at_cellsL (o.map (·.1)) a (by simpa using hao)
            simp at hat
            have h4 : a * 3 + 3 ≤ o.length * 3 := by omega
            have h5 : 3 ≤ o.length * 3 - a * 3 := by omega
            rw [posP_drop hao] at hp
            by_cases hc : 0 < cmpV v.args[i] o[a].1
            · have hc1 : cmpV v.args[i] o[a].1 = 1 := by have := cmpV_range v.args[i] o[a].1; omega
              rw [if_pos hc] at hp
              simp [hc1] at he
              simp [round, Tryz.f39, evOps_cons, wantA_some, argsTm, ann_keep_39, ann_recov_39, ann_reg_39, reg39, ann_loop_39, loop39, headId, endRound_L, endRound_S, ann_draw_39, draw39, ann_dok_39, dok39, evDraw_cons, drawEnd, chkNeed, kindS, isEff, hao, ho0, ho1, mgA, hJa2, app_at, hat, h4, h5, w3, he, endRound_J, hcl, hja, hcw]
              refine hrec (a + 1, 1) _ _ ?_ ?_ ?_ ?_
              · simp; omega
              · refine ⟨by simp only; omega, .inl ⟨rfl, ?_⟩⟩
                rw [hp]
                simp only
                exact Prod.ext (by simp only; omega) rfl
              · simp [mgA, ho0]
              · simp [mgA, ho0]
            · rw [if_neg hc] at hp
              simp [round, Tryz.f39, evOps_cons, wantA_some, argsTm, ann_keep_39, ann_recov_39, ann_reg_39, reg39, ann_loop_39, loop39, headId, endRound_L, endRound_S, ann_draw_39, draw39, ann_dok_39, dok39, evDraw_cons, drawEnd, chkNeed, kindS, isEff, hao, ho0, ho1, mgA, hJa2, app_at, hat, h4, h5, w3, he, hc, endRound_J, hcl, hja, hcw]
              refine hrec (a, cmpV v.args[i] o[a].1) _ _ ?_ ?_ ?_ ?_
              · simp [hc]
              · exact ⟨ha, .inr ⟨by simp only; omega, by rw [hp]; rfl⟩⟩
              · simp [mgA, ho0]
              · simp [mgA, ho0]
          · clear hrec
            simp [round, Tryz.f39, evOps_cons, wantA_some, argsTm, ann_keep_39, ann_recov_39, ann_reg_39, reg39, ann_loop_39, loop39, headId, endRound_L, endRound_S, ann_draw_39, draw39, ann_dok_39, dok39, evDraw_cons, drawEnd, chkNeed, kindS, isEff, hao, ho0, ho1, mgA, hp, show ¬ 0 < c by omega]
        · have hae : a = o.length := by omega
          clear hrec
          have hpe : posP v.args[i] o = (a, c) := by
            rcases hp with ⟨rfl, hp⟩ | ⟨hc, hp⟩
            · rw [hp, List.drop_eq_nil_of_le (by omega), posP]
              rfl
            · exact hp
          subst hae
          by_cases ho : o.length = 0
          · simp [round, Tryz.f39, evOps_cons, wantA_some, argsTm, ann_keep_39, ann_recov_39, ann_reg_39, reg39, ann_loop_39, loop39, headId, endRound_L, endRound_S, ann_draw_39, draw39, ann_dok_39, dok39, evDraw_cons, drawEnd, chkNeed, kindS, isEff, mgA, hpe, ho]
          · simp [round, Tryz.f39, evOps_cons, wantA_some, argsTm, ann_keep_39, ann_recov_39, ann_reg_39, reg39, ann_loop_39, loop39, headId, endRound_L, endRound_S, ann_draw_39, draw39, ann_dok_39, dok39, evDraw_cons, drawEnd, chkNeed, kindS, isEff, mgA, hpe, ho]
    · clear hrec
      have hO : o = mergeP k v.args v.ws := by
        rw [← hmg, List.drop_eq_nil_of_le (by rw [List.length_zip]; omega)]
        rfl
      have hO7 : k = 7 → 0 < o.length := fun h => by
        rw [hO]
        refine List.length_pos_iff.2 (mergeF_ne _ _ (.inr ?_))
        intro h0
        have := congrArg List.length h0
        have h1 := h7 h
        have h2 := (hw (by rw [h]; rfl)).1
        have hz : wsOf k v.args v.ws = v.ws := by unfold wsOf; rw [h]; rfl
        rw [List.length_zip, hz, h2] at this
        simp at this
        rw [this] at h1
        simp at h1
      have hO2 : wtd k = true → ∀ w, w ∈ o.map (·.2) → 1 ≤ w ∧ w ≤ 1048576 := fun h w hmem => by
        obtain ⟨p, hp, rfl⟩ := List.mem_map.1 hmem
        refine ⟨hps h p hp, ?_⟩
        have h1 := mem_sum (hps h) hp
        have h2 : (o.map (·.2)).sum = v.ws.sum := by
          have hz : wsOf k v.args v.ws = v.ws := by unfold wsOf; rw [h, if_pos rfl]
          rw [hO]
          unfold mergeP
          rw [mergeF_sum, hz, zip_snd_map (hw h).1]
          simp
        have h3 := (hw h).2.2
        omega
      unfold mergeV
      rw [← hO]
      clear hmg hO
      by_cases h7' : k = 7
      · have hwk : wtd k = true := by rw [h7']; rfl
        have hn0 : 0 < o.length := hO7 h7'
        have ho0 : ¬ o = [] := fun h => by rw [h] at hn0; simp at hn0
        have hJa := hra hn0
        have hja : ja < J.length := (List.getElem?_eq_some_iff.1 hJa).1
        have hJa2 := (List.getElem?_eq_some_iff.1 hJa).2
        obtain ⟨hJw, hne⟩ := hrw hn0 hwk
        have hjw : jw < J.length := (List.getElem?_eq_some_iff.1 hJw).1
        have hJw2 := (List.getElem?_eq_some_iff.1 hJw).2
        have hall : List.take (o.length * 3) (Val.cellsL (o.map (·.1))) = Val.cellsL (o.map (·.1)) := List.take_of_length_le (by simp)
        have hps2 := hps hwk
        have hws : ∀ w, w ∈ o.map (·.2) → 1 ≤ w ∧ w ≤ 1048576 := hO2 hwk
        have hwp : ∀ w, w ∈ o.map (·.2) → 1 ≤ w := fun w h => (hws w h).1
        have hWl : (o.map (·.2)).length = o.length := by simp
        generalize o.map (·.2) = W at *
        have hgp : 0 < gcdN W := gcdN_pos (fun h => by rw [h] at hWl; simp at hWl; omega) hwp
        simp [round, Tryz.f39, evOps_cons, wantA_some, argsTm, ann_keep_39, ann_recov_39, ann_reg_39, reg39, ann_loop_39, loop39, headId, endRound_L, endRound_S, ann_draw_39, draw39, ann_dok_39, dok39, evDraw_cons, drawEnd, chkNeed, kindS, isEff, hlt, h7', ho0, mgA, mgW, hwk, wtd]
        refine loop_in (fun x : Nat × Nat => ⟨[(4, .ptr (m.bx.length + 1) 0), (5, .ptr (m.bx.length + 2) 0), (10, .int .i64 x.2), (101, .sl (m.rw.length + jw) o.length 0 o.length), (102, .int .i64 o.length), (103, .int .i64 x.1)],
            ⟨m.bx ++ [v.cells, [.int .i64 0, .nils, .nils], [.int .i64 v.num, .sl (m.rw.length + ja) (o.length * 3) 0 o.length, .sl (m.rw.length + jw) o.length 0 o.length]], m.rw ++ J⟩⟩)
          (fun x => some (.ret (.agg (Val.mk v.num (o.map (·.1)) (divG W)).cells), m)) (fun x => o.length - x.1) (fun x => x.1 ≤ o.length ∧ gcdF x.2 (W.drop x.1) = gcdN W) (0, 0) ?_ ?_ ?_ ?_ ?_
        · simp
        · simp
        · simp [gcdN]
        · intro x; simp [Tryz.f39, evOps_cons, wantA_some, argsTm, ann_keep_39, ann_recov_39, ann_reg_39, reg39, ann_loop_39, loop39, headId, endRound_L, endRound_S, ann_draw_39, draw39, ann_dok_39, dok39, evDraw_cons, drawEnd, chkNeed, kindS, isEff]
        · rintro ⟨j, g⟩ ⟨hj, hg⟩ hrec
          simp only at hj hg
          by_cases hjt : j < o.length
          · have w2 : IntKind.i64.wrap (j + 1) = j + 1 := wrap_id _ (by omega)
            have hjt' : j < W.length := by omega
            have hat := ints_at hjt'
            rw [gcdF_drop hjt'] at hg
            have hx := hws W[j] (List.getElem_mem hjt')
            obtain ⟨n, hn⟩ : ∃ n : Nat, W[j] = n := ⟨W[j].toNat, by omega⟩
            rw [hn] at hat hg
            simp only [Int.natAbs_natCast] at hg
            have he := ev_rgcd g n
            simp [round, Tryz.f39, evOps_cons, wantA_some, argsTm, ann_keep_39, ann_recov_39, ann_reg_39, reg39, ann_loop_39, loop39, headId, endRound_L, endRound_S, ann_draw_39, draw39, ann_dok_39, dok39, evDraw_cons, drawEnd, chkNeed, kindS, isEff, hjt, w2, app_at, hjw, hJw2, hWl, show j + 1 ≤ o.length by omega, hat, he, endRound_J, hcl, hja]
            refine hrec (j + 1, Nat.gcd g n) _ _ ?_ ?_ ?_ ?_
            · simp; omega
            · exact ⟨by simp only; omega, hg⟩
            · simp
            · simp
          · clear hrec
            have hje : j = o.length := by omega
            subst hje
            rw [List.drop_eq_nil_of_le (by omega)] at hg
            have hg' : g = gcdN W := hg
            subst hg'
            simp [round, Tryz.f39, evOps_cons, wantA_some, argsTm, ann_keep_39, ann_recov_39, ann_reg_39, reg39, ann_loop_39, loop39, headId, endRound_L, endRound_S, ann_draw_39, draw39, ann_dok_39, dok39, evDraw_cons, drawEnd, chkNeed, kindS, isEff]
            refine loop_in (fun i : Nat => ⟨[(4, .ptr (m.bx.length + 1) 0), (5, .ptr (m.bx.length + 2) 0), (10, .int .i64 (gcdN W)), (113, .int .i64 o.length), (114, .int .i64 i)],
                ⟨m.bx ++ [v.cells, [.int .i64 0, .nils, .nils], [.int .i64 v.num, .sl (m.rw.length + ja) (o.length * 3) 0 o.length, .sl (m.rw.length + jw) o.length 0 o.length]], m.rw ++ J.set jw ⟨3, ints ((divG W).take i ++ W.drop i)⟩⟩⟩)
              (fun i => some (.ret (.agg (Val.mk v.num (o.map (·.1)) (divG W)).cells), m)) (fun i => o.length - i) (fun i => i ≤ o.length) 0 ?_ ?_ ?_ ?_ ?_
            · have hset0 : J.set jw ⟨3, ints W⟩ = J := by rw [← hJw2]; exact List.set_getElem_self hjw
              simp [hset0]
            · simp
            · omega
            · intro x; simp [Tryz.f39, evOps_cons, wantA_some, argsTm, ann_keep_39, ann_recov_39, ann_reg_39, reg39, ann_loop_39, loop39, headId, endRound_L, endRound_S, ann_draw_39, draw39, ann_dok_39, dok39, evDraw_cons, drawEnd, chkNeed, kindS, isEff]
            · intro i hi hrec
              have hdl : (divG W).length = W.length := by unfold divG; simp
              have hne' : ¬ jw = ja := fun h => hne h.symm
              have hg0 : ¬ (gcdN W : Int) = 0 := by omega
              by_cases hit : i < o.length
              · have w2 : IntKind.i64.wrap (i + 1) = i + 1 := wrap_id _ (by omega)
                have hiW : i < W.length := by omega
                have hx := hws W[i] (List.getElem_mem hiW)
                have hq := tdiv_pos hx.1 hgp ((gcdF_dvd W 0).2 _ (List.getElem_mem hiW))
                have w3 : IntKind.i64.wrap (W[i].tdiv (gcdN W)) = W[i].tdiv (gcdN W) := wrap_id _ (by omega)
                have hDl : ((divG W).take i ++ W.drop i).length = o.length := by simp; omega
                have hat : ((ints ((divG W).take i ++ W.drop i)).drop i).take 1 = [.int .i64 W[i]] := by
                  have h1 := ints_at (ks := (divG W).take i ++ W.drop i) (i := i) (by omega)
                  rw [h1]
                  congr 2
                  rw [List.getElem_append_right (by simp; omega)]
                  simp [Nat.min_eq_left (show i ≤ (divG W).length by omega)]
                have hst : List.take i (ints ((divG W).take i ++ W.drop i)) ++ A.int .i64 (W[i].tdiv (gcdN W)) :: List.drop (i + 1) (ints ((divG W).take i ++ W.drop i)) = ints ((divG W).take (i + 1) ++ W.drop (i + 1)) := by
                  have h1 : (divG W)[i]'(by omega) = W[i].tdiv (gcdN W) := by unfold divG; simp
                  have h2 : ((divG W).take i).length = i := by simp; omega
                  unfold ints
                  rw [← List.map_take, ← List.map_drop, ← List.drop_drop]
                  have h3 : List.take i ((divG W).take i ++ W.drop i) = (divG W).take i := by rw [List.take_append_of_le_length (by omega), List.take_of_length_le (by omega)]
                  have h4 : List.drop i ((divG W).take i ++ W.drop i) = W.drop i := by rw [List.drop_append_of_le_length (by omega), List.drop_eq_nil_of_le (by omega)]; rfl
                  rw [h3, h4, List.drop_drop, List.take_succ_eq_append_getElem (by omega), h1]
                  simp
                generalize (divG W).take i ++ W.drop i = D at hDl hat hst ⊢
                simp [round, Tryz.f39, evOps_cons, wantA_some, argsTm, ann_keep_39, ann_recov_39, ann_reg_39, reg39, ann_loop_39, loop39, headId, endRound_L, endRound_S, ann_draw_39, draw39, ann_dok_39, dok39, evDraw_cons, drawEnd, chkNeed, kindS, isEff, hit, w2, w3, app_at, app_set, hjw, hDl, hat, hst, show ¬ gcdN W = 0 by omega, show i + 1 ≤ o.length by omega, endRound_J, all_set, hcl, hja]
                refine hrec (i + 1) _ _ ?_ ?_ ?_ ?_
                · omega
                · omega
                · simp
                · simp
              · clear hrec
                have hie : i = o.length := by omega
                subst hie
                rw [List.take_of_length_le (by omega), List.drop_eq_nil_of_le (by omega), List.append_nil]
                have hdl2 : (divG W).length = o.length := by omega
                have htk : List.take o.length (ints (divG W)) = ints (divG W) := List.take_of_length_le (by simp; omega)
                simp [round, Tryz.f39, evOps_cons, wantA_some, argsTm, ann_keep_39, ann_recov_39, ann_reg_39, reg39, ann_loop_39, loop39, headId, endRound_L, endRound_S, ann_draw_39, draw39, ann_dok_39, dok39, evDraw_cons, drawEnd, chkNeed, kindS, isEff, app_at, hjw, hja, hJa2, hne', hall, hdl2, htk]
      · by_cases ho : o.length = 0
        · have ho' : o = [] := List.eq_nil_of_length_eq_zero ho
          simp [round, Tryz.f39, evOps_cons, wantA_some, argsTm, ann_keep_39, ann_recov_39, ann_reg_39, reg39, ann_loop_39, loop39, headId, endRound_L, endRound_S, ann_draw_39, draw39, ann_dok_39, dok39, evDraw_cons, drawEnd, chkNeed, kindS, isEff, hlt, h7', ho', mgA, mgW]
        · have ho1 : 0 < o.length := by omega
          have ho0 : ¬ o = [] := fun h => ho (by rw [h]; rfl)
          have hJa := hra ho1
          have hja : ja < J.length := (List.getElem?_eq_some_iff.1 hJa).1
          have hJa2 := (List.getElem?_eq_some_iff.1 hJa).2
          have hall : List.take (o.length * 3) (Val.cellsL (o.map (·.1))) = Val.cellsL (o.map (·.1)) := List.take_of_length_le (by simp)
          have hallw : List.take o.length (ints (o.map (·.2))) = ints (o.map (·.2)) := List.take_of_length_le (by simp)
          cases hwk : wtd k
          · simp [round, Tryz.f39, evOps_cons, wantA_some, argsTm, ann_keep_39, ann_recov_39, ann_reg_39, reg39, ann_loop_39, loop39, headId, endRound_L, endRound_S, ann_draw_39, draw39, ann_dok_39, dok39, evDraw_cons, drawEnd, chkNeed, kindS, isEff, hlt, h7', ho0, mgA, mgW, hwk, app_at, hja, hJa2, hall]
          · have hJw := (hrw ho1 hwk).1
            have hjw : jw < J.length := (List.getElem?_eq_some_iff.1 hJw).1
            have hJw2 := (List.getElem?_eq_some_iff.1 hJw).2
            simp [round, Tryz.f39, evOps_cons, wantA_some, argsTm, ann_keep_39, ann_recov_39, ann_reg_39, reg39, ann_loop_39, loop39, headId, endRound_L, endRound_S, ann_draw_39, draw39, ann_dok_39, dok39, evDraw_cons, drawEnd, chkNeed, kindS, isEff, hlt, h7', ho0, mgA, mgW, hwk, app_at, hja, hJa2, hjw, hJw2, hall, hallw]
end AE
end Go.Proofs.YthoomlenmgdebaaGreatDoor
