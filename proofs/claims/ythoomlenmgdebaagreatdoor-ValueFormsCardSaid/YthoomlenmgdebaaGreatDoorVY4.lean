/- Values: the leaves; evaluated. -/
import Derived.Test.YthoomlenmgdebaaGreatDoorVY1
import Derived.Test.YthoomlenmgdebaaGreatDoorV7
set_option linter.unusedVariables false
set_option linter.unusedSimpArgs false
namespace Go.Proofs.YthoomlenmgdebaaGreatDoor
namespace AE
open Go

theorem ints_cons (x : Int) (r : List Int) : ints (x :: r) = .int .i64 x :: ints r := rfl
def lsRow (l : List Int) : List Row := if l.length = 0 then [] else [⟨3, ints l⟩]
theorem lsRow_ok (nb : Nat) (R : List Row) (a b : List Int) : RowsOk nb (R ++ lsRow a) (R ++ lsRow b) := by
  intro i hi
  by_cases h1 : i < R.length
  · exact .inl (by rw [List.getElem?_append_left h1, List.getElem?_append_left h1])
  · refine .inr ?_
    unfold lsRow at hi ⊢
    split at hi
    · simp at hi; omega
    · rename_i h
      rw [if_neg h]
      simp at hi
      have : i = R.length := by omega
      subst this
      exact ⟨⟨3, ints b⟩, by simp, by simp⟩
theorem lsA_closed (nb : Nat) (R : List Row) (l : List Int) : closed nb (R ++ lsRow l).length (lsA R.length l) = true := by
  unfold lsA lsRow
  split
  · simp
  · simp
theorem ev_visit (io : Nat) (x : Int) (bx : List (List A)) (R : List Row) (l : List Int) (hl : l.length ≤ 1000000000) (h : bx[io]? = some [lsA R.length l]) :
    evCall C0 48 [.int .i64 x, .ptr io 0] ⟨bx, R ++ lsRow l⟩ = some (.ret (.tup []), ⟨bx.set io [lsA R.length (l ++ [x])], R ++ lsRow (l ++ [x])⟩) := by
  have hid : io < bx.length := (List.getElem?_eq_some_iff.1 h).1
  have hg : bx[io] = [lsA R.length l] := (List.getElem?_eq_some_iff.1 h).2
  rw [evCall_body C0 (C0_ext _ (by decide)) (by rw [C0_P]; exact Tryz.func48) rfl (by rw [C0_ann]; rfl) (by decide) (by simp [Tryz.f48])]
  have hk := leave_keep1 Tryz.prog ⟨bx, R ++ lsRow l⟩ io [lsA R.length (l ++ [x])] [] (R ++ lsRow (l ++ [x])) (.ret (.tup [])) (by simp [lsA_closed, -List.length_append]) (lsRow_ok _ _ _ _) (by simp [Res.val])
  cases l with
  | nil =>
    simp [lsA, lsRow, ints_cons] at hg hk
    simp [Tryz.f48, evOps_cons, wantA_some, argsTm, ann_keep_48, ann_recov_48, ann_reg_48, reg48, hid, hg, hk, lsA, lsRow, ints_cons]
  | cons y r =>
    have h5 : (r.length + 1 + 1) * 8 ≤ 70368744177664 := by simp at hl; omega
    have h6 : r.length + 1 + 1 ≤ 70368744177664 := by simp at hl; omega
    simp [lsA, lsRow, ints_append, ints_cons] at hg hk
    simp [Tryz.f48, evOps_cons, wantA_some, argsTm, ann_keep_48, ann_recov_48, ann_reg_48, reg48, hid, hg, hk, lsA, lsRow, h5, h6, ints_append, ints_cons]
theorem endRound_W {l : List Nat} {M L L' : List (List A)} {k : Nat} {x x' : List A} {R1 R2 : List Row} {tm : List (Nat × A)} (hR : RowsOk (M.length + L.length) R1 R2) (hx : x'.all (closed (M.length + L.length) R2.length) = true) (hL : L.length ≤ L'.length) (hl : l.all (fun t => closed (M.length + L.length) R2.length (lk t tm)) = true) (hc : (L'.take L.length).all (fun cs => cs.all (closed (M.length + L.length) R2.length)) = true) :
    endRound (some l) ⟨M.set k x ++ L, R1⟩ ⟨tm, ⟨M.set k x' ++ L', R2⟩⟩ = some ⟨prune (some l) tm, ⟨M.set k x' ++ L'.take L.length, R2⟩⟩ := by
  refine endRound_eq (B := M.set k x' ++ L'.take L.length) (J := L'.drop L.length) (by simp) (by simp; omega) (by simpa using List.all_eq_true.1 hl) (fun i hi => ?_) (fun i hi => by simpa using hR i hi)
  simp only [List.length_append, List.length_set] at hi ⊢
  by_cases h : i < M.length
  · rw [List.getElem?_append_left (by simpa using h), List.getElem?_append_left (by simpa using h)]
    by_cases hk : k = i
    · subst hk; right; exact ⟨x', by simp [h], hx⟩
    · left; simp [hk]
  · right
    have := all_take (B := M.set k x') hc (by simpa using h) (by simpa using hi) hL
    simpa using this
mutual
theorem leaves_len : ∀ (v : Val) (f : Fun), (leavesV v f).length ≤ v.nodes
  | .mk k l w, f => by
    rw [leavesV, Val.nodes_eq]
    have := leavesL_len l (argF f k) 0
    split
    · simp
    · simp only [Val.args_mk]; omega
theorem leavesL_len : ∀ (l : List Val) (g : Nat → Fun) (i : Nat), (leavesL l g i).length ≤ Val.nodesL l
  | [], g, i => by rw [leavesL]; simp
  | v :: r, g, i => by
    rw [leavesL, Val.nodesL, List.length_append]
    have := leaves_len v (g i)
    have := leavesL_len r g (i + 1)
    omega
end
theorem keep_ls (M : List (List A)) (io : Nat) (R : List Row) (l l' : List Int) (b : List (List A)) : leave Tryz.prog true ⟨M.set io [lsA R.length l], R ++ lsRow l⟩ (.ret (.tup [])) ⟨M.set io [lsA R.length l'] ++ b, R ++ lsRow l'⟩ = some (.ret (.tup []), ⟨M.set io [lsA R.length l'], R ++ lsRow l'⟩) := by
  refine leave_keep _ _ _ _ _ _ (by simp) (fun i hi => ?_) (lsRow_ok _ _ _ _) (by simp [Res.val])
  simp only [List.length_set] at hi
  by_cases h : io = i
  · subst h
    exact .inr ⟨[lsA R.length l'], by simp [hi], by simp [lsA_closed, -List.length_append]⟩
  · exact .inl (by simp [h])
def WalkAt (R : List Row) (iv iw io : Nat) (v : Val) (f : Fun) : Prop := ∀ (M : List (List A)) (l : List Int), l.length + v.nodes ≤ 1000000000 → io < M.length → M[iv]? = some [.fn 48 [.ptr io 0]] → M[iw]? = some [.fn 81 [.ptr iv 0, .ptr iw 0]] →
    evCall C0 81 [.agg f.cells, .agg v.cells, .ptr iv 0, .ptr iw 0] ⟨M.set io [lsA R.length l], R ++ lsRow l⟩ = some (.ret (.tup []), ⟨M.set io [lsA R.length (l ++ leavesV v f)], R ++ lsRow (l ++ leavesV v f)⟩)
set_option maxHeartbeats 4000000 in
theorem ev_walk (ex : Fun → List Val → List Int → Bool) (n : Int) (R : List Row) (iv iw io : Nat) (hne : ¬ io = iv) (hne' : ¬ io = iw) (N : Nat) : ∀ (v : Val), v.nodes ≤ N → v.nodes ≤ 1000000 → ∀ (f : Fun), shapedF f = true → okV ex n v f = true → WalkAt R iv iw io v f := by
  induction N with
  | zero => intro v hN; have := v.nodes_pos; omega
  | succ N ih =>
  intro v hN hb f hf hok M l hl hio hgv hgw
  have hidv : iv < M.length := (List.getElem?_eq_some_iff.1 hgv).1
  have hidw : iw < M.length := (List.getElem?_eq_some_iff.1 hgw).1
  have hv : M[iv] = [.fn 48 [.ptr io 0]] := (List.getElem?_eq_some_iff.1 hgv).2
  have hw : M[iw] = [.fn 81 [.ptr iv 0, .ptr iw 0]] := (List.getElem?_eq_some_iff.1 hgw).2
  have hlen := v.length_args
  have hwm : iw < M.length + 2 := by omega
  have hvm : iv < M.length + 2 := by omega
  rw [okV_eq, Bool.and_eq_true, Bool.and_eq_true] at hok
  obtain ⟨⟨hh, _⟩, hokl⟩ := hok
  obtain ⟨n1, n2, n3⟩ := head_num hh
  have hlv := leaves_len v f
  rw [evCall_body C0 (C0_ext _ (by decide)) (by rw [C0_P]; exact Tryz.func81) rfl (by rw [C0_ann]; rfl) (by decide) (by simp [Tryz.f81])]
  rw [leavesV_eq] at hlv ⊢
  rcases shaped_kind hf with ⟨hk, hfl⟩ | ⟨hk, hfl⟩ | ⟨hk, hfl⟩ | ⟨hk, hfl⟩ | ⟨hk, hfl⟩ | ⟨hk, hfl⟩ | ⟨hk, hfl⟩ | ⟨hk, hfl⟩
  · have he := ev_visit io v.num (M.set io [lsA R.length l] ++ [f.cells, v.cells]) R l (by omega) (by simp [hio, at_lt])
    simp [hio, set_lt, hk] at he
    simp [Tryz.f81, evOps_cons, wantA_some, argsTm, ann_keep_81, ann_recov_81, ann_reg_81, reg81, ann_loop_81, loop81, headId, endRound_L, endRound_S, ann_draw_81, draw81, ann_dok_81, dok81, evDraw_cons, drawEnd, chkNeed, kindS, isEff, hk, hidv, hvm, hio, at_lt, set_lt, hne, hv, he, keep_ls]
  · have ha : v.args = [] := List.eq_nil_of_length_eq_zero (n3 (.inr hk))
    have h0 := keep_ls M io R l l
    simp [Tryz.f81, evOps_cons, wantA_some, argsTm, ann_keep_81, ann_recov_81, ann_reg_81, reg81, ann_loop_81, loop81, headId, endRound_L, endRound_S, ann_draw_81, draw81, ann_dok_81, dok81, evDraw_cons, drawEnd, chkNeed, kindS, isEff, hk, ha, leavesL, h0]
  · have ca : v.args.length = 2 := by
      unfold headL at hh
      simp [hk] at hh
      omega
    have a0 : 0 < v.args.length := by omega
    have a1 : 1 < v.args.length := by omega
    have f0 : 0 < f.args.length := by omega
    have f1 : 1 < f.args.length := by omega
    have g0 : argF f v.num 0 = f.args[0] := by unfold argF; rw [if_pos hk, List.getD_eq_getElem?_getD, List.getElem?_eq_getElem f0]; rfl
    have g1 : argF f v.num 1 = f.args[1] := by unfold argF; rw [if_pos hk, List.getD_eq_getElem?_getD, List.getElem?_eq_getElem f1]; rfl
    have b1 := Fun.at_cellsL f.args 0 f0
    have b2 := Fun.at_cellsL f.args 1 f1
    have b3 := Val.at_cellsL v.args 0 a0
    have b4 := Val.at_cellsL v.args 1 a1
    simp at b1 b2 b3 b4
    have m0 := Val.nodes_arg (List.getElem_mem a0)
    have m1 := Val.nodes_arg (List.getElem_mem a1)
    have o0 := okL_mem hokl 0 a0
    have o1 := okL_mem hokl 1 a1
    simp only [Nat.zero_add] at o0 o1
    rw [g0] at o0
    rw [g1] at o1
    have e0 := leavesL_drop a0 (argF f v.num)
    have e1 := leavesL_drop a1 (argF f v.num)
    rw [List.drop_zero] at e0
    rw [if_neg (by omega : ¬ f.kind = 0), e0, g0, e1, g1, List.drop_eq_nil_of_le (show v.args.length ≤ 1 + 1 by omega), leavesL, List.append_nil]
    have l0 := leaves_len v.args[0] f.args[0]
    have hsum : v.args[0].nodes + v.args[1].nodes < v.nodes := by
      have h1 := Val.nodes_eq v
      have h2 := Val.nodesL_drop a0
      have h3 := Val.nodesL_drop a1
      rw [List.drop_zero, Nat.zero_add] at h2
      omega
    have he0 := ih v.args[0] (by omega) (by omega) f.args[0] (shaped_arg hf f0) o0 (M ++ [f.cells, v.cells]) l (by omega) (by simp; omega) (by simp [hidv, at_lt, hv]) (by simp [hidw, at_lt, hw])
    have he1 := ih v.args[1] (by omega) (by omega) f.args[1] (shaped_arg hf f1) o1 (M ++ [f.cells, v.cells]) (l ++ leavesV v.args[0] f.args[0]) (by rw [List.length_append]; omega) (by simp; omega) (by simp [hidv, at_lt, hv]) (by simp [hidw, at_lt, hw])
    simp [hio, set_lt, hk, hfl, ca] at he0 he1
    simp [Tryz.f81, evOps_cons, wantA_some, argsTm, ann_keep_81, ann_recov_81, ann_reg_81, reg81, ann_loop_81, loop81, headId, endRound_L, endRound_S, ann_draw_81, draw81, ann_dok_81, dok81, evDraw_cons, drawEnd, chkNeed, kindS, isEff, hk, hfl, ca, hidv, hidw, hwm, hvm, hio, at_lt, set_lt, hne, hne', hv, hw, b1, b2, b3, b4, he0, he1, keep_ls]
  · have ca : v.args.length = 1 ∧ 0 ≤ v.num ∧ v.num ≤ 1 := by
      unfold headL at hh
      simp [hk] at hh
      omega
    have a0 : 0 < v.args.length := by omega
    have b3 := Val.at_cellsL v.args 0 a0
    have m0 := Val.nodes_arg (List.getElem_mem a0)
    have o0 := okL_mem hokl 0 a0
    simp only [Nat.zero_add] at o0
    have e0 := leavesL_drop a0 (argF f v.num)
    rw [List.drop_zero] at e0
    rw [if_neg (by omega : ¬ f.kind = 0), e0, List.drop_eq_nil_of_le (show v.args.length ≤ 0 + 1 by omega), leavesL, List.append_nil]
    rcases (show v.num = 0 ∨ v.num = 1 by omega) with cn | cn
    · have f0 : 0 < f.args.length := by omega
      have g0 : argF f v.num 0 = f.args[0] := by unfold argF; rw [if_neg (by omega), if_pos hk, cn, List.getD_eq_getElem?_getD, List.getElem?_eq_getElem (by simpa using f0)]; rfl
      have b1 := Fun.at_cellsL f.args 0 f0
      simp at b1 b3
      rw [g0] at o0 ⊢
      have he0 := ih v.args[0] (by omega) (by omega) f.args[0] (shaped_arg hf f0) o0 (M ++ [f.cells, v.cells]) l (by omega) (by simp; omega) (by simp [hidv, at_lt, hv]) (by simp [hidw, at_lt, hw])
      simp [hio, set_lt, hk, hfl, ca.1, cn] at he0
      simp [Tryz.f81, evOps_cons, wantA_some, argsTm, ann_keep_81, ann_recov_81, ann_reg_81, reg81, ann_loop_81, loop81, headId, endRound_L, endRound_S, ann_draw_81, draw81, ann_dok_81, dok81, evDraw_cons, drawEnd, chkNeed, kindS, isEff, hk, hfl, ca.1, cn, hidv, hidw, hwm, hvm, hio, at_lt, set_lt, hne, hne', hv, hw, b1, b3, he0, keep_ls]
    · have f0 : 1 < f.args.length := by omega
      have g0 : argF f v.num 0 = f.args[1] := by unfold argF; rw [if_neg (by omega), if_pos hk, cn, List.getD_eq_getElem?_getD, List.getElem?_eq_getElem (by simpa using f0)]; rfl
      have b1 := Fun.at_cellsL f.args 1 f0
      simp at b1 b3
      rw [g0] at o0 ⊢
      have he0 := ih v.args[0] (by omega) (by omega) f.args[1] (shaped_arg hf f0) o0 (M ++ [f.cells, v.cells]) l (by omega) (by simp; omega) (by simp [hidv, at_lt, hv]) (by simp [hidw, at_lt, hw])
      simp [hio, set_lt, hk, hfl, ca.1, cn] at he0
      simp [Tryz.f81, evOps_cons, wantA_some, argsTm, ann_keep_81, ann_recov_81, ann_reg_81, reg81, ann_loop_81, loop81, headId, endRound_L, endRound_S, ann_draw_81, draw81, ann_dok_81, dok81, evDraw_cons, drawEnd, chkNeed, kindS, isEff, hk, hfl, ca.1, cn, hidv, hidw, hwm, hvm, hio, at_lt, set_lt, hne, hne', hv, hw, b1, b3, he0, keep_ls]
  all_goals
    have f0 : 0 < f.args.length := by omega
    have b1 := Fun.at_cellsL f.args 0 f0
    simp at b1
    have g0 : ∀ i, argF f v.num i = f.args[0] := fun i => by unfold argF; rw [if_neg (by omega), if_neg (by omega), List.getD_eq_getElem?_getD, List.getElem?_eq_getElem f0]; rfl
    rw [if_neg (by omega : ¬ f.kind = 0)] at hlv ⊢
    simp [Tryz.f81, evOps_cons, wantA_some, argsTm, ann_keep_81, ann_recov_81, ann_reg_81, reg81, ann_loop_81, loop81, headId, endRound_L, endRound_S, ann_draw_81, draw81, ann_dok_81, dok81, evDraw_cons, drawEnd, chkNeed, kindS, isEff, hk]
    rw [loop_mp (fun x : Nat × List Int => ⟨[(3, .ptr iw 0), (4, .ptr (M.length) 0), (11, .isl false v.args.length (Val.cellsL v.args)), (12, .int .i64 v.args.length), (13, .int .i64 x.1)], ⟨M.set io [lsA R.length x.2] ++ [f.cells, v.cells], R ++ lsRow x.2⟩⟩)
      (fun x => some (.normal, ⟨[(3, .ptr iw 0), (4, .ptr (M.length) 0), (11, .isl false v.args.length (Val.cellsL v.args)), (12, .int .i64 v.args.length), (13, .int .i64 v.args.length), (14, .bool false)], ⟨M.set io [lsA R.length (x.2 ++ leavesL (v.args.drop x.1) (argF f v.num) x.1)] ++ [f.cells, v.cells], R ++ lsRow (x.2 ++ leavesL (v.args.drop x.1) (argF f v.num) x.1)⟩⟩)) (fun x => v.args.length - x.1) (fun x => x.1 ≤ v.args.length ∧ x.2.length + Val.nodesL (v.args.drop x.1) ≤ 1000000000) (0, l) ?_ rfl ?_ ?_ ?_]
    · simp only [List.drop_zero]
      have h0 := keep_ls M io R l (l ++ leavesL v.args (argF f v.num) 0) [f.cells, v.cells]
      simp at h0
      simp [h0]
    · simp [Tryz.f81, evOps_cons, wantA_some, argsTm, ann_keep_81, ann_recov_81, ann_reg_81, reg81, ann_loop_81, loop81, headId, endRound_L, endRound_S, ann_draw_81, draw81, ann_dok_81, dok81, evDraw_cons, drawEnd, chkNeed, kindS, isEff, hk]
    · have := Val.nodes_eq v
      simp; omega
    · intro x; simp [Tryz.f81, evOps_cons, wantA_some, argsTm, ann_keep_81, ann_recov_81, ann_reg_81, reg81, ann_loop_81, loop81, headId, endRound_L, endRound_S, ann_draw_81, draw81, ann_dok_81, dok81, evDraw_cons, drawEnd, chkNeed, kindS, isEff]
    · rintro ⟨i, s⟩ hI hrec
      simp only at hI
      obtain ⟨hi, hsl⟩ := hI
      by_cases hlt : i < v.args.length
      · have w2 : IntKind.i64.wrap (i + 1) = i + 1 := wrap_id _ (by omega)
        have h3 : (i + 1) * 3 ≤ v.args.length * 3 := by omega
        have m0 := Val.nodes_arg (List.getElem_mem hlt)
        have o0 := okL_mem hokl i hlt
        rw [g0] at o0
        rw [Val.nodesL_drop hlt] at hsl
        have l0 := leaves_len v.args[i] f.args[0]
        have he0 := ih v.args[i] (by omega) (by omega) f.args[0] (shaped_arg hf f0) o0 (M ++ [f.cells, v.cells, v.args[i].cells]) s (by omega) (by simp; omega) (by simp [hidv, at_lt, hv]) (by simp [hidw, at_lt, hw])
        simp [hio, set_lt] at he0
        simp only
        rw [leavesL_drop hlt, g0, ← List.append_assoc]
        have her := fun (tm : List (Nat × A)) (hl : [3, 4, 11, 12, 13].all (fun t => closed (M.length + 2) (R ++ lsRow (s ++ leavesV v.args[i] f.args[0])).length (lk t tm)) = true) => endRound_W (l := [3, 4, 11, 12, 13]) (M := M) (L := [f.cells, v.cells]) (L' := [f.cells, v.cells, v.args[i].cells]) (k := io) (x := [lsA R.length s]) (x' := [lsA R.length (s ++ leavesV v.args[i] f.args[0])]) (R1 := R ++ lsRow s) (R2 := R ++ lsRow (s ++ leavesV v.args[i] f.args[0])) (tm := tm) (lsRow_ok _ _ _ _) (by simp [lsA_closed, -List.length_append]) (by simp) hl (by simp)
        simp at her
        simp [round, Tryz.f81, evOps_cons, wantA_some, argsTm, ann_keep_81, ann_recov_81, ann_reg_81, reg81, ann_loop_81, loop81, headId, endRound_L, endRound_S, ann_draw_81, draw81, ann_dok_81, dok81, evDraw_cons, drawEnd, chkNeed, kindS, isEff, hlt, w2, h3, f0, show 3 ≤ f.args.length * 3 by omega, b1, hidv, hidw, hwm, hvm, hio, at_lt, set_lt, hne, hne', hv, hw, he0, her]
        refine hrec (i + 1, s ++ leavesV v.args[i] f.args[0]) _ _ ?_ ?_ ?_ ?_
        · simp; omega
        · simp; omega
        · simp
        · simp
      · clear hrec
        have : i = v.args.length := by omega
        subst this
        simp [round, Tryz.f81, evOps_cons, wantA_some, argsTm, ann_keep_81, ann_recov_81, ann_reg_81, reg81, ann_loop_81, loop81, headId, endRound_L, endRound_S, ann_draw_81, draw81, ann_dok_81, dok81, evDraw_cons, drawEnd, chkNeed, kindS, isEff]
        rw [leavesL]
        simp
end AE
end Go.Proofs.YthoomlenmgdebaaGreatDoor

/- Values: States; evaluated. -/
set_option linter.unusedVariables false
set_option linter.unusedSimpArgs false
namespace Go.Proofs.YthoomlenmgdebaaGreatDoor
namespace AE
open Go

theorem ev_Leaves (ex : Fun → List Val → List Int → Bool) (n : Int) (v : Val) (hb : v.nodes ≤ 1000000) (f : Fun) (hf : shapedF f = true) (hok : okV ex n v f = true) (R : List Row) (io : Nat) (M : List (List A)) (l : List Int) (hl : l.length + v.nodes ≤ 1000000000) (hio : io < M.length) :
    evCall C0 47 [.agg f.cells, .agg v.cells, .fn 48 [.ptr io 0]] ⟨M.set io [lsA R.length l], R ++ lsRow l⟩ = some (.ret (.tup []), ⟨M.set io [lsA R.length (l ++ leavesV v f)], R ++ lsRow (l ++ leavesV v f)⟩) := by
  rw [evCall_body C0 (C0_ext _ (by decide)) (by rw [C0_P]; exact Tryz.func47) rfl (by rw [C0_ann]; rfl) (by decide) (by simp [Tryz.f47])]
  have he := ev_walk ex n R (M.length + 2) (M.length + 3) io (by omega) (by omega) v.nodes v (Nat.le_refl _) hb f hf hok (M ++ [f.cells, v.cells, [.fn 48 [.ptr io 0]], [.fn 81 [.ptr (M.length + 2) 0, .ptr (M.length + 3) 0]]]) l hl (by simp; omega) (by simp) (by simp)
  simp [hio, set_lt] at he
  simp [Tryz.f47, evOps_cons, wantA_some, argsTm, ann_keep_47, ann_recov_47, ann_reg_47, reg47, hio, at_lt, set_lt, he, keep_ls]
theorem sortI_nil : sortI [] = [] := by simp [sortI]
theorem compact_nil : Lib.compact ([] : List Int) = [] := rfl
theorem take_padI (l : List Int) (n : Nat) : (padI l n).take l.length = l := by unfold padI; rw [List.take_left]
set_option maxHeartbeats 1000000 in
theorem ev_VStates (f : Fun) (n : Int) (v : Val) (hbf : f.nodes ≤ 1000000000) (hb : v.nodes ≤ 1000000) (hs : slimV v) (m : Mem) :
    evCall C0 19 [.agg f.cells, .int .i64 n, .agg v.cells] m = some (.ret (.tup [.isl false (if errV f n v = 0 then insF [] (leavesV v f) else []).length (ints (if errV f n v = 0 then insF [] (leavesV v f) else [])), .int .i64 (errV f n v)]), m) := by
  rw [evCall_body C0 (C0_ext _ (by decide)) (by rw [C0_P]; exact Tryz.func19) rfl (by rw [C0_ann]; rfl) (by decide) (by simp [Tryz.f19])]
  have he := ev_whole f n v hbf (by omega) hs
  simp at he
  by_cases h0 : errV f n v = 0
  case neg => simp [Tryz.f19, evOps_cons, wantA_some, argsTm, ann_keep_19, ann_recov_19, ann_reg_19, reg19, he, h0]
  have hq : errF f n = 0 ∧ (chkV exS n v f 2000).1 = true := by
    unfold errV at h0
    by_cases h1 : errF f n = 0
    · rw [if_pos h1] at h0
      refine ⟨h1, ?_⟩
      cases hc : (chkV exS n v f 2000).1
      · rw [hc] at h0; simp at h0
      · rfl
    · rw [if_neg h1] at h0; exact absurd h0 h1
  have hok := (((chkV_spec exS n v f 2000 (by omega)).1).1 hq.2).2
  have hlv := leaves_len v f
  have hL := ev_Leaves exS n v hb f (errF_zero hq.1).1 hok m.rw (m.bx.length + 2) (m.bx ++ [f.cells, v.cells, [.nils]]) [] (by simp; omega) (by simp)
  simp [lsA, lsRow] at hL
  rw [if_pos h0, states_eq]
  simp [h0] at he
  generalize leavesV v f = l at hlv hL ⊢
  cases l with
  | nil =>
    simp at hL
    have e1 := ev_Sort [.nils] ⟨m.bx ++ [f.cells, v.cells, [.nils]], m.rw⟩
    have e2 := ev_Compact [.nils] ⟨m.bx ++ [f.cells, v.cells, [.nils]], m.rw⟩
    simp [sortG, compactG] at e1 e2
    simp [Tryz.f19, evOps_cons, wantA_some, argsTm, ann_keep_19, ann_recov_19, ann_reg_19, reg19, he, h0, hL, e1, e2, sortI_nil, compact_nil]
  | cons x r =>
    simp at hL hlv
    have e1 := ev_Sort [.sl m.rw.length (r.length + 1) 0 (r.length + 1)] ⟨m.bx ++ [f.cells, v.cells, [.sl m.rw.length (r.length + 1) 0 (r.length + 1)]], m.rw ++ [⟨3, ints (x :: r)⟩]⟩
    have e2 := ev_Compact [.sl m.rw.length (r.length + 1) 0 (r.length + 1)] ⟨m.bx ++ [f.cells, v.cells, [.sl m.rw.length (r.length + 1) 0 (r.length + 1)]], m.rw ++ [⟨3, ints (sortI (x :: r))⟩]⟩
    have hsl := length_sortI (x :: r)
    have hpl := length_padI (sortI (x :: r))
    have hcl : (Lib.compact (sortI (x :: r))).length ≤ r.length + 1 := by have := length_upTo (sortI (x :: r)).toArray (sortI (x :: r)).length; rw [hsl] at this; simpa [Lib.compact, hsl] using this
    have htk := take_padI (Lib.compact (sortI (x :: r))) (r.length + 1)
    rw [hsl] at hpl
    simp at hpl hsl
    have hbig : r.length + 1 < 4611686018427387904 := by omega
    have hbig2 : r.length + 1 ≤ 9223372036854775807 := by omega
    simp [sortG, compactG, hsl, hbig, hbig2] at e1 e2
    simp [Tryz.f19, evOps_cons, wantA_some, argsTm, ann_keep_19, ann_recov_19, ann_reg_19, reg19, he, h0, hL, e1, e2]
    have hpl2 : (padI (Lib.compact (sortI (x :: r))) (r.length + 1)).length = r.length + 1 := by
      have := length_padI (sortI (x :: r))
      rw [length_sortI] at this
      simpa using this
    rw [if_pos ⟨hpl2, hcl⟩]
    congr 1
    unfold ints
    rw [← List.map_take, htk]
end AE
end Go.Proofs.YthoomlenmgdebaaGreatDoor
