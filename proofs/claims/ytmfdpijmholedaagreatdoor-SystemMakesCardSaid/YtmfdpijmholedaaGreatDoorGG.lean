/- The reference's order of values; evaluated. -/
import Derived.Test.YtmfdpijmholedaaGreatDoorGF
set_option linter.unusedVariables false
set_option linter.unusedSimpArgs false
namespace Go.Proofs.YtmfdpijmholedaaGreatDoor
namespace AE
open Go
set_option maxHeartbeats 4000000 in
theorem ev_RCompare (N : Nat) : ∀ (u : Val), u.nodes ≤ N → u.nodes ≤ 1000000000 → slimV u → ∀ (v : Val) (m : Mem), evCall C0 86 [.agg u.cells, .agg v.cells] m = some (.ret (.int .i64 (cmpV u v)), m) := by
  induction N with
  | zero => intro u hN; have := u.nodes_pos; omega
  | succ N ih =>
  intro u hN hb hs v m
  rw [slimV_eq] at hs
  have hlen := u.length_args
  rw [evCall_body C0 (C0_ext _ (by decide)) (by rw [C0_P]; exact Tryz.func86) rfl (by rw [C0_ann]; rfl) (by rw [C0_ann]; rfl) (by decide) (by simp [Tryz.f86])]
  rw [cmpV_eq]
  by_cases c1 : u.num = v.num
  case neg =>
    have he := ev_rorder u.num v.num
    rw [if_neg (fun h => c1 (numC_zero.1 h))]
    simp [Tryz.f86, a86, reg86, loop86, draw86, dok86, c1, he]
  rw [if_pos (numC_zero.2 c1)]
  simp [Tryz.f86, a86, reg86, loop86, draw86, dok86, c1]
  refine loop_in (fun i : Nat => ⟨[(2, .ptr m.bx.length 0), (3, .ptr (m.bx.length + 1) 0), (5, .int .i64 i)], ⟨m.bx ++ [u.cells, v.cells], m.rw⟩⟩)
    (fun i => some (.ret (.int .i64 (if cmpL (u.args.drop i) (v.args.drop i) = 0 then lexI u.ws v.ws else cmpL (u.args.drop i) (v.args.drop i))), m)) (fun i => u.args.length - i) (fun i => i ≤ u.args.length ∧ i ≤ v.args.length) 0 ?_ ?_ ?_ ?_ ?_
  · simp [c1]
  · simp
  · simp
  · intro x; simp [Tryz.f86, a86, reg86, loop86, draw86, dok86]
  · rintro i ⟨hi, hi'⟩ hrec
    by_cases hlt : i < u.args.length
    · by_cases hlt' : i < v.args.length
      · have w2 : IntKind.i64.wrap (i + 1) = i + 1 := wrap_id _ (by omega)
        have m0 := Val.nodes_arg (List.getElem_mem hlt)
        have he := ih u.args[i] (by omega) (by omega) (slimL_mem hs.2 (List.getElem_mem hlt)) v.args[i]
        simp at he
        have h3 : (i + 1) * 3 ≤ u.args.length * 3 := by omega
        have h4 : (i + 1) * 3 ≤ v.args.length * 3 := by omega
        rw [cmpL_drop hlt hlt']
        by_cases hc : cmpV u.args[i] v.args[i] = 0
        · simp [hc] at he
          simp [round, Tryz.f86, a86, reg86, loop86, draw86, dok86, hlt, hlt', w2, h3, h4, he, hc, endRound_M]
          refine hrec (i + 1) _ _ ?_ ?_ ?_ ?_
          · omega
          · omega
          · simp
          · simp
        · clear hrec
          simp [round, Tryz.f86, a86, reg86, loop86, draw86, dok86, hlt, hlt', w2, h3, h4, he, hc]
      · clear hrec
        have hv : i = v.args.length := by omega
        have he := ev_rorder u.args.length v.args.length
        have hnc : numC (u.args.length : Int) v.args.length = 1 := by unfold numC; rw [if_neg (by omega), if_pos (by omega)]
        rw [cmpL_long hlt hlt']
        simp [round, Tryz.f86, a86, reg86, loop86, draw86, dok86, hlt, hlt', he, hnc, show ¬ (u.args.length : Int) = v.args.length by omega]
    · by_cases hlt' : i < v.args.length
      · clear hrec
        have he := ev_rorder u.args.length v.args.length
        have hnc : numC (u.args.length : Int) v.args.length = -1 := by unfold numC; rw [if_pos (by omega)]
        rw [cmpL_short hlt hlt']
        simp [round, Tryz.f86, a86, reg86, loop86, draw86, dok86, hlt, hlt', he, hnc, show ¬ (u.args.length : Int) = v.args.length by omega]
      · clear hrec ih
        have hu : i = u.args.length := by omega
        have hv : i = v.args.length := by omega
        have hl : u.args.length = v.args.length := by omega
        rw [cmpL_end hlt hlt', if_pos rfl]
        simp [round, Tryz.f86, a86, reg86, loop86, draw86, dok86, hlt, hlt', hl]
        refine loop_in (fun i : Nat => ⟨[(2, .ptr m.bx.length 0), (3, .ptr (m.bx.length + 1) 0), (7, .int .i64 i)], ⟨m.bx ++ [u.cells, v.cells], m.rw⟩⟩)
          (fun i => some (.ret (.int .i64 (lexI (u.ws.drop i) (v.ws.drop i))), m)) (fun i => u.ws.length - i) (fun i => i ≤ u.ws.length ∧ i ≤ v.ws.length) 0 ?_ ?_ ?_ ?_ ?_
        · simp [hl]
        · simp
        · simp
        · intro x; simp [Tryz.f86, a86, reg86, loop86, draw86, dok86]
        · rintro j ⟨hj, hj'⟩ hrec
          by_cases hjt : j < u.ws.length
          · by_cases hjt' : j < v.ws.length
            · have w2 : IntKind.i64.wrap (j + 1) = j + 1 := wrap_id _ (by omega)
              have a1 := ints_at hjt
              have a2 := ints_at hjt'
              have h3 : j + 1 ≤ u.ws.length := by omega
              have h4 : j + 1 ≤ v.ws.length := by omega
              have he := ev_rorder u.ws[j] v.ws[j]
              rw [lexI_drop hjt hjt']
              generalize u.ws[j] = x at a1 he ⊢
              generalize v.ws[j] = y at a2 he ⊢
              by_cases hc : x = y
              · rw [if_pos (numC_zero.2 hc)]
                simp [round, Tryz.f86, a86, reg86, loop86, draw86, dok86, hjt, hjt', w2, h3, h4, a1, a2, hc, endRound_M]
                refine hrec (j + 1) _ _ ?_ ?_ ?_ ?_
                · omega
                · omega
                · simp
                · simp
              · clear hrec
                rw [if_neg (fun h => hc (numC_zero.1 h))]
                simp [round, Tryz.f86, a86, reg86, loop86, draw86, dok86, hjt, hjt', w2, h3, h4, a1, a2, hc, he]
            · clear hrec
              have he := ev_rorder u.ws.length v.ws.length
              have hnc : numC (u.ws.length : Int) v.ws.length = 1 := by unfold numC; rw [if_neg (by omega), if_pos (by omega)]
              rw [lexI_long hjt hjt']
              simp [round, Tryz.f86, a86, reg86, loop86, draw86, dok86, hjt, hjt', he, hnc]
          · by_cases hjt' : j < v.ws.length
            · clear hrec
              have he := ev_rorder u.ws.length v.ws.length
              have hnc : numC (u.ws.length : Int) v.ws.length = -1 := by unfold numC; rw [if_pos (by omega)]
              rw [lexI_short hjt hjt']
              simp [round, Tryz.f86, a86, reg86, loop86, draw86, dok86, hjt, hjt', he, hnc]
            · clear hrec
              have he := ev_rorder u.ws.length v.ws.length
              have hnc : numC (u.ws.length : Int) v.ws.length = 0 := by unfold numC; rw [if_neg (by omega), if_neg (by omega)]
              rw [lexI_end hjt hjt']
              simp [round, Tryz.f86, a86, reg86, loop86, draw86, dok86, hjt, hjt', he, hnc]
theorem ev_RSameV (u v : Val) (hb : u.nodes ≤ 1000000000) (hs : slimV u) (m : Mem) : evCall C0 41 [.agg u.cells, .agg v.cells] m = some (.ret (.bool (decide (cmpV u v = 0))), m) := by
  rw [evCall_body C0 (C0_ext _ (by decide)) (by rw [C0_P]; exact Tryz.func41) rfl (by rw [C0_ann]; rfl) (by rw [C0_ann]; rfl) (by decide) (by simp [Tryz.f41])]
  have he := ev_RCompare u.nodes u (Nat.le_refl _) hb hs v
  simp at he
  simp [Tryz.f41, a41, reg41, he]
def partsL (f : Fun) (v : Val) : List Fun := if f.kind = 0 ∨ f.kind = 1 then [] else if f.kind = 2 then f.args else if f.kind = 3 then (if 0 ≤ v.num ∧ v.num ≤ 1 then [argF f v.num 0] else []) else if f.kind = 4 then List.replicate f.num.toNat (f.args.getD 0 fun0) else List.replicate v.args.length (f.args.getD 0 fun0)
def partsB (f : Fun) (v : Val) : Bool := decide ((partsL f v).length = v.args.length) && (!decide (f.kind = 3) || decide (0 ≤ v.num ∧ v.num ≤ 1))
def repA (n i : Nat) : A := if i = 0 then .nils else .sl n (i * 3) 0 i
def repR (g : Fun) (i : Nat) : List Row := if i = 0 then [] else [⟨24, Fun.cellsL (List.replicate i g)⟩]
theorem cells_rep (g : Fun) (i : Nat) : Fun.cellsL (List.replicate (i + 1) g) = Fun.cellsL (List.replicate i g) ++ g.cells := by
  rw [List.replicate_succ', Fun.cellsL_append, Fun.cellsL, Fun.cellsL_nil, List.append_nil]
set_option maxHeartbeats 4000000 in
theorem ev_Parts (f : Fun) (v : Val) (hf : shapedF f = true) (hb : v.nodes ≤ 1000000000) (m : Mem) : evCall C0 87 [.agg f.cells, .agg v.cells] m = some (.ret (.tup [.isl false (partsL f v).length (Fun.cellsL (partsL f v)), .bool (partsB f v)]), m) := by
  rw [evCall_body C0 (C0_ext _ (by decide)) (by rw [C0_P]; exact Tryz.func87) rfl (by rw [C0_ann]; rfl) (by rw [C0_ann]; rfl) (by decide) (by simp [Tryz.f87])]
  have wr2 : IntKind.i64.wrap 2 = 2 := by decide
  have hlen := v.length_args
  unfold partsB partsL
  rcases shaped_kind hf with ⟨hk, hfl⟩ | ⟨hk, hfl⟩ | ⟨hk, hfl⟩ | ⟨hk, hfl⟩ | ⟨hk, hfl⟩ | ⟨hk, hfl⟩ | ⟨hk, hfl⟩ | ⟨hk, hfl⟩
  · by_cases h0 : v.args.length = 0
    · simp [Tryz.f87, a87, reg87, loop87, draw87, dok87, hk, h0]
    · simp [Tryz.f87, a87, reg87, loop87, draw87, dok87, hk, h0, show ¬ (0 : Int) = v.args.length by omega, show ¬ 0 = v.args.length by omega]
  · by_cases h0 : v.args.length = 0
    · simp [Tryz.f87, a87, reg87, loop87, draw87, dok87, hk, h0]
    · simp [Tryz.f87, a87, reg87, loop87, draw87, dok87, hk, h0, show ¬ (0 : Int) = v.args.length by omega, show ¬ 0 = v.args.length by omega]
  · by_cases h0 : v.args.length = 2
    · simp [Tryz.f87, a87, reg87, loop87, draw87, dok87, hk, hfl, h0]
    · simp [Tryz.f87, a87, reg87, loop87, draw87, dok87, hk, hfl, h0, show ¬ (2 : Int) = v.args.length by omega, show ¬ 2 = v.args.length by omega]
  · by_cases h1 : v.num < 0
    · simp [Tryz.f87, a87, reg87, loop87, draw87, dok87, hk, hfl, h1, show ¬ 0 ≤ v.num by omega]
    by_cases h2 : 1 < v.num
    · simp [Tryz.f87, a87, reg87, loop87, draw87, dok87, hk, hfl, h1, h2, show ¬ v.num ≤ 1 by omega]
    rcases (show v.num = 0 ∨ v.num = 1 by omega) with cn | cn
    · have g0 : argF f v.num 0 = f.args[0] := by unfold argF; rw [if_neg (by omega), if_pos hk, cn, List.getD_eq_getElem?_getD, List.getElem?_eq_getElem (by simp; omega)]; rfl
      rw [cn] at g0
      have b1 := Fun.at_cellsL f.args 0 (by omega)
      simp at b1
      by_cases h0 : v.args.length = 1
      · simp [Tryz.f87, a87, reg87, loop87, draw87, dok87, hk, hfl, cn, h0, g0, b1, wr2, Fun.cellsL]
      · simp [Tryz.f87, a87, reg87, loop87, draw87, dok87, hk, hfl, cn, h0, g0, b1, wr2, Fun.cellsL, show ¬ (1 : Int) = v.args.length by omega, show ¬ 1 = v.args.length by omega]
    · have g0 : argF f v.num 0 = f.args[1] := by unfold argF; rw [if_neg (by omega), if_pos hk, cn, List.getD_eq_getElem?_getD, List.getElem?_eq_getElem (by simp; omega)]; rfl
      rw [cn] at g0
      have b1 := Fun.at_cellsL f.args 1 (by omega)
      simp at b1
      have b2 : List.drop 3 (List.take 6 (Fun.cellsL f.args)) = List.take 3 (List.drop 3 (Fun.cellsL f.args)) := by rw [List.drop_take]
      by_cases h0 : v.args.length = 1
      · simp [Tryz.f87, a87, reg87, loop87, draw87, dok87, hk, hfl, cn, h0, g0, b2, b1, wr2, Fun.cellsL]
      · simp [Tryz.f87, a87, reg87, loop87, draw87, dok87, hk, hfl, cn, h0, g0, b2, b1, wr2, Fun.cellsL, show ¬ (1 : Int) = v.args.length by omega, show ¬ 1 = v.args.length by omega]
  · have f0 : 0 < f.args.length := by omega
    have b1 := Fun.at_cellsL f.args 0 f0
    simp at b1
    have hfn := shaped_num hf
    obtain ⟨k, hkn⟩ : ∃ k : Nat, f.num = k := ⟨f.num.toNat, by omega⟩
    have gd : f.args.getD 0 fun0 = f.args[0] := by rw [List.getD_eq_getElem?_getD, List.getElem?_eq_getElem f0]; rfl
    rw [if_neg (by omega), if_neg (by omega), if_neg (by omega), if_pos hk, gd]
    simp [Tryz.f87, a87, reg87, loop87, draw87, dok87, hk, hkn]
    rw [loop_mp (fun i : Nat => ⟨[(2, .ptr m.bx.length 0), (3, .ptr (m.bx.length + 1) 0), (6, repA m.rw.length i), (60, .int .i64 k), (61, .int .i64 i)], ⟨m.bx ++ [f.cells, v.cells], m.rw ++ repR f.args[0] i⟩⟩)
      (fun i => some (.normal, ⟨[(2, .ptr m.bx.length 0), (3, .ptr (m.bx.length + 1) 0), (6, repA m.rw.length k), (60, .int .i64 k), (61, .int .i64 k), (62, .bool false)], ⟨m.bx ++ [f.cells, v.cells], m.rw ++ repR f.args[0] k⟩⟩)) (fun i => k - i) (fun i => i ≤ k) 0 ?_ rfl ?_ ?_ ?_]
    · obtain ⟨j, rfl⟩ : ∃ j, k = j + 1 := ⟨k - 1, by omega⟩
      have h8 : (Fun.cellsL (List.replicate (j + 1) f.args[0])).take ((j + 1) * 3) = Fun.cellsL (List.replicate (j + 1) f.args[0]) := List.take_of_length_le (by simp)
      by_cases h0 : j + 1 = v.args.length
      · have h0' : (j : Int) + 1 = v.args.length := by omega
        simp [Tryz.f87, a87, reg87, loop87, draw87, dok87, repA, repR, h0', h8]
        exact h0
      · have h0' : ¬ (j : Int) + 1 = v.args.length := by omega
        simp [Tryz.f87, a87, reg87, loop87, draw87, dok87, repA, repR, h0, h0', h8]
    · simp [Tryz.f87, a87, reg87, loop87, draw87, dok87, hk, hkn, repA, repR]
    · omega
    · intro x; simp [Tryz.f87, a87, reg87, loop87, draw87, dok87]
    · intro i hi hrec
      by_cases hlt : i < k
      · have w2 : IntKind.i64.wrap (i + 1) = i + 1 := wrap_id _ (by omega)
        have h4 : (i + 1) * 40 ≤ 70368744177664 := by omega
        have h5 : i + 1 ≤ 70368744177664 := by omega
        cases i with
        | zero =>
          simp [round, Tryz.f87, a87, reg87, loop87, draw87, dok87, hlt, f0, show 3 ≤ f.args.length * 3 by omega, b1, repA, repR, endRound_R0]
          refine hrec 1 _ _ ?_ ?_ ?_ ?_
          · omega
          · omega
          · simp [repA, repR, cells_rep, Fun.cellsL]
          · simp [repA, repR]
        | succ j =>
          have h6 : (j + 1 + 1) * 40 ≤ 70368744177664 := by omega
          have h7 : j + 1 + 1 ≤ 70368744177664 := by omega
          simp at w2
          simp [round, Tryz.f87, a87, reg87, loop87, draw87, dok87, show (j : Int) + 1 < k by omega, w2, h6, h7, f0, show 3 ≤ f.args.length * 3 by omega, b1, repA, repR, endRound_R]
          refine hrec (j + 1 + 1) _ _ ?_ ?_ ?_ ?_
          · omega
          · omega
          · simp [repA, repR, cells_rep, Fun.cellsL]
          · simp [repA, repR]
      · clear hrec
        have : i = k := by omega
        subst this
        cases i with
        | zero => omega
        | succ j => simp [round, Tryz.f87, a87, reg87, loop87, draw87, dok87, repA, repR]
  all_goals
    have f0 : 0 < f.args.length := by omega
    have b1 := Fun.at_cellsL f.args 0 f0
    simp at b1
    have gd : f.args.getD 0 fun0 = f.args[0] := by rw [List.getD_eq_getElem?_getD, List.getElem?_eq_getElem f0]; rfl
    rw [if_neg (by omega), if_neg (by omega), if_neg (by omega), if_neg (by omega), gd]
    simp [Tryz.f87, a87, reg87, loop87, draw87, dok87, hk]
    rw [loop_mp (fun i : Nat => ⟨[(2, .ptr m.bx.length 0), (3, .ptr (m.bx.length + 1) 0), (6, repA m.rw.length i), (9, .int .i64 v.args.length), (10, .int .i64 i)], ⟨m.bx ++ [f.cells, v.cells], m.rw ++ repR f.args[0] i⟩⟩)
      (fun i => some (.normal, ⟨[(2, .ptr m.bx.length 0), (3, .ptr (m.bx.length + 1) 0), (6, repA m.rw.length v.args.length), (9, .int .i64 v.args.length), (10, .int .i64 v.args.length), (11, .bool false)], ⟨m.bx ++ [f.cells, v.cells], m.rw ++ repR f.args[0] v.args.length⟩⟩)) (fun i => v.args.length - i) (fun i => i ≤ v.args.length) 0 ?_ rfl ?_ ?_ ?_]
    · cases hl : v.args.length with
      | zero => simp [Tryz.f87, a87, reg87, loop87, draw87, dok87, repA, repR, hl]
      | succ j =>
        have h8 : (Fun.cellsL (List.replicate (j + 1) f.args[0])).take ((j + 1) * 3) = Fun.cellsL (List.replicate (j + 1) f.args[0]) := List.take_of_length_le (by simp)
        simp [Tryz.f87, a87, reg87, loop87, draw87, dok87, repA, repR, hl, h8]
    · simp [Tryz.f87, a87, reg87, loop87, draw87, dok87, hk, repA, repR]
    · omega
    · intro x; simp [Tryz.f87, a87, reg87, loop87, draw87, dok87]
    · intro i hi hrec
      by_cases hlt : i < v.args.length
      · have w2 : IntKind.i64.wrap (i + 1) = i + 1 := wrap_id _ (by omega)
        cases i with
        | zero =>
          simp [round, Tryz.f87, a87, reg87, loop87, draw87, dok87, hlt, f0, show 3 ≤ f.args.length * 3 by omega, b1, repA, repR, endRound_R0]
          refine hrec 1 _ _ ?_ ?_ ?_ ?_
          · omega
          · omega
          · simp [repA, repR, cells_rep, Fun.cellsL]
          · simp [repA, repR]
        | succ j =>
          have h6 : (j + 1 + 1) * 40 ≤ 70368744177664 := by omega
          have h7 : j + 1 + 1 ≤ 70368744177664 := by omega
          simp at w2
          simp [round, Tryz.f87, a87, reg87, loop87, draw87, dok87, show (j : Int) + 1 < v.args.length by omega, w2, h6, h7, f0, show 3 ≤ f.args.length * 3 by omega, b1, repA, repR, endRound_R]
          refine hrec (j + 1 + 1) _ _ ?_ ?_ ?_ ?_
          · omega
          · omega
          · simp [repA, repR, cells_rep, Fun.cellsL]
          · simp [repA, repR]
      · clear hrec
        have hl : i = v.args.length := by omega
        subst hl
        cases hl : v.args.length with
        | zero => simp [round, Tryz.f87, a87, reg87, loop87, draw87, dok87, repA, repR]
        | succ j => simp [round, Tryz.f87, a87, reg87, loop87, draw87, dok87, repA, repR]
mutual
def mapV (t : Int → Val) : Val → Fun → Val
  | .mk k l w, f => if f.kind = 0 then t k else if f.kind = 1 then .mk k [] [] else if f.kind = 2 then .mk 0 (mapL t l (argF f k) 0) [] else if f.kind = 3 then .mk k (mapL t l (argF f k) 0) [] else if f.kind = 4 then .mk 0 (mapL t l (argF f k) 0) [] else mergeV f.kind 0 (mapL t l (argF f k) 0) w
def mapL (t : Int → Val) : List Val → (Nat → Fun) → Nat → List Val
  | [], _, _ => []
  | v :: r, g, i => mapV t v (g i) :: mapL t r g (i + 1)
end
def idV (x : Int) : Val := .mk x [] []
theorem mapV_eq (t : Int → Val) (v : Val) (f : Fun) : mapV t v f = if f.kind = 0 then t v.num else if f.kind = 1 then .mk v.num [] [] else if f.kind = 2 then .mk 0 (mapL t v.args (argF f v.num) 0) [] else if f.kind = 3 then .mk v.num (mapL t v.args (argF f v.num) 0) [] else if f.kind = 4 then .mk 0 (mapL t v.args (argF f v.num) 0) [] else mergeV f.kind 0 (mapL t v.args (argF f v.num) 0) v.ws := by cases v; rw [mapV]; rfl
theorem mapL_length (t : Int → Val) : ∀ (l : List Val) (g : Nat → Fun) (i : Nat), (mapL t l g i).length = l.length
  | [], g, i => by rw [mapL]
  | v :: r, g, i => by rw [mapL, List.length_cons, List.length_cons, mapL_length t r g (i + 1)]
theorem mapL_drop {t : Int → Val} {l : List Val} {i : Nat} (h : i < l.length) (g : Nat → Fun) : mapL t (l.drop i) g i = mapV t l[i] (g i) :: mapL t (l.drop (i + 1)) g (i + 1) := by rw [List.drop_eq_getElem_cons h, mapL]
theorem head_num {n : Int} {f : Fun} {k : Int} {m : Nat} {w : List Int} (h : headL n f k m w = true) : (f.kind ≠ 0 → f.kind ≠ 1 → f.kind ≠ 3 → k = 0) ∧ (wtd f.kind = false → w = []) ∧ ((f.kind = 0 ∨ f.kind = 1) → m = 0) := by
  unfold headL at h
  simp only [Bool.and_eq_true, decide_eq_true_eq] at h
  obtain ⟨⟨h1, h2⟩, h3⟩ := h
  refine ⟨fun a b c => ?_, fun a => ?_, fun a => ?_⟩
  · rw [if_neg a, if_neg b, if_neg c] at h2
    omega
  · rw [a] at h3
    simpa using h3
  · rw [if_pos a] at h1
    simpa using h1
mutual
theorem norm_map (n : Int) : ∀ (v : Val) (f : Fun), shapedF f = true → okV exL n v f = true → normV n v f = some (mapV idV v f)
  | .mk k l w, f, hf, h => by
    rw [okV, Bool.and_eq_true, Bool.and_eq_true] at h
    obtain ⟨⟨hh, _⟩, hl⟩ := h
    obtain ⟨n1, n2, n3⟩ := head_num hh
    have hk := shaped_kind hf
    rw [normV, if_pos hh, mapV]
    by_cases h0 : f.kind = 0
    · have : l = [] := List.eq_nil_of_length_eq_zero (n3 (.inl h0))
      subst this
      rw [normL, n2 (by rw [h0]; rfl)]
      simp [h0, setsK, wtd, idV]
    by_cases h1 : f.kind = 1
    · have : l = [] := List.eq_nil_of_length_eq_zero (n3 (.inr h1))
      subst this
      rw [normL, n2 (by rw [h1]; rfl)]
      simp [h1, setsK, wtd]
    rw [normL_map n l _ 0 (argF_shaped hf h0 h1 hh) hl, if_neg h0, if_neg h1, Option.map_some]
    by_cases h2 : f.kind = 2
    · rw [n1 h0 h1 (by omega), n2 (by rw [h2]; rfl)]
      simp [h2, setsK, wtd]
    by_cases h3 : f.kind = 3
    · rw [n2 (by rw [h3]; rfl)]
      simp [h3, setsK, wtd]
    by_cases h4 : f.kind = 4
    · rw [n1 h0 h1 h3, n2 (by rw [h4]; rfl)]
      simp [h4, setsK, wtd]
    rw [if_neg h2, if_neg h3, if_neg h4, n1 h0 h1 h3, if_pos]
    unfold setsK wtd
    simp only [Bool.or_eq_true, decide_eq_true_eq]
    omega
theorem normL_map (n : Int) : ∀ (l : List Val) (g : Nat → Fun) (i : Nat), (∀ j, j < l.length → shapedF (g (i + j)) = true) → okL exL n l g i = true → normL n l g i = some (mapL idV l g i)
  | [], g, i, _, h => by rw [normL, mapL]
  | v :: r, g, i, hg, h => by
    rw [okL, Bool.and_eq_true] at h
    rw [normL, mapL, norm_map n v (g i) (hg 0 (by simp)) h.1, normL_map n r g (i + 1) (fun j hj => by have := hg (j + 1) (by simpa using hj); rwa [show i + (j + 1) = i + 1 + j by omega] at this) h.2]
    rfl
theorem argF_shaped {n : Int} {f : Fun} {k : Int} {m : Nat} {w : List Int} (hf : shapedF f = true) (h0 : ¬ f.kind = 0) (h1 : ¬ f.kind = 1) (hh : headL n f k m w = true) : ∀ j, j < m → shapedF (argF f k (0 + j)) = true := by
  intro j hj
  have hk := shaped_kind hf
  rw [Nat.zero_add]
  unfold argF
  unfold headL at hh
  simp only [Bool.and_eq_true, decide_eq_true_eq] at hh
  obtain ⟨⟨g1, g2⟩, _⟩ := hh
  rw [if_neg (by omega)] at g1
  split
  · rename_i h2
    rw [if_pos h2] at g1
    simp only [decide_eq_true_eq] at g1
    rw [List.getD_eq_getElem?_getD, List.getElem?_eq_getElem (by omega)]
    exact shaped_arg hf (by omega)
  · rename_i h2
    rw [if_neg h2] at g1
    split
    · rename_i h3
      rw [if_pos h3] at g1
      simp only [decide_eq_true_eq] at g1
      rw [List.getD_eq_getElem?_getD, List.getElem?_eq_getElem (by omega)]
      exact shaped_arg hf (by omega)
    · rw [List.getD_eq_getElem?_getD, List.getElem?_eq_getElem (by omega)]
      exact shaped_arg hf (by omega)
end
def wtP (u : Val) : List (Val × Int) → Int
  | [] => 0
  | p :: r => (if cmpV p.1 u = 0 then p.2 else 0) + wtP u r
theorem wtP_ins (u a : Val) (w : Int) : ∀ o : List (Val × Int), wtP u (insP a w o) = wtP u o + (if cmpV a u = 0 then w else 0)
  | [] => by simp [insP, wtP]
  | x :: r => by
    rw [insP]
    split
    · rename_i h
      rw [cmpV_zero] at h
      subst h
      simp only [wtP]
      split <;> omega
    · split
      · simp only [wtP]; omega
      · simp only [wtP, wtP_ins u a w r]; omega
theorem wtP_merge (u : Val) : ∀ l o : List (Val × Int), wtP u (mergeF o l) = wtP u l + wtP u o
  | [], o => by simp [mergeF, wtP]
  | p :: r, o => by
    rw [show mergeF o (p :: r) = mergeF (insP p.1 p.2 o) r from rfl, wtP_merge u r, wtP_ins, wtP]
    omega
theorem wtP_perm (u : Val) {l r : List (Val × Int)} (h : l.Perm r) : wtP u l = wtP u r := by
  induction h with
  | nil => rfl
  | cons x _ ih => rw [wtP, wtP, ih]
  | swap x y l => rw [wtP, wtP, wtP, wtP]; omega
  | trans _ _ ih1 ih2 => rw [ih1, ih2]
theorem insP_has {u : Val} {w : Int} : ∀ {o : List (Val × Int)} (v : Val), (∃ p, p ∈ insP u w o ∧ p.1 = v) ↔ v = u ∨ ∃ p, p ∈ o ∧ p.1 = v
  | [], v => by
    rw [insP]
    simp
    exact eq_comm
  | x :: r, v => by
    rw [insP]
    split
    · rename_i h
      rw [cmpV_zero] at h
      subst h
      simp only [List.mem_cons, exists_eq_or_imp]
      constructor
      · exact fun h => .inr h
      · rintro (h | h)
        · exact .inl h.symm
        · exact h
    · split
      · simp only [List.mem_cons, exists_eq_or_imp]
        constructor
        · rintro (h | h)
          · exact .inl h.symm
          · exact .inr h
        · rintro (h | h)
          · exact .inl h.symm
          · exact .inr h
      · simp only [List.mem_cons, exists_eq_or_imp, insP_has v]
        constructor
        · rintro (h | h | h)
          · exact .inr (.inl h)
          · exact .inl h
          · exact .inr (.inr h)
        · rintro (h | h | h)
          · exact .inr (.inl h)
          · exact .inl h
          · exact .inr (.inr h)
theorem mergeF_has (v : Val) : ∀ l o : List (Val × Int), (∃ p, p ∈ mergeF o l ∧ p.1 = v) ↔ (∃ p, p ∈ l ∧ p.1 = v) ∨ ∃ p, p ∈ o ∧ p.1 = v
  | [], o => by simp [mergeF]
  | x :: r, o => by
    rw [show mergeF o (x :: r) = mergeF (insP x.1 x.2 o) r from rfl, mergeF_has v r, insP_has]
    simp only [List.mem_cons, exists_eq_or_imp]
    constructor
    · rintro (h | h | h)
      · exact .inl (.inr h)
      · exact .inl (.inl h.symm)
      · exact .inr h
    · rintro ((h | h) | h)
      · exact .inr (.inl h.symm)
      · exact .inl h
      · exact .inr (.inr h)
theorem wtP_none {u : Val} : ∀ {l : List (Val × Int)}, (∀ p, p ∈ l → cmpV p.1 u ≠ 0) → wtP u l = 0
  | [], _ => rfl
  | p :: r, h => by rw [wtP, if_neg (h p List.mem_cons_self), wtP_none fun q hq => h q (List.mem_cons_of_mem _ hq)]; rfl
theorem lists_eq : ∀ {l r : List (Val × Int)}, l.Pairwise LtP → r.Pairwise LtP → (∀ v, (∃ p, p ∈ l ∧ p.1 = v) ↔ ∃ p, p ∈ r ∧ p.1 = v) → (∀ v, wtP v l = wtP v r) → l = r
  | [], [], _, _, _, _ => rfl
  | [], y :: r, _, _, h, _ => by obtain ⟨p, hp, _⟩ := (h y.1).2 ⟨y, List.mem_cons_self, rfl⟩; cases hp
  | x :: l, [], _, _, h, _ => by obtain ⟨p, hp, _⟩ := (h x.1).1 ⟨x, List.mem_cons_self, rfl⟩; cases hp
  | x :: l, y :: r, hl, hr, h, hw => by
    rw [List.pairwise_cons] at hl hr
    have e : x.1 = y.1 := by
      obtain ⟨p, hp, e1⟩ := (h x.1).1 ⟨x, List.mem_cons_self, rfl⟩
      rcases List.mem_cons.1 hp with rfl | hp
      · exact e1.symm
      · obtain ⟨q, hq, e2⟩ := (h y.1).2 ⟨y, List.mem_cons_self, rfl⟩
        rcases List.mem_cons.1 hq with rfl | hq
        · exact e2
        · have h1 := hr.1 p hp
          have h2 := hl.1 q hq
          unfold LtP at h1 h2
          rw [e1] at h1
          rw [e2] at h2
          have := cmpV_anti x.1 y.1
          omega
    have nl : ∀ p, p ∈ l → cmpV p.1 x.1 ≠ 0 := fun p hp => by
      have := hl.1 p hp
      unfold LtP at this
      have := cmpV_anti x.1 p.1
      omega
    have nr : ∀ p, p ∈ r → cmpV p.1 x.1 ≠ 0 := fun p hp => by
      have := hr.1 p hp
      unfold LtP at this
      rw [← e] at this
      have := cmpV_anti x.1 p.1
      omega
    have e2 : x.2 = y.2 := by
      have := hw x.1
      rw [wtP, wtP, wtP_none nl, wtP_none nr, ← e, cmpV_self] at this
      simpa using this
    have hxy : x = y := Prod.ext e e2
    subst hxy
    rw [lists_eq hl.2 hr.2 (fun v => ?_) fun v => ?_]
    · constructor
      · rintro ⟨p, hp, rfl⟩
        obtain ⟨q, hq, e3⟩ := (h p.1).1 ⟨p, List.mem_cons_of_mem _ hp, rfl⟩
        rcases List.mem_cons.1 hq with rfl | hq
        · exact absurd ((cmpV_zero _ _).2 e3.symm) (nl p hp)
        · exact ⟨q, hq, e3⟩
      · rintro ⟨p, hp, rfl⟩
        obtain ⟨q, hq, e3⟩ := (h p.1).2 ⟨p, List.mem_cons_of_mem _ hp, rfl⟩
        rcases List.mem_cons.1 hq with rfl | hq
        · exact absurd ((cmpV_zero _ _).2 e3.symm) (nr p hp)
        · exact ⟨q, hq, e3⟩
    · have := hw v
      rw [wtP, wtP] at this
      omega
theorem merge_perm {l r : List (Val × Int)} (h : l.Perm r) : mergeF [] l = mergeF [] r :=
  lists_eq (mergeF_sorted _ _ List.Pairwise.nil) (mergeF_sorted _ _ List.Pairwise.nil)
    (fun v => by rw [mergeF_has, mergeF_has]; simp only [h.mem_iff]) (fun v => by rw [wtP_merge, wtP_merge, wtP_perm v h])
def posP (u : Val) : List (Val × Int) → Nat × Int
  | [] => (0, 1)
  | p :: r => if 0 < cmpV u p.1 then ((posP u r).1 + 1, (posP u r).2) else (0, cmpV u p.1)
theorem posP_drop {u : Val} {o : List (Val × Int)} {i : Nat} (h : i < o.length) : posP u (o.drop i) = if 0 < cmpV u o[i].1 then ((posP u (o.drop (i + 1))).1 + 1, (posP u (o.drop (i + 1))).2) else (0, cmpV u o[i].1) := by rw [List.drop_eq_getElem_cons h, posP]
theorem posP_le (u : Val) : ∀ o : List (Val × Int), (posP u o).1 ≤ o.length
  | [] => by rw [posP]; simp
  | p :: r => by
    rw [posP]
    have := posP_le u r
    split
    · simp; omega
    · simp
theorem posP_end (u : Val) : ∀ o : List (Val × Int), (posP u o).1 = o.length → (posP u o).2 = 1
  | [], _ => by rw [posP]
  | p :: r, h => by
    rw [posP] at h ⊢
    split at h
    · rename_i hc
      rw [if_pos hc]
      exact posP_end u r (by simpa using h)
    · simp at h
theorem posP_in (u : Val) : ∀ o : List (Val × Int), (h : (posP u o).1 < o.length) → (posP u o).2 = cmpV u (o[(posP u o).1]).1 ∧ (posP u o).2 ≤ 0
  | p :: r, h => by
    by_cases hc : 0 < cmpV u p.1
    · have e : posP u (p :: r) = ((posP u r).1 + 1, (posP u r).2) := by rw [posP, if_pos hc]
      have h' : (posP u r).1 < r.length := by rw [e] at h; simpa using h
      have := posP_in u r h'
      simp only [e, List.getElem_cons_succ]
      exact this
    · have e : posP u (p :: r) = (0, cmpV u p.1) := by rw [posP, if_neg hc]
      simp only [e, List.getElem_cons_zero]
      exact ⟨trivial, by omega⟩
theorem insP_same {u : Val} {w : Int} : ∀ {o : List (Val × Int)}, (posP u o).2 = 0 → ∃ h : (posP u o).1 < o.length, insP u w o = o.set (posP u o).1 (o[(posP u o).1].1, o[(posP u o).1].2 + w) ∧ o[(posP u o).1].1 = u
  | [], h => by rw [posP] at h; cases h
  | p :: r, h => by
    by_cases hc : 0 < cmpV u p.1
    · have e : posP u (p :: r) = ((posP u r).1 + 1, (posP u r).2) := by rw [posP, if_pos hc]
      rw [e] at h
      obtain ⟨h1, h2, h3⟩ := insP_same (w := w) h
      refine ⟨by rw [e]; simpa using h1, ?_, ?_⟩
      · rw [insP, if_neg (by omega), if_neg (by omega), h2]
        simp only [e, List.set_cons_succ, List.getElem_cons_succ]
      · simp only [e, List.getElem_cons_succ]
        exact h3
    · have e : posP u (p :: r) = (0, cmpV u p.1) := by rw [posP, if_neg hc]
      rw [e] at h
      refine ⟨by rw [e]; simp, ?_, ?_⟩
      · rw [insP, if_pos h]
        simp only [e, List.set_cons_zero, List.getElem_cons_zero]
      · simp only [e, List.getElem_cons_zero]
        exact ((cmpV_zero _ _).1 h).symm
theorem insP_new {u : Val} {w : Int} : ∀ {o : List (Val × Int)}, (posP u o).2 ≠ 0 → insP u w o = o.take (posP u o).1 ++ (u, w) :: o.drop (posP u o).1
  | [], h => by rw [posP, insP]; rfl
  | p :: r, h => by
    by_cases hc : 0 < cmpV u p.1
    · have e : posP u (p :: r) = ((posP u r).1 + 1, (posP u r).2) := by rw [posP, if_pos hc]
      rw [e] at h ⊢
      rw [insP, if_neg (by omega), if_neg (by omega), insP_new h]
      rfl
    · have e : posP u (p :: r) = (0, cmpV u p.1) := by rw [posP, if_neg hc]
      rw [e] at h ⊢
      simp only at h
      rw [insP, if_neg h, if_pos (by omega)]
      rfl
theorem closed_up {nb nr : Nat} {cs : List A} (h : cs.all (closed 0 0) = true) : cs.all (closed nb nr) = true := by
  rw [List.all_eq_true] at h ⊢
  exact fun x hx => closed_mono (Nat.zero_le _) (Nat.zero_le _) x (h x hx)
theorem endRound_J {l : List Nat} {M L L' : List (List A)} {R J J' : List Row} {tm : List (Nat × A)} (hJ : J'.all (fun r => r.cs.all (closed 0 0)) = true) (hL : L.length ≤ L'.length) (hl : l.all (fun t => closed (M.length + L.length) (R.length + J'.length) (lk t tm)) = true) (hc : (L'.take L.length).all (fun cs => cs.all (closed (M.length + L.length) (R.length + J'.length))) = true) :
    endRound (some l) ⟨M ++ L, R ++ J⟩ ⟨tm, ⟨M ++ L', R ++ J'⟩⟩ = some ⟨prune (some l) tm, ⟨M ++ L'.take L.length, R ++ J'⟩⟩ := by
  refine endRound_R hL hl hc ?_
  rw [List.all_eq_true] at hJ ⊢
  exact fun r hr => closed_up (hJ r hr)
def mgA (id : Nat) (o : List (Val × Int)) : A := if o.length = 0 then .nils else .sl id (o.length * 3) 0 o.length
def mgW (k : Int) (id : Nat) (o : List (Val × Int)) : A := if wtd k = false ∨ o.length = 0 then .nils else .sl id o.length 0 o.length
structure MgS where
  i : Nat
  o : List (Val × Int)
  J : List Row
  ja : Nat
  jw : Nat
structure MgOk (k : Int) (nr : Nat) (s : MgS) : Prop where
  cl : s.J.all (fun r => r.cs.all (closed 0 0)) = true
  ra : 0 < s.o.length → s.J[s.ja]? = some ⟨47, Val.cellsL (s.o.map (·.1))⟩
  rw : 0 < s.o.length → wtd k = true → s.J[s.jw]? = some ⟨3, ints (s.o.map (·.2))⟩ ∧ s.ja ≠ s.jw
  ps : wtd k = true → ∀ p, p ∈ s.o → 1 ≤ p.2
theorem app_at {α : Type} (R J : List α) (j : Nat) : (R ++ J)[R.length + j]? = J[j]? := by
  rw [List.getElem?_append_right (by omega), Nat.add_sub_cancel_left]
theorem app_set {α : Type} (R J : List α) (j : Nat) (x : α) : (R ++ J).set (R.length + j) x = R ++ J.set j x := by
  rw [List.set_append_right _ _ (by omega), Nat.add_sub_cancel_left]
theorem take_cellsL (l : List Val) (a : Nat) (h : a ≤ l.length) : (Val.cellsL l).take (a * 3) = Val.cellsL (l.take a) := by
  have h1 : (Val.cellsL (l.take a)).length = a * 3 := by rw [Val.cellsL_length, List.length_take, Nat.min_eq_left h]
  have h2 : Val.cellsL l = Val.cellsL (l.take a) ++ Val.cellsL (l.drop a) := by rw [← Val.cellsL_append, List.take_append_drop]
  rw [h2, ← h1, List.take_left]
theorem drop_cellsL (l : List Val) (a : Nat) (h : a ≤ l.length) : (Val.cellsL l).drop (a * 3) = Val.cellsL (l.drop a) := by
  have h1 : (Val.cellsL (l.take a)).length = a * 3 := by rw [Val.cellsL_length, List.length_take, Nat.min_eq_left h]
  have h2 : Val.cellsL l = Val.cellsL (l.take a) ++ Val.cellsL (l.drop a) := by rw [← Val.cellsL_append, List.take_append_drop]
  rw [h2, ← h1, List.drop_left]
theorem cells_ins (o : List (Val × Int)) (a : Nat) (u : Val) (w : Int) (h : a ≤ o.length) : (Val.cellsL (o.map (·.1))).take (a * 3) ++ (u.cells ++ (Val.cellsL (o.map (·.1))).drop (a * 3)) = Val.cellsL ((o.take a ++ (u, w) :: o.drop a).map (·.1)) := by
  rw [take_cellsL _ _ (by simpa using h), drop_cellsL _ _ (by simpa using h), List.map_append, Val.cellsL_append, List.map_cons, Val.cellsL, List.map_take, List.map_drop]
theorem all_set {p : Row → Bool} {J : List Row} (h : J.all p = true) (i : Nat) (r : Row) (hr : p r = true) : (J.set i r).all p = true := by
  rw [List.all_eq_true] at h ⊢
  intro x hx
  rcases List.mem_or_eq_of_mem_set hx with h1 | h1
  · exact h x h1
  · rw [h1]; exact hr
theorem sum_pos : ∀ {o : List (Val × Int)}, (∀ p, p ∈ o → 1 ≤ p.2) → 0 ≤ (o.map (·.2)).sum
  | [], _ => by simp
  | p :: r, h => by
    have := sum_pos fun q hq => h q (List.mem_cons_of_mem _ hq)
    have := h p List.mem_cons_self
    simp
    omega
theorem mem_sum : ∀ {o : List (Val × Int)} {q : Val × Int}, (∀ p, p ∈ o → 1 ≤ p.2) → q ∈ o → q.2 ≤ (o.map (·.2)).sum
  | p :: r, q, h, hq => by
    have h1 := sum_pos fun q hq => h q (List.mem_cons_of_mem p hq)
    have h2 := h p List.mem_cons_self
    simp only [List.map_cons, List.sum_cons]
    rcases List.mem_cons.1 hq with rfl | hq
    · omega
    · have := mem_sum (fun q hq => h q (List.mem_cons_of_mem p hq)) hq
      omega
theorem int_sum_pos : ∀ {o : List Int}, (∀ p, p ∈ o → 1 ≤ p) → 0 ≤ o.sum
  | [], _ => by simp
  | p :: r, h => by
    have := int_sum_pos fun q hq => h q (List.mem_cons_of_mem _ hq)
    have := h p List.mem_cons_self
    simp
    omega
theorem merge_bounds {k : Int} {v : Val} {o : List (Val × Int)} {i : Nat} (hk : wtd k = true) (hw : wtd k = true → v.ws.length = v.args.length ∧ (∀ w, w ∈ v.ws → 1 ≤ w) ∧ v.ws.sum ≤ 1048576) (hmg : mergeF o ((v.args.zip (wsOf k v.args v.ws)).drop i) = mergeP k v.args v.ws) (hlt : i < v.args.length) (hps : ∀ p, p ∈ o → 1 ≤ p.2) :
    ∃ h : i < v.ws.length, (wsOf k v.args v.ws).getD i 0 = v.ws[i] ∧ 1 ≤ v.ws[i] ∧ v.ws[i] ≤ 1048576 - (o.map (·.2)).sum ∧ (∀ p, p ∈ o → 1 ≤ p.2) := by
  obtain ⟨h1, h2, h3⟩ := hw hk
  have hz : wsOf k v.args v.ws = v.ws := by unfold wsOf; rw [hk, if_pos rfl]
  have hi : i < v.ws.length := by omega
  refine ⟨hi, ?_, h2 _ (List.getElem_mem hi), ?_, hps⟩
  · rw [hz, List.getD_eq_getElem?_getD, List.getElem?_eq_getElem hi]; rfl
  · have e := congrArg (fun l : List (Val × Int) => (l.map (·.2)).sum) hmg
    simp only [mergeP] at e
    rw [mergeF_sum, mergeF_sum, hz, zip_snd_map h1, List.map_drop, zip_snd_map h1, List.drop_eq_getElem_cons hi, List.sum_cons] at e
    have h4 : 0 ≤ (v.ws.drop (i + 1)).sum := int_sum_pos fun p hp => h2 p (List.mem_of_mem_drop hp)
    simp at e
    omega
theorem mgW_closed {k : Int} {n jw : Nat} {J : List Row} {o : List (Val × Int)} {p : Prop} (h : 0 < o.length → wtd k = true → J[jw]? = some ⟨3, ints (o.map (·.2))⟩ ∧ p) (nb : Nat) : closed nb (n + J.length) (mgW k (n + jw) o) = true := by
  unfold mgW
  split
  · simp
  · rename_i hc
    simp only [not_or, Bool.not_eq_false] at hc
    have := (List.getElem?_eq_some_iff.1 (h (by omega) hc.1).1).1
    simp
    omega
def mwA (k : Int) (iv : Nat) (v : Val) : A := if wtd k = false then .nils else .sl iv v.ws.length 0 v.ws.length
theorem mwA_closed {k : Int} {iv : Nat} {v : Val} {R : List Row} (h : wtd k = true → R[iv]? = some ⟨3, ints v.ws⟩) (nb x : Nat) : closed nb (R.length + x) (mwA k iv v) = true := by
  unfold mwA
  split
  · simp
  · rename_i hc
    have := (List.getElem?_eq_some_iff.1 (h (by simpa using hc))).1
    simp
    omega
set_option maxHeartbeats 8000000 in
theorem ev_MergedR (k : Int) (v : Val) (ia iv : Nat) (hk : setsK k = true) (hb : v.nodes ≤ 1000000) (hs : slimV v) (hw : wtd k = true → v.ws.length = v.args.length ∧ (∀ w, w ∈ v.ws → 1 ≤ w) ∧ v.ws.sum ≤ 1048576) (h7 : k = 7 → 0 < v.args.length) (m : Mem) (hRa : m.rw[ia]? = some ⟨47, Val.cellsL v.args⟩) (hRw : wtd k = true → m.rw[iv]? = some ⟨3, ints v.ws⟩) :
    evCall C0 89 [.int .i64 k, .agg [.int .i64 v.num, .sl ia (v.args.length * 3) 0 v.args.length, mwA k iv v]] m = some (.ret (.agg (mergeV k v.num v.args v.ws).cells), m) := by
  have hlen := v.length_args
  have hia : ia < m.rw.length := (List.getElem?_eq_some_iff.1 hRa).1
  have hia2 : ∀ x, ia < m.rw.length + x := fun x => by omega
  have hRa2 := (List.getElem?_eq_some_iff.1 hRa).2
  have hmw := fun nb x => mwA_closed hRw nb x
  have hRv : wtd k = true → iv < m.rw.length ∧ ∃ h : iv < m.rw.length, m.rw[iv] = ⟨3, ints v.ws⟩ := fun h => ⟨(List.getElem?_eq_some_iff.1 (hRw h)).1, (List.getElem?_eq_some_iff.1 (hRw h))⟩
  rw [slimV_eq] at hs
  rw [evCall_body C0 (C0_ext _ (by decide)) (by rw [C0_P]; exact Tryz.func89) rfl (by rw [C0_ann]; rfl) (by rw [C0_ann]; rfl) (by decide) (by simp [Tryz.f89])]
  simp [Tryz.f89, a89, reg89, loop89, draw89, dok89, at_lt, hia, hia2, hRa2, hmw]
  refine loop_in (fun s : MgS => ⟨[(0, .int .i64 k), (3, .ptr m.bx.length 0), (4, .ptr (m.bx.length + 1) 0), (5, .ptr (m.bx.length + 2) 0), (18, .sl ia (v.args.length * 3) 0 v.args.length), (19, .int .i64 v.args.length), (20, .int .i64 s.i)],
      ⟨m.bx ++ [[.int .i64 v.num, .sl ia (v.args.length * 3) 0 v.args.length, mwA k iv v], [.int .i64 0, .nils, .nils], [.int .i64 v.num, mgA (m.rw.length + s.ja) s.o, mgW k (m.rw.length + s.jw) s.o]], m.rw ++ s.J⟩⟩)
    (fun s => some (.ret (.agg (mergeV k v.num v.args v.ws).cells), m)) (fun s => v.args.length - s.i)
    (fun s => s.i ≤ v.args.length ∧ s.o.length ≤ s.i ∧ mergeF s.o ((v.args.zip (wsOf k v.args v.ws)).drop s.i) = mergeP k v.args v.ws ∧ MgOk k m.rw.length s) ⟨0, [], [], 0, 0⟩ ?_ ?_ ?_ ?_ ?_
  · simp [mgA, mgW]
  · simp
  · refine ⟨by simp, by simp, rfl, ⟨rfl, fun h => by simp at h, fun h => by simp at h, fun _ p hp => by cases hp⟩⟩
  · intro x; simp [Tryz.f89, a89, reg89, loop89, draw89, dok89, at_lt, hia, hia2, hRa2, hmw]
  · rintro ⟨i, o, J, ja, jw⟩ ⟨hi, hol, hmg, hcl, hra, hrw, hps⟩ hrec
    simp only at hi hol hmg hcl hra hrw hps ⊢
    by_cases hlt : i < v.args.length
    · have w2 : IntKind.i64.wrap (i + 1) = i + 1 := wrap_id _ (by omega)
      have h3 : (i + 1) * 3 ≤ v.args.length * 3 := by omega
      have hm := Val.nodes_arg (List.getElem_mem hlt)
      simp [round, Tryz.f89, a89, reg89, loop89, draw89, dok89, at_lt, hia, hia2, hRa2, hmw, hlt, w2, h3, show i * 3 + 3 ≤ v.args.length * 3 by omega]
      rw [loop_mp (fun y : Nat × Int => ⟨[(0, .int .i64 k), (3, .ptr m.bx.length 0), (4, .ptr (m.bx.length + 1) 0), (5, .ptr (m.bx.length + 2) 0), (6, .int .i64 i), (7, .ptr (m.bx.length + 3) 0), (8, .int .i64 y.1), (9, .int .i64 y.2), (18, .sl ia (v.args.length * 3) 0 v.args.length), (19, .int .i64 v.args.length), (20, .int .i64 i)],
          ⟨m.bx ++ [[.int .i64 v.num, .sl ia (v.args.length * 3) 0 v.args.length, mwA k iv v], [.int .i64 0, .nils, .nils], [.int .i64 v.num, mgA (m.rw.length + ja) o, mgW k (m.rw.length + jw) o], v.args[i].cells], m.rw ++ J⟩⟩)
        (fun y => some (.normal, ⟨[(0, .int .i64 k), (3, .ptr m.bx.length 0), (4, .ptr (m.bx.length + 1) 0), (5, .ptr (m.bx.length + 2) 0), (6, .int .i64 i), (7, .ptr (m.bx.length + 3) 0), (8, .int .i64 (posP v.args[i] o).1), (9, .int .i64 (posP v.args[i] o).2), (18, .sl ia (v.args.length * 3) 0 v.args.length), (19, .int .i64 v.args.length), (20, .int .i64 i), (33, .bool false)],
          ⟨m.bx ++ [[.int .i64 v.num, .sl ia (v.args.length * 3) 0 v.args.length, mwA k iv v], [.int .i64 0, .nils, .nils], [.int .i64 v.num, mgA (m.rw.length + ja) o, mgW k (m.rw.length + jw) o], v.args[i].cells], m.rw ++ J⟩⟩))
        (fun y => 2 * (o.length - y.1) + (if 0 < y.2 then 1 else 0)) (fun y => y.1 ≤ o.length ∧ ((y.2 = 1 ∧ posP v.args[i] o = (y.1 + (posP v.args[i] (o.drop y.1)).1, (posP v.args[i] (o.drop y.1)).2)) ∨ (y.2 ≤ 0 ∧ posP v.args[i] o = (y.1, y.2)))) (0, 1) ?_ rfl ?_ ?_ ?_]
      · have hpl := posP_le v.args[i] o
        have hpe := posP_end v.args[i] o
        have hpi := posP_in v.args[i] o
        have hwt := ev_Weighted k
        have hwl : (wsOf k v.args v.ws).length = v.args.length := by
          unfold wsOf
          cases hwk : wtd k
          · simp
          · simpa using (hw hwk).1
        have hstep : mergeF o ((v.args.zip (wsOf k v.args v.ws)).drop i) = mergeF (insP v.args[i] ((wsOf k v.args v.ws).getD i 0) o) ((v.args.zip (wsOf k v.args v.ws)).drop (i + 1)) := by
          have hz : i < (v.args.zip (wsOf k v.args v.ws)).length := by rw [List.length_zip, hwl]; omega
          rw [List.drop_eq_getElem_cons hz]
          have : (v.args.zip (wsOf k v.args v.ws))[i] = (v.args[i], (wsOf k v.args v.ws).getD i 0) := by
            rw [List.getElem_zip, List.getD_eq_getElem?_getD, List.getElem?_eq_getElem (by omega)]
            rfl
          rw [this]
          rfl
        have hwi : wtd k = true → ∃ h : i < v.ws.length, (wsOf k v.args v.ws).getD i 0 = v.ws[i] ∧ 1 ≤ v.ws[i] ∧ v.ws[i] ≤ 1048576 - (o.map (·.2)).sum ∧ (∀ p, p ∈ o → 1 ≤ p.2) := fun h => merge_bounds h hw hmg hlt (hps h)
        have hwu : wtd k = false → (wsOf k v.args v.ws).getD i 0 = 0 := fun h => by
          unfold wsOf
          rw [h]
          simp [hlt]
        generalize (wsOf k v.args v.ws).getD i 0 = wi at hstep hwi hwu
        have hps' : wtd k = true → ∀ p, p ∈ insP v.args[i] wi o → 1 ≤ p.2 := fun h => by
          obtain ⟨h1, h2, h3, h4, h5⟩ := hwi h
          exact insP_pos (by omega) h5
        have hsame := @insP_same v.args[i] wi o
        have hnew := @insP_new v.args[i] wi o
        generalize hoo : insP v.args[i] wi o = o' at hsame hnew hstep hps'
        have ho'0 : ¬ o' = [] := hoo ▸ insP_ne _ _ _
        have ho'1 : 0 < o'.length := List.length_pos_iff.2 ho'0
        generalize hpp : posP v.args[i] o = pp at hpl hpe hpi hsame hnew ⊢
        obtain ⟨a, c⟩ := pp
        simp only at hpl hpe hpi hsame hnew ⊢
        by_cases hc0 : c = 0
        · obtain ⟨hao, hse, hfe⟩ := hsame hc0
          clear hnew hpi hpe
          subst hc0
          have ho1 : 0 < o.length := by omega
          have ho0 : ¬ o = [] := fun h => by rw [h] at ho1; simp at ho1
          have hJa := hra ho1
          have hja : ja < J.length := (List.getElem?_eq_some_iff.1 hJa).1
          have hJa2 := (List.getElem?_eq_some_iff.1 hJa).2
          have hil : o'.length = o.length := by rw [hse]; simp
          have hfst : o'.map (·.1) = o.map (·.1) := by
            rw [hse, List.map_set]
            exact List.ext_getElem (by simp) fun n h1 h2 => by
              rw [List.getElem_set]
              split
              · rename_i h; subst h; simp
              · rfl
          cases hwk : wtd k
          · simp [hwk] at hwt
            simp [Tryz.f89, a89, reg89, loop89, draw89, dok89, at_lt, hia, hia2, hRa2, hmw, hwt, mgA, mgW, mwA, hwk, ho0, ho1, hao, app_at, hja, hJa2, show ¬ (a : Int) = o.length by omega, endRound_J, hcl]
            refine hrec ⟨i + 1, o', J, ja, jw⟩ _ _ ?_ ?_ ?_ ?_
            · simp; omega
            · refine ⟨by simp only; omega, by simp only; omega, ?_, ?_⟩
              · simp only
                rw [← hmg, hstep]
              · exact ⟨hcl, fun _ => by simp only; rw [hfst]; exact hJa, fun _ h => absurd h (by simp [hwk]), hps'⟩
            · simp [mgA, mgW, mwA, hwk, hil, w2, ho'0, ho0]
            · simp
          · simp [hwk] at hwt
            obtain ⟨hqv, _, hRv2⟩ := hRv hwk
            obtain ⟨hiw, hwe, hw1, hw2, hwp⟩ := hwi hwk
            obtain ⟨hqv, _, hRv2⟩ := hRv hwk
            have hqv2 : ∀ x, iv < m.rw.length + x := fun x => by omega
            obtain ⟨hJw, hne⟩ := hrw ho1 hwk
            have hjw : jw < J.length := (List.getElem?_eq_some_iff.1 hJw).1
            have hJw2 := (List.getElem?_eq_some_iff.1 hJw).2
            have hat := ints_at hiw
            have hat2 : ((ints (o.map (·.2))).drop a).take 1 = [.int .i64 o[a].2] := by
              have := ints_at (ks := o.map (·.2)) (i := a) (by simpa using hao)
              simpa using this
            rw [hwe] at hse
            have hsum := mem_sum hwp (List.getElem_mem hao)
            have hp1 := hwp _ (List.getElem_mem hao)
            have w3 : IntKind.i64.wrap (o[a].2 + v.ws[i]) = o[a].2 + v.ws[i] := wrap_id _ (by omega)
            have hset : List.take a (ints (o.map (·.2))) ++ A.int .i64 (o[a].2 + v.ws[i]) :: List.drop (a + 1) (ints (o.map (·.2))) = ints (o'.map (·.2)) := by
              rw [hse, List.map_set, List.set_eq_take_append_cons_drop, if_pos (by simpa using hao)]
              simp [ints]
            simp [Tryz.f89, a89, reg89, loop89, draw89, dok89, at_lt, hia, hia2, hRa2, hmw, hwt, mgA, mgW, mwA, hwk, ho0, ho1, hao, app_at, app_set, hja, hJa2, hjw, hJw2, hiw, hqv, hqv2, hRv2, show i + 1 ≤ v.ws.length by omega, show a + 1 ≤ o.length by omega, hat, hat2, w3, hset, show ¬ (a : Int) = o.length by omega, endRound_J, hcl, all_set]
            refine hrec ⟨i + 1, o', J.set jw ⟨3, ints (o'.map (·.2))⟩, ja, jw⟩ _ _ ?_ ?_ ?_ ?_
            · simp; omega
            · refine ⟨by simp only; omega, by simp only; omega, ?_, ?_⟩
              · simp only
                rw [← hmg, hstep]
              · exact ⟨by simp [all_set, hcl], fun _ => by simp only; rw [hfst, List.getElem?_set_ne (Ne.symm hne)]; exact hJa, fun _ _ => by simp only; exact ⟨by simp [hjw], hne⟩, hps'⟩
            · simp [mgA, mgW, mwA, hwk, hil, w2, ho'0, ho0]
            · simp
        · have hnw := hnew hc0
          clear hsame
          have hil : o'.length = o.length + 1 := by rw [hnw]; simp; omega
          have hsnd : o'.map (·.2) = (o.map (·.2)).take a ++ wi :: (o.map (·.2)).drop a := by rw [hnw]; simp
          have hrow := cells_ins o a v.args[i] wi hpl
          simp only [Val.cells_eq, List.cons_append, List.nil_append] at hrow
          rw [← hnw] at hrow
          by_cases ho : o = []
          · have ha0 : a = 0 := by rw [ho] at hpl; simpa using hpl
            subst ha0
            rw [ho] at hrow
            simp at hrow
            have hoq : o' = [(v.args[i], wi)] := by rw [hnw, ho]; rfl
            cases hwk : wtd k
            · simp [hwk] at hwt
              simp [Tryz.f89, a89, reg89, loop89, draw89, dok89, at_lt, hia, hia2, hRa2, hmw, hwt, mgA, mgW, mwA, hwk, w2, endRound_J, hcl, app_at, app_set, at_lt, ho]
              refine hrec ⟨i + 1, o', J ++ [⟨47, Val.cellsL (o'.map (·.1))⟩], J.length, 0⟩ _ _ ?_ ?_ ?_ ?_
              · simp; omega
              · refine ⟨by simp only; omega, by simp only; omega, ?_, ?_⟩
                · simp only
                  rw [← hmg, hstep]
                · exact ⟨by simp [hcl], fun _ => by simp, fun _ h => absurd h (by simp [hwk]), hps'⟩
              · simp [mgA, mgW, mwA, hwk, hil, w2, ho'0, ho, hoq, Val.cellsL]
              · simp
            · simp [hwk] at hwt
              obtain ⟨hiw, hwe, hw1, hw2, hwp⟩ := hwi hwk
              obtain ⟨hqv, _, hRv2⟩ := hRv hwk
              have hqv2 : ∀ x, iv < m.rw.length + x := fun x => by omega
              have hat := ints_at hiw
              have w3 : IntKind.i64.wrap v.ws[i] = v.ws[i] := wrap_id _ (by have := sum_pos hwp; omega)
              have hld : True := trivial
              have hst : True := trivial
              simp [Tryz.f89, a89, reg89, loop89, draw89, dok89, at_lt, hia, hia2, hRa2, hmw, hwt, mgA, mgW, mwA, hwk, w2, endRound_J, hcl, app_at, app_set, at_lt, ho, hiw, hqv, hqv2, hRv2, show i + 1 ≤ v.ws.length by omega, hat, w3]
              refine hrec ⟨i + 1, o', J ++ [⟨47, Val.cellsL (o'.map (·.1))⟩, ⟨3, ints (o'.map (·.2))⟩], J.length, J.length + 1⟩ _ _ ?_ ?_ ?_ ?_
              · simp; omega
              · refine ⟨by simp only; omega, by simp only; omega, ?_, ?_⟩
                · simp only
                  rw [← hmg, hstep]
                · exact ⟨by simp [hcl], fun _ => by simp, fun _ _ => ⟨by simp, by simp⟩, hps'⟩
              · simp [mgA, mgW, mwA, hwk, hil, w2, ho'0, ho, hoq, Val.cellsL, hwe, ints]
              · simp
          have ho1 : 0 < o.length := List.length_pos_iff.2 ho
          by_cases ha0 : a = 0
          · subst ha0
            have hcl0 : c < 0 := by have := hpi (by omega); omega
            simp at hrow
            have ho0 : ¬ o = [] := fun h => by rw [h] at ho1; simp at ho1
            have hJa := hra ho1
            have hja : ja < J.length := (List.getElem?_eq_some_iff.1 hJa).1
            have hJa2 := (List.getElem?_eq_some_iff.1 hJa).2
            have hfl : (∀ x, x ∈ Val.cellsL (o.map (·.1)) → flat x = true) = True := eq_true fun x hx => List.all_eq_true.1 (Val.flat_cellsL _) x hx
            have hall : List.take (o.length * 3) (Val.cellsL (o.map (·.1))) = Val.cellsL (o.map (·.1)) := List.take_of_length_le (by simp)
            have hallw : List.take o.length (ints (o.map (·.2))) = ints (o.map (·.2)) := List.take_of_length_le (by simp)
            cases hwk : wtd k
            · simp [hwk] at hwt
              simp [Tryz.f89, a89, reg89, loop89, draw89, dok89, at_lt, hia, hia2, hRa2, hmw, hwt, mgA, mgW, mwA, hwk, w2, endRound_J, hcl, app_at, app_set, at_lt, hall, hfl, ho0, ho1, hja, hJa2, hcl0, hrow, show ¬ (0 : Int) = o.length by omega, show ¬ o.length = 0 by omega, show (1 + o.length) * 56 ≤ 70368744177664 by omega, show 1 + o.length ≤ 70368744177664 by omega, show 3 + o.length * 3 = (1 + o.length) * 3 by omega]
              refine hrec ⟨i + 1, o', J ++ [⟨47, Val.cellsL (o'.map (·.1))⟩], J.length, 0⟩ _ _ ?_ ?_ ?_ ?_
              · simp; omega
              · refine ⟨by simp only; omega, by simp only; omega, ?_, ?_⟩
                · simp only
                  rw [← hmg, hstep]
                · exact ⟨by simp [hcl], fun _ => by simp, fun _ h => absurd h (by simp [hwk]), hps'⟩
              · simp [mgA, mgW, mwA, hwk, hil, w2, ho'0, Nat.add_comm 1 o.length]
              · simp
            · simp [hwk] at hwt
              obtain ⟨hiw, hwe, hw1, hw2, hwp⟩ := hwi hwk
              obtain ⟨hqv, _, hRv2⟩ := hRv hwk
              have hqv2 : ∀ x, iv < m.rw.length + x := fun x => by omega
              have hat := ints_at hiw
              have w3 : IntKind.i64.wrap v.ws[i] = v.ws[i] := wrap_id _ (by have := sum_pos hwp; omega)
              obtain ⟨hJw, hne⟩ := hrw ho1 hwk
              have hjw : jw < J.length := (List.getElem?_eq_some_iff.1 hJw).1
              have hJw2 := (List.getElem?_eq_some_iff.1 hJw).2
              have hld : True := trivial
              have hdr : True := trivial
              have hst : A.int .i64 v.ws[i] :: ints (o.map (·.2)) = ints (o'.map (·.2)) := by rw [hsnd, hwe]; simp [ints]
              simp [Tryz.f89, a89, reg89, loop89, draw89, dok89, at_lt, hia, hia2, hRa2, hmw, hwt, mgA, mgW, mwA, hwk, w2, endRound_J, hcl, app_at, app_set, at_lt, hall, hfl, ho0, ho1, hja, hJa2, hcl0, hrow, show ¬ (0 : Int) = o.length by omega, show ¬ o.length = 0 by omega, show (1 + o.length) * 56 ≤ 70368744177664 by omega, show 1 + o.length ≤ 70368744177664 by omega, show 3 + o.length * 3 = (1 + o.length) * 3 by omega, eq_true (show o.length + 1 = 1 + o.length by omega), show (0 : Int) < 1 + o.length by omega, show 1 ≤ 1 + o.length by omega, show 1 ≤ o.length + 1 by omega, hallw, flat_mem_ints, hjw, hJw2, show (1 + o.length) * 8 ≤ 70368744177664 by omega, hiw, hqv, hqv2, hRv2, show i + 1 ≤ v.ws.length by omega, hat, w3, hld, hdr, hst]
              refine hrec ⟨i + 1, o', J ++ [⟨47, Val.cellsL (o'.map (·.1))⟩, ⟨3, ints (o'.map (·.2))⟩], J.length, J.length + 1⟩ _ _ ?_ ?_ ?_ ?_
              · simp; omega
              · refine ⟨by simp only; omega, by simp only; omega, ?_, ?_⟩
                · simp only
                  rw [← hmg, hstep]
                · exact ⟨by simp [hcl], fun _ => by simp, fun _ _ => ⟨by simp, by simp⟩, hps'⟩
              · simp [mgA, mgW, mwA, hwk, hil, w2, ho'0, Nat.add_comm 1 o.length]
              · simp
          by_cases hal : a = o.length
          · subst hal
            rw [List.take_of_length_le (by simp), List.drop_eq_nil_of_le (by simp)] at hrow
            have ho0 : ¬ o = [] := fun h => by rw [h] at ho1; simp at ho1
            have hJa := hra ho1
            have hja : ja < J.length := (List.getElem?_eq_some_iff.1 hJa).1
            have hJa2 := (List.getElem?_eq_some_iff.1 hJa).2
            have hfl : (∀ x, x ∈ Val.cellsL (o.map (·.1)) → flat x = true) = True := eq_true fun x hx => List.all_eq_true.1 (Val.flat_cellsL _) x hx
            have hall : List.take (o.length * 3) (Val.cellsL (o.map (·.1))) = Val.cellsL (o.map (·.1)) := List.take_of_length_le (by simp)
            have hallw : List.take o.length (ints (o.map (·.2))) = ints (o.map (·.2)) := List.take_of_length_le (by simp)
            cases hwk : wtd k
            · simp [hwk] at hwt
              simp [Tryz.f89, a89, reg89, loop89, draw89, dok89, at_lt, hia, hia2, hRa2, hmw, hwt, mgA, mgW, mwA, hwk, w2, endRound_J, hcl, app_at, app_set, at_lt, hil, hall, hfl, ho0, ho1, hja, hJa2, hrow, show ¬ (0 : Int) = o.length by omega, show o.length * 3 + 3 = (o.length + 1) * 3 by omega, show o.length * 56 ≤ 70368744177664 by omega, show o.length ≤ 70368744177664 by omega, show (o.length + 1) * 56 ≤ 70368744177664 by omega, show o.length + 1 ≤ 70368744177664 by omega]
              refine hrec ⟨i + 1, o', J ++ [⟨47, Val.cellsL (o'.map (·.1))⟩], J.length, 0⟩ _ _ ?_ ?_ ?_ ?_
              · simp; omega
              · refine ⟨by simp only; omega, by simp only; omega, ?_, ?_⟩
                · simp only
                  rw [← hmg, hstep]
                · exact ⟨by simp [hcl], fun _ => by simp, fun _ h => absurd h (by simp [hwk]), hps'⟩
              · simp [mgA, mgW, mwA, hwk, hil, w2, ho'0]
              · simp
            · simp [hwk] at hwt
              obtain ⟨hiw, hwe, hw1, hw2, hwp⟩ := hwi hwk
              obtain ⟨hqv, _, hRv2⟩ := hRv hwk
              have hqv2 : ∀ x, iv < m.rw.length + x := fun x => by omega
              have hat := ints_at hiw
              have w3 : IntKind.i64.wrap v.ws[i] = v.ws[i] := wrap_id _ (by have := sum_pos hwp; omega)
              obtain ⟨hJw, hne⟩ := hrw ho1 hwk
              have hjw : jw < J.length := (List.getElem?_eq_some_iff.1 hJw).1
              have hJw2 := (List.getElem?_eq_some_iff.1 hJw).2
              have hla : (ints (o.map (·.2))).length = o.length := by simp
              have hld : List.drop o.length (ints (o.map (·.2)) ++ [A.int .i64 0]) = [A.int .i64 0] := by have := List.drop_left (l₁ := ints (o.map (·.2))) (l₂ := [A.int .i64 0]); rwa [hla] at this
              have hdr : List.drop (o.length + 1) (ints (o.map (·.2)) ++ [A.int .i64 0]) = [] := List.drop_eq_nil_of_le (by simp)
              have hst : ints (o.map (·.2)) ++ [A.int .i64 v.ws[i]] = ints (o'.map (·.2)) := by
                rw [hsnd, hwe, List.take_of_length_le (show (o.map (·.2)).length ≤ o.length by simp), List.drop_eq_nil_of_le (show (o.map (·.2)).length ≤ o.length by simp)]
                simp [ints]
              simp [Tryz.f89, a89, reg89, loop89, draw89, dok89, at_lt, hia, hia2, hRa2, hmw, hwt, mgA, mgW, mwA, hwk, w2, endRound_J, hcl, app_at, app_set, at_lt, hil, hall, hfl, ho0, ho1, hja, hJa2, hrow, show ¬ (0 : Int) = o.length by omega, show o.length * 3 + 3 = (o.length + 1) * 3 by omega, show o.length * 56 ≤ 70368744177664 by omega, show o.length ≤ 70368744177664 by omega, show (o.length + 1) * 56 ≤ 70368744177664 by omega, show o.length + 1 ≤ 70368744177664 by omega, show (o.length : Int) < (o.length : Int) + 1 by omega, hallw, flat_mem_ints, hjw, hJw2, show o.length * 8 ≤ 70368744177664 by omega, show (o.length + 1) * 8 ≤ 70368744177664 by omega, hiw, hqv, hqv2, hRv2, show i + 1 ≤ v.ws.length by omega, hat, w3, hld, hdr, hst]
              refine hrec ⟨i + 1, o', J ++ [⟨47, Val.cellsL (o'.map (·.1))⟩, ⟨3, ints (o'.map (·.2))⟩], J.length, J.length + 1⟩ _ _ ?_ ?_ ?_ ?_
              · simp; omega
              · refine ⟨by simp only; omega, by simp only; omega, ?_, ?_⟩
                · simp only
                  rw [← hmg, hstep]
                · exact ⟨by simp [hcl], fun _ => by simp, fun _ _ => ⟨by simp, by simp⟩, hps'⟩
              · simp [mgA, mgW, mwA, hwk, hil, w2, ho'0]
              · simp
          · have hcl0 : c < 0 := by have := hpi (by omega); omega
            have ho0 : ¬ o = [] := fun h => by rw [h] at ho1; simp at ho1
            have hJa := hra ho1
            have hja : ja < J.length := (List.getElem?_eq_some_iff.1 hJa).1
            have hJa2 := (List.getElem?_eq_some_iff.1 hJa).2
            have hft : (∀ x, x ∈ List.take (a * 3) (Val.cellsL (o.map (·.1))) → flat x = true) = True := eq_true fun x hx => List.all_eq_true.1 (Val.flat_cellsL _) x (List.mem_of_mem_take hx)
            have hfd : (∀ x, x ∈ List.drop (a * 3) (Val.cellsL (o.map (·.1))) → flat x = true) = True := eq_true fun x hx => List.all_eq_true.1 (Val.flat_cellsL _) x (List.mem_of_mem_drop hx)
            have htd : List.take ((o.length - a) * 3) (List.drop (a * 3) (Val.cellsL (o.map (·.1)))) = List.drop (a * 3) (Val.cellsL (o.map (·.1))) := List.take_of_length_le (by simp; omega)
            cases hwk : wtd k
            · simp [hwk] at hwt
              simp [Tryz.f89, a89, reg89, loop89, draw89, dok89, at_lt, hia, hia2, hRa2, hmw, hwt, mgA, mgW, mwA, hwk, w2, endRound_J, hcl, app_at, app_set, at_lt, hft, hfd, htd, ho0, ho1, ha0, hal, hcl0, hja, hJa2, hpl, hrow, show ¬ (a : Int) = o.length by omega, show (a : Int) ≤ o.length by omega, show ¬ (0 : Int) = a by omega, show min (a * 3) (o.length * 3) = a * 3 by omega, show a * 3 ≤ o.length * 3 by omega, show a * 3 + (o.length - a) * 3 = o.length * 3 by omega, show ((o.length : Int) - a).toNat = o.length - a by omega, show a * 3 + 3 = (a + 1) * 3 by omega, show (a + 1) * 3 + (o.length - a) * 3 = (a + 1 + (o.length - a)) * 3 by omega, show o.length * 3 - a * 3 = (o.length - a) * 3 by omega, show a * 56 ≤ 70368744177664 by omega, show a ≤ 70368744177664 by omega, show (a + 1) * 56 ≤ 70368744177664 by omega, show a + 1 ≤ 70368744177664 by omega, show (a + 1 + (o.length - a)) * 56 ≤ 70368744177664 by omega, show a + 1 + (o.length - a) ≤ 70368744177664 by omega]
              refine hrec ⟨i + 1, o', J ++ [⟨47, Val.cellsL (o'.map (·.1))⟩], J.length, 0⟩ _ _ ?_ ?_ ?_ ?_
              · simp; omega
              · refine ⟨by simp only; omega, by simp only; omega, ?_, ?_⟩
                · simp only
                  rw [← hmg, hstep]
                · exact ⟨by simp [hcl], fun _ => by simp, fun _ h => absurd h (by simp [hwk]), hps'⟩
              · simp [mgA, mgW, mwA, hwk, hil, w2, ho'0, show a + 1 + (o.length - a) = o.length + 1 by omega]
              · simp
            · simp [hwk] at hwt
              obtain ⟨hiw, hwe, hw1, hw2, hwp⟩ := hwi hwk
              obtain ⟨hqv, _, hRv2⟩ := hRv hwk
              have hqv2 : ∀ x, iv < m.rw.length + x := fun x => by omega
              have hat := ints_at hiw
              have w3 : IntKind.i64.wrap v.ws[i] = v.ws[i] := wrap_id _ (by have := sum_pos hwp; omega)
              obtain ⟨hJw, hne⟩ := hrw ho1 hwk
              have hjw : jw < J.length := (List.getElem?_eq_some_iff.1 hJw).1
              have hJw2 := (List.getElem?_eq_some_iff.1 hJw).2
              have hwft : (∀ x, x ∈ List.take a (ints (o.map (·.2))) → flat x = true) = True := eq_true fun x hx => List.all_eq_true.1 (flat_ints _) x (List.mem_of_mem_take hx)
              have hwfd : (∀ x, x ∈ List.drop a (ints (o.map (·.2))) → flat x = true) = True := eq_true fun x hx => List.all_eq_true.1 (flat_ints _) x (List.mem_of_mem_drop hx)
              have hwtd : List.take (o.length - a) (List.drop a (ints (o.map (·.2)))) = List.drop a (ints (o.map (·.2))) := List.take_of_length_le (by simp)
              have hla : (List.take a (ints (o.map (·.2)))).length = a := by simp; omega
              have hld : List.drop a (List.take a (ints (o.map (·.2))) ++ A.int .i64 0 :: List.drop a (ints (o.map (·.2)))) = A.int .i64 0 :: List.drop a (ints (o.map (·.2))) := by have := List.drop_left (l₁ := List.take a (ints (o.map (·.2)))) (l₂ := A.int .i64 0 :: List.drop a (ints (o.map (·.2)))); rwa [hla] at this
              have hdr : List.drop (a + 1) (List.take a (ints (o.map (·.2))) ++ A.int .i64 0 :: List.drop a (ints (o.map (·.2)))) = List.drop a (ints (o.map (·.2))) := by rw [← List.drop_drop, hld]; rfl
              have hst : List.take a (ints (o.map (·.2))) ++ A.int .i64 v.ws[i] :: List.drop a (ints (o.map (·.2))) = ints (o'.map (·.2)) := by rw [hsnd, hwe]; simp [ints]
              simp [Tryz.f89, a89, reg89, loop89, draw89, dok89, at_lt, hia, hia2, hRa2, hmw, hwt, mgA, mgW, mwA, hwk, w2, endRound_J, hcl, app_at, app_set, at_lt, hft, hfd, htd, ho0, ho1, ha0, hal, hcl0, hja, hJa2, hpl, hrow, show ¬ (a : Int) = o.length by omega, show (a : Int) ≤ o.length by omega, show ¬ (0 : Int) = a by omega, show min (a * 3) (o.length * 3) = a * 3 by omega, show a * 3 ≤ o.length * 3 by omega, show a * 3 + (o.length - a) * 3 = o.length * 3 by omega, show ((o.length : Int) - a).toNat = o.length - a by omega, show a * 3 + 3 = (a + 1) * 3 by omega, show (a + 1) * 3 + (o.length - a) * 3 = (a + 1 + (o.length - a)) * 3 by omega, show o.length * 3 - a * 3 = (o.length - a) * 3 by omega, show a * 56 ≤ 70368744177664 by omega, show a ≤ 70368744177664 by omega, show (a + 1) * 56 ≤ 70368744177664 by omega, show a + 1 ≤ 70368744177664 by omega, show (a + 1 + (o.length - a)) * 56 ≤ 70368744177664 by omega, show a + 1 + (o.length - a) ≤ 70368744177664 by omega, show a + (o.length - a + 1) = a + 1 + (o.length - a) by omega, show a + 1 ≤ a + 1 + (o.length - a) by omega, show (a : Int) < (a : Int) + 1 + ((o.length - a : Nat) : Int) by omega, hjw, hJw2, hwft, hwfd, hwtd, show min a o.length = a by omega, show a * 8 ≤ 70368744177664 by omega, show (a + 1) * 8 ≤ 70368744177664 by omega, show (a + 1 + (o.length - a)) * 8 ≤ 70368744177664 by omega, show a + (o.length - a) = o.length by omega, hiw, hqv, hqv2, hRv2, show i + 1 ≤ v.ws.length by omega, hat, w3, hld, hdr, hst]
              refine hrec ⟨i + 1, o', J ++ [⟨47, Val.cellsL (o'.map (·.1))⟩, ⟨3, ints (o'.map (·.2))⟩], J.length, J.length + 1⟩ _ _ ?_ ?_ ?_ ?_
              · simp; omega
              · refine ⟨by simp only; omega, by simp only; omega, ?_, ?_⟩
                · simp only
                  rw [← hmg, hstep]
                · exact ⟨by simp [hcl], fun _ => by simp, fun _ _ => ⟨by simp, by simp⟩, hps'⟩
              · simp [mgA, mgW, mwA, hwk, hil, w2, ho'0, show a + 1 + (o.length - a) = o.length + 1 by omega]
              · simp
      · simp [Tryz.f89, a89, reg89, loop89, draw89, dok89, at_lt, hia, hia2, hRa2, hmw]
      · simp
      · intro x; simp [Tryz.f89, a89, reg89, loop89, draw89, dok89, at_lt, hia, hia2, hRa2, hmw]
      · clear hrec
        rintro ⟨a, c⟩ ⟨ha, hp⟩ hrec
        simp only at ha hp ⊢
        by_cases hao : a < o.length
        · have ho0 : ¬ o = [] := fun h => by rw [h] at hao; simp at hao
          have ho1 : 0 < o.length := by omega
          have hJa := hra ho1
          have hja : ja < J.length := (List.getElem?_eq_some_iff.1 hJa).1
          have hJa2 := (List.getElem?_eq_some_iff.1 hJa).2
          have hcw := mgW_closed (k := k) (n := m.rw.length) hrw
          rcases hp with ⟨rfl, hp⟩ | ⟨hc, hp⟩
          · have w3 : IntKind.i64.wrap (a + 1) = a + 1 := wrap_id _ (by omega)
            have he := ev_RCompare v.args[i].nodes v.args[i] (Nat.le_refl _) (by omega) (slimL_mem hs.2 (List.getElem_mem hlt)) o[a].1
            simp at he
            have hat := Val.at_cellsL (o.map (·.1)) a (by simpa using hao)
            simp at hat
            have h4 : a * 3 + 3 ≤ o.length * 3 := by omega
            have h5 : 3 ≤ o.length * 3 - a * 3 := by omega
            rw [posP_drop hao] at hp
            by_cases hc : 0 < cmpV v.args[i] o[a].1
            · have hc1 : cmpV v.args[i] o[a].1 = 1 := by have := cmpV_range v.args[i] o[a].1; omega
              rw [if_pos hc] at hp
              simp [hc1] at he
              simp [round, Tryz.f89, a89, reg89, loop89, draw89, dok89, at_lt, hia, hia2, hRa2, hmw, hao, ho0, ho1, mgA, hJa2, app_at, hat, h4, h5, w3, he, endRound_J, hcl, hja, hcw]
              refine hrec (a + 1, 1) _ _ ?_ ?_ ?_ ?_
              · simp; omega
              · refine ⟨by simp only; omega, .inl ⟨rfl, ?_⟩⟩
                rw [hp]
                simp only
                exact Prod.ext (by simp only; omega) rfl
              · simp [mgA, ho0]
              · simp [mgA, ho0]
            · rw [if_neg hc] at hp
              simp [round, Tryz.f89, a89, reg89, loop89, draw89, dok89, at_lt, hia, hia2, hRa2, hmw, hao, ho0, ho1, mgA, hJa2, app_at, hat, h4, h5, w3, he, hc, endRound_J, hcl, hja, hcw]
              refine hrec (a, cmpV v.args[i] o[a].1) _ _ ?_ ?_ ?_ ?_
              · simp [hc]
              · exact ⟨ha, .inr ⟨by simp only; omega, by rw [hp]; rfl⟩⟩
              · simp [mgA, ho0]
              · simp [mgA, ho0]
          · clear hrec
            simp [round, Tryz.f89, a89, reg89, loop89, draw89, dok89, at_lt, hia, hia2, hRa2, hmw, hao, ho0, ho1, mgA, hp, show ¬ 0 < c by omega]
        · have hae : a = o.length := by omega
          clear hrec
          have hpe : posP v.args[i] o = (a, c) := by
            rcases hp with ⟨rfl, hp⟩ | ⟨hc, hp⟩
            · rw [hp, List.drop_eq_nil_of_le (by omega), posP]
              rfl
            · exact hp
          subst hae
          by_cases ho : o.length = 0
          · simp [round, Tryz.f89, a89, reg89, loop89, draw89, dok89, at_lt, hia, hia2, hRa2, hmw, mgA, hpe, ho]
          · simp [round, Tryz.f89, a89, reg89, loop89, draw89, dok89, at_lt, hia, hia2, hRa2, hmw, mgA, hpe, ho]
    · clear hrec
      have hO : o = mergeP k v.args v.ws := by
        rw [← hmg, List.drop_eq_nil_of_le (by rw [List.length_zip]; omega)]
        rfl
      have hO7 : k = 7 → 0 < o.length := fun h => by
        rw [hO]
        refine List.length_pos_iff.2 (mergeF_ne _ _ (.inr ?_))
        intro h0
        have := congrArg List.length h0
        have h1 := h7 h
        have h2 := (hw (by rw [h]; rfl)).1
        have hz : wsOf k v.args v.ws = v.ws := by unfold wsOf; rw [h]; rfl
        rw [List.length_zip, hz, h2] at this
        simp at this
        rw [this] at h1
        simp at h1
      have hO2 : wtd k = true → ∀ w, w ∈ o.map (·.2) → 1 ≤ w ∧ w ≤ 1048576 := fun h w hmem => by
        obtain ⟨p, hp, rfl⟩ := List.mem_map.1 hmem
        refine ⟨hps h p hp, ?_⟩
        have h1 := mem_sum (hps h) hp
        have h2 : (o.map (·.2)).sum = v.ws.sum := by
          have hz : wsOf k v.args v.ws = v.ws := by unfold wsOf; rw [h, if_pos rfl]
          rw [hO]
          unfold mergeP
          rw [mergeF_sum, hz, zip_snd_map (hw h).1]
          simp
        have h3 := (hw h).2.2
        omega
      unfold mergeV
      rw [← hO]
      clear hmg hO
      by_cases h7' : k = 7
      · have hwk : wtd k = true := by rw [h7']; rfl
        have hn0 : 0 < o.length := hO7 h7'
        have ho0 : ¬ o = [] := fun h => by rw [h] at hn0; simp at hn0
        have hJa := hra hn0
        have hja : ja < J.length := (List.getElem?_eq_some_iff.1 hJa).1
        have hJa2 := (List.getElem?_eq_some_iff.1 hJa).2
        obtain ⟨hJw, hne⟩ := hrw hn0 hwk
        have hjw : jw < J.length := (List.getElem?_eq_some_iff.1 hJw).1
        have hJw2 := (List.getElem?_eq_some_iff.1 hJw).2
        have hall : List.take (o.length * 3) (Val.cellsL (o.map (·.1))) = Val.cellsL (o.map (·.1)) := List.take_of_length_le (by simp)
        have hps2 := hps hwk
        have hws : ∀ w, w ∈ o.map (·.2) → 1 ≤ w ∧ w ≤ 1048576 := hO2 hwk
        have hwp : ∀ w, w ∈ o.map (·.2) → 1 ≤ w := fun w h => (hws w h).1
        have hWl : (o.map (·.2)).length = o.length := by simp
        generalize o.map (·.2) = W at *
        have hgp : 0 < gcdN W := gcdN_pos (fun h => by rw [h] at hWl; simp at hWl; omega) hwp
        simp [round, Tryz.f89, a89, reg89, loop89, draw89, dok89, at_lt, hia, hia2, hRa2, hmw, hlt, h7', ho0, mgA, mgW, mwA, hwk, wtd]
        refine loop_in (fun x : Nat × Nat => ⟨[(4, .ptr (m.bx.length + 1) 0), (5, .ptr (m.bx.length + 2) 0), (10, .int .i64 x.2), (101, .sl (m.rw.length + jw) o.length 0 o.length), (102, .int .i64 o.length), (103, .int .i64 x.1)],
            ⟨m.bx ++ [[.int .i64 v.num, .sl ia (v.args.length * 3) 0 v.args.length, mwA k iv v], [.int .i64 0, .nils, .nils], [.int .i64 v.num, .sl (m.rw.length + ja) (o.length * 3) 0 o.length, .sl (m.rw.length + jw) o.length 0 o.length]], m.rw ++ J⟩⟩)
          (fun x => some (.ret (.agg (Val.mk v.num (o.map (·.1)) (divG W)).cells), m)) (fun x => o.length - x.1) (fun x => x.1 ≤ o.length ∧ gcdF x.2 (W.drop x.1) = gcdN W) (0, 0) ?_ ?_ ?_ ?_ ?_
        · simp [mwA, hwk]
        · simp
        · simp [gcdN]
        · intro x; simp [Tryz.f89, a89, reg89, loop89, draw89, dok89, at_lt, hia, hia2, hRa2, hmw]
        · rintro ⟨j, g⟩ ⟨hj, hg⟩ hrec
          simp only at hj hg
          by_cases hjt : j < o.length
          · have w2 : IntKind.i64.wrap (j + 1) = j + 1 := wrap_id _ (by omega)
            have hjt' : j < W.length := by omega
            have hat := ints_at hjt'
            rw [gcdF_drop hjt'] at hg
            have hx := hws W[j] (List.getElem_mem hjt')
            obtain ⟨n, hn⟩ : ∃ n : Nat, W[j] = n := ⟨W[j].toNat, by omega⟩
            rw [hn] at hat hg
            simp only [Int.natAbs_natCast] at hg
            have he := ev_rgcd g n
            simp [round, Tryz.f89, a89, reg89, loop89, draw89, dok89, at_lt, hia, hia2, hRa2, hmw, hjt, w2, app_at, hjw, hJw2, hWl, show j + 1 ≤ o.length by omega, hat, he, endRound_J, hcl, hja]
            refine hrec (j + 1, Nat.gcd g n) _ _ ?_ ?_ ?_ ?_
            · simp; omega
            · exact ⟨by simp only; omega, hg⟩
            · simp
            · simp
          · clear hrec
            have hje : j = o.length := by omega
            subst hje
            rw [List.drop_eq_nil_of_le (by omega)] at hg
            have hg' : g = gcdN W := hg
            subst hg'
            simp [round, Tryz.f89, a89, reg89, loop89, draw89, dok89, at_lt, hia, hia2, hRa2, hmw]
            refine loop_in (fun i : Nat => ⟨[(4, .ptr (m.bx.length + 1) 0), (5, .ptr (m.bx.length + 2) 0), (10, .int .i64 (gcdN W)), (113, .int .i64 o.length), (114, .int .i64 i)],
                ⟨m.bx ++ [[.int .i64 v.num, .sl ia (v.args.length * 3) 0 v.args.length, mwA k iv v], [.int .i64 0, .nils, .nils], [.int .i64 v.num, .sl (m.rw.length + ja) (o.length * 3) 0 o.length, .sl (m.rw.length + jw) o.length 0 o.length]], m.rw ++ J.set jw ⟨3, ints ((divG W).take i ++ W.drop i)⟩⟩⟩)
              (fun i => some (.ret (.agg (Val.mk v.num (o.map (·.1)) (divG W)).cells), m)) (fun i => o.length - i) (fun i => i ≤ o.length) 0 ?_ ?_ ?_ ?_ ?_
            · have hset0 : J.set jw ⟨3, ints W⟩ = J := by rw [← hJw2]; exact List.set_getElem_self hjw
              simp [hset0]
            · simp
            · omega
            · intro x; simp [Tryz.f89, a89, reg89, loop89, draw89, dok89, at_lt, hia, hia2, hRa2, hmw]
            · intro i hi hrec
              have hdl : (divG W).length = W.length := by unfold divG; simp
              have hne' : ¬ jw = ja := fun h => hne h.symm
              have hg0 : ¬ (gcdN W : Int) = 0 := by omega
              by_cases hit : i < o.length
              · have w2 : IntKind.i64.wrap (i + 1) = i + 1 := wrap_id _ (by omega)
                have hiW : i < W.length := by omega
                have hx := hws W[i] (List.getElem_mem hiW)
                have hq := tdiv_pos hx.1 hgp ((gcdF_dvd W 0).2 _ (List.getElem_mem hiW))
                have w3 : IntKind.i64.wrap (W[i].tdiv (gcdN W)) = W[i].tdiv (gcdN W) := wrap_id _ (by omega)
                have hDl : ((divG W).take i ++ W.drop i).length = o.length := by simp; omega
                have hat : ((ints ((divG W).take i ++ W.drop i)).drop i).take 1 = [.int .i64 W[i]] := by
                  have h1 := ints_at (ks := (divG W).take i ++ W.drop i) (i := i) (by omega)
                  rw [h1]
                  congr 2
                  rw [List.getElem_append_right (by simp; omega)]
                  simp [Nat.min_eq_left (show i ≤ (divG W).length by omega)]
                have hst : List.take i (ints ((divG W).take i ++ W.drop i)) ++ A.int .i64 (W[i].tdiv (gcdN W)) :: List.drop (i + 1) (ints ((divG W).take i ++ W.drop i)) = ints ((divG W).take (i + 1) ++ W.drop (i + 1)) := by
                  have h1 : (divG W)[i]'(by omega) = W[i].tdiv (gcdN W) := by unfold divG; simp
                  have h2 : ((divG W).take i).length = i := by simp; omega
                  unfold ints
                  rw [← List.map_take, ← List.map_drop, ← List.drop_drop]
                  have h3 : List.take i ((divG W).take i ++ W.drop i) = (divG W).take i := by rw [List.take_append_of_le_length (by omega), List.take_of_length_le (by omega)]
                  have h4 : List.drop i ((divG W).take i ++ W.drop i) = W.drop i := by rw [List.drop_append_of_le_length (by omega), List.drop_eq_nil_of_le (by omega)]; rfl
                  rw [h3, h4, List.drop_drop, List.take_succ_eq_append_getElem (by omega), h1]
                  simp
                generalize (divG W).take i ++ W.drop i = D at hDl hat hst ⊢
                simp [round, Tryz.f89, a89, reg89, loop89, draw89, dok89, at_lt, hia, hia2, hRa2, hmw, hit, w2, w3, app_at, app_set, hjw, hDl, hat, hst, show ¬ gcdN W = 0 by omega, show i + 1 ≤ o.length by omega, endRound_J, all_set, hcl, hja]
                refine hrec (i + 1) _ _ ?_ ?_ ?_ ?_
                · omega
                · omega
                · simp
                · simp
              · clear hrec
                have hie : i = o.length := by omega
                subst hie
                rw [List.take_of_length_le (by omega), List.drop_eq_nil_of_le (by omega), List.append_nil]
                have hdl2 : (divG W).length = o.length := by omega
                have htk : List.take o.length (ints (divG W)) = ints (divG W) := List.take_of_length_le (by simp; omega)
                simp [round, Tryz.f89, a89, reg89, loop89, draw89, dok89, at_lt, hia, hia2, hRa2, hmw, app_at, hjw, hja, hJa2, hne', hall, hdl2, htk]
      · by_cases ho : o.length = 0
        · have ho' : o = [] := List.eq_nil_of_length_eq_zero ho
          simp [round, Tryz.f89, a89, reg89, loop89, draw89, dok89, at_lt, hia, hia2, hRa2, hmw, hlt, h7', ho', mgA, mgW]
        · have ho1 : 0 < o.length := by omega
          have ho0 : ¬ o = [] := fun h => ho (by rw [h]; rfl)
          have hJa := hra ho1
          have hja : ja < J.length := (List.getElem?_eq_some_iff.1 hJa).1
          have hJa2 := (List.getElem?_eq_some_iff.1 hJa).2
          have hall : List.take (o.length * 3) (Val.cellsL (o.map (·.1))) = Val.cellsL (o.map (·.1)) := List.take_of_length_le (by simp)
          have hallw : List.take o.length (ints (o.map (·.2))) = ints (o.map (·.2)) := List.take_of_length_le (by simp)
          cases hwk : wtd k
          · simp [round, Tryz.f89, a89, reg89, loop89, draw89, dok89, at_lt, hia, hia2, hRa2, hmw, hlt, h7', ho0, mgA, mgW, mwA, hwk, app_at, hja, hJa2, hall]
          · have hJw := (hrw ho1 hwk).1
            have hjw : jw < J.length := (List.getElem?_eq_some_iff.1 hJw).1
            have hJw2 := (List.getElem?_eq_some_iff.1 hJw).2
            simp [round, Tryz.f89, a89, reg89, loop89, draw89, dok89, at_lt, hia, hia2, hRa2, hmw, hlt, h7', ho0, mgA, mgW, mwA, hwk, app_at, hja, hJa2, hjw, hJw2, hall, hallw]
theorem nodesL_ins (u : Val) (w : Int) : ∀ o : List (Val × Int), Val.nodesL ((insP u w o).map (·.1)) ≤ u.nodes + Val.nodesL (o.map (·.1)) ∧ (insP u w o).length ≤ o.length + 1
  | [] => by rw [insP]; simp [Val.nodesL]
  | p :: r => by
    rw [insP]
    have := nodesL_ins u w r
    split
    · simp [Val.nodesL] <;> omega
    · split
      · simp [Val.nodesL]
      · simp [Val.nodesL] <;> omega
theorem nodesL_merge : ∀ l o : List (Val × Int), Val.nodesL ((mergeF o l).map (·.1)) ≤ Val.nodesL (l.map (·.1)) + Val.nodesL (o.map (·.1)) ∧ (mergeF o l).length ≤ l.length + o.length
  | [], o => by simp [mergeF, Val.nodesL]
  | p :: r, o => by
    have h1 := nodesL_merge r (insP p.1 p.2 o)
    have h2 := nodesL_ins p.1 p.2 o
    rw [show mergeF o (p :: r) = mergeF (insP p.1 p.2 o) r from rfl]
    simp [Val.nodesL]
    omega
theorem slimL_of {l : List Val} (h : ∀ x, x ∈ l → slimV x) : slimL l := by
  induction l with
  | nil => rw [slimL]; trivial
  | cons a r ih => rw [slimL]; exact ⟨h a List.mem_cons_self, ih fun x hx => h x (List.mem_cons_of_mem _ hx)⟩
mutual
theorem norm_nodes (n : Int) : ∀ (v : Val) (f : Fun) (y : Val), slimV v → v.nodes ≤ 1000000000 → normV n v f = some y → y.nodes ≤ v.nodes ∧ slimV y
  | .mk k l w, f, y, hs, hb, h => by
    rw [slimV_eq] at hs
    rw [Val.nodes_eq] at hb
    rw [normV] at h
    split at h
    · rename_i hh
      simp only [Option.map_eq_some_iff] at h
      obtain ⟨xs, hx, rfl⟩ := h
      have hl := normL_length n _ _ _ _ hx
      have ho := normL_nodes n l (argF f k) 0 xs hs.2 (by simp only [Val.args_mk] at hb; omega) hx
      have hll := Val.length_nodesL l
      simp only [Val.args_mk] at hb
      split
      · unfold mergeV
        rw [Val.nodes_eq, Val.nodes_eq, slimV_eq]
        simp only [Val.args_mk, Val.ws_mk]
        have h1 := nodesL_merge (xs.zip (wsOf f.kind xs w)) []
        have h2 : Val.nodesL ((xs.zip (wsOf f.kind xs w)).map (·.1)) ≤ Val.nodesL xs := by
          have : ∀ (a : List Val) (b : List Int), Val.nodesL ((a.zip b).map (·.1)) ≤ Val.nodesL a := by
            intro a
            induction a with
            | nil => intro b; simp [Val.nodesL]
            | cons x r ih =>
              intro b
              cases b with
              | nil => simp [Val.nodesL]
              | cons y t => simp [Val.nodesL]; exact ih t
          exact this _ _
        have h3 : (xs.zip (wsOf f.kind xs w)).length ≤ xs.length := by rw [List.length_zip]; omega
        simp only [List.map_nil, List.length_nil, Val.nodesL] at h1
        unfold mergeP
        refine ⟨by omega, ?_, slimL_of fun x hx' => ?_⟩
        · split
          · unfold divG; simp; omega
          · split
            · simp; omega
            · simp
        · obtain ⟨p, hp, rfl⟩ := List.mem_map.1 hx'
          rcases mergeF_fst _ _ p hp with ⟨q, h4, h5⟩ | ⟨q, h4, _⟩
          · rw [h5]; exact slimL_mem ho.2 (zip_fst h4).1
          · cases h4
      · rw [Val.nodes_eq, Val.nodes_eq, slimV_eq]
        simp only [Val.args_mk, Val.ws_mk]
        exact ⟨by omega, hs.1, ho.2⟩
    · cases h
theorem normL_nodes (n : Int) : ∀ (l : List Val) (g : Nat → Fun) (i : Nat) (xs : List Val), slimL l → Val.nodesL l ≤ 1000000000 → normL n l g i = some xs → Val.nodesL xs ≤ Val.nodesL l ∧ slimL xs
  | [], g, i, xs, hs, hb, h => by rw [normL] at h; cases h; exact ⟨Nat.le_refl _, hs⟩
  | v :: r, g, i, xs, hs, hb, h => by
    rw [normL] at h
    rw [slimL] at hs
    rw [Val.nodesL] at hb
    simp only [Option.bind_eq_some_iff, Option.map_eq_some_iff] at h
    obtain ⟨x, h1, y, h2, rfl⟩ := h
    have a := norm_nodes n v (g i) x hs.1 (by omega) h1
    have b := normL_nodes n r g (i + 1) y hs.2 (by omega) h2
    rw [Val.nodesL, Val.nodesL, slimL]
    exact ⟨by omega, a.2, b.2⟩
end
theorem parts_at {f : Fun} {v : Val} (hf : shapedF f = true) (hp : partsB f v = true) : (partsL f v).length = v.args.length ∧ ∀ i (h : i < (partsL f v).length), (partsL f v)[i] = argF f v.num i := by
  unfold partsB at hp
  rw [Bool.and_eq_true, decide_eq_true_eq] at hp
  refine ⟨hp.1, fun i h => ?_⟩
  have hk := shaped_kind hf
  revert h
  unfold partsL argF
  by_cases h0 : f.kind = 0 ∨ f.kind = 1
  · rw [if_pos h0]; intro h; simp at h
  rw [if_neg h0]
  by_cases h2 : f.kind = 2
  · rw [if_pos h2, if_pos h2]
    intro h
    rw [List.getD_eq_getElem?_getD, List.getElem?_eq_getElem h]
    rfl
  rw [if_neg h2, if_neg h2]
  by_cases h3 : f.kind = 3
  · rw [if_pos h3, if_pos h3]
    by_cases hc : 0 ≤ v.num ∧ v.num ≤ 1
    · rw [if_pos hc]
      intro h
      have : i = 0 := by simpa using h
      subst this
      simp [h2, h3]
    · rw [if_neg hc]
      intro h
      simp at h
  rw [if_neg h3, if_neg h3]
  split <;> intro h <;> simp
theorem head_split {n : Int} {f : Fun} {v : Val} (hf : shapedF f = true) : headL n f v.num v.args.length v.ws = (partsB f v && numB f n v.num && wghB f.kind v.args.length v.ws) := by
  unfold headL numB wghB
  congr 2
  unfold partsB partsL
  have hk := shaped_kind hf
  have hfn := shaped_num hf
  rw [Bool.eq_iff_iff]
  rcases hk with ⟨hk, hl⟩ | ⟨hk, hl⟩ | ⟨hk, hl⟩ | ⟨hk, hl⟩ | ⟨hk, hl⟩ | ⟨hk, hl⟩ | ⟨hk, hl⟩ | ⟨hk, hl⟩
  · simp [hk]; exact ⟨fun h => by rw [h]; rfl, fun h => List.eq_nil_of_length_eq_zero h.symm⟩
  · simp [hk]; exact ⟨fun h => by rw [h]; rfl, fun h => List.eq_nil_of_length_eq_zero h.symm⟩
  · simp [hk]
  · by_cases hc : 0 ≤ v.num ∧ v.num ≤ 1
    · simp [hk, hc]; exact eq_comm
    · simp [hk, hc]
      intro h1 h2
      exact absurd ⟨h1, h2⟩ hc
  · simp [hk]; omega
  · simp [hk]
  · simp [hk]
  · simp [hk]
def zeroV : Val := .mk 0 [] []
def normD (n : Int) (v : Val) (f : Fun) : Val := (normV n v f).getD zeroV
theorem ev_Merged0 (k a : Int) (h5 : k = 5 ∨ k = 6) (m : Mem) : evCall C0 89 [.int .i64 k, .agg [.int .i64 a, .nils, .nils]] m = some (.ret (.agg (Val.mk a [] []).cells), m) := by
  rw [evCall_body C0 (C0_ext _ (by decide)) (by rw [C0_P]; exact Tryz.func89) rfl (by rw [C0_ann]; rfl) (by rw [C0_ann]; rfl) (by decide) (by simp [Tryz.f89])]
  simp [Tryz.f89, a89, reg89, loop89, draw89, dok89]
  rw [evCode_loop]
  rcases h5 with h5 | h5
  · simp [round, Tryz.f89, a89, reg89, loop89, draw89, dok89, h5]
  · simp [round, Tryz.f89, a89, reg89, loop89, draw89, dok89, h5]
def wR (w : List Int) : List Row := if w.length = 0 then [] else [⟨3, ints w⟩]
def wA (n : Nat) (w : List Int) : A := if w.length = 0 then .nils else .sl n w.length 0 w.length
def xR (xs : List Val) : List Row := if xs.length = 0 then [] else [⟨47, Val.cellsL xs⟩]
def xA (n : Nat) (xs : List Val) : A := if xs.length = 0 then .nils else .sl n (xs.length * 3) 0 xs.length
theorem wxR_closed (w : List Int) (xs : List Val) : (wR w ++ xR xs).all (fun r => r.cs.all (closed 0 0)) = true := by
  unfold wR xR
  split <;> split <;> simp
theorem wA_closed (n : Nat) (w : List Int) (xs : List Val) (nb : Nat) : closed nb (n + (wR w ++ xR xs).length) (wA n w) = true := by
  unfold wA wR
  split
  · simp
  · simp
theorem wA_closed2 (n : Nat) (w : List Int) (nb x : Nat) : closed nb (n + ((wR w).length + x)) (wA n w) = true := by
  unfold wA wR
  split
  · simp
  · simp
    omega
theorem wR_closed (w : List Int) : (wR w).all (fun r => r.cs.all (closed 0 0)) = true := by
  unfold wR
  split <;> simp
def NormAt (n : Int) (v : Val) : Prop := ∀ (f : Fun), shapedF f = true → ∀ (m : Mem), evCall C0 159 [.agg f.cells, .int .i64 n, .agg v.cells] m = some (.ret (.tup [.agg (normD n v f).cells, .bool (normV n v f).isSome]), m)
set_option maxHeartbeats 8000000 in
theorem ev_normal1 (n : Int) (hn0 : 0 ≤ n) (hn1 : n ≤ 1000000) (v : Val) (hb : v.nodes ≤ 1000000) (hs : slimV v) (H : ∀ u, u ∈ v.args → NormAt n u) : NormAt n v := by
  intro f hf m
  have hs' := hs
  rw [slimV_eq] at hs'
  have hlen := v.length_args
  have hfn := shaped_num hf
  have hp := ev_Parts f v hf (by omega)
  have hnm := ev_rnumber f n v (by omega) (by omega) (by omega)
  have hwg := ev_rweighed f.kind v (by omega) hs'.1
  have hst := ev_Sets f.kind
  have hsp := head_split (n := n) (v := v) hf
  unfold normD
  rw [normV_eq]
  simp at hp hnm hwg
  rw [evCall_body C0 (C0_ext _ (by decide)) (by rw [C0_P]; exact Tryz.func159) rfl (by rw [C0_ann]; rfl) (by rw [C0_ann]; rfl) (by decide) (by simp [Tryz.f159])]
  cases hpb : partsB f v
  case false =>
    rw [hpb, Bool.false_and, Bool.false_and] at hsp
    rw [hsp]
    simp [hpb] at hp
    simp [Tryz.f159, a159, reg159, loop159, draw159, dok159, hp, zeroV]
  cases hnb : numB f n v.num
  case false =>
    rw [hpb, hnb, Bool.true_and, Bool.false_and] at hsp
    rw [hsp]
    simp [hpb] at hp
    simp [hnb] at hnm
    simp [Tryz.f159, a159, reg159, loop159, draw159, dok159, hp, hnm, zeroV]
  cases hwb : wghB f.kind v.args.length v.ws
  case false =>
    rw [hpb, hnb, hwb] at hsp
    rw [hsp]
    simp [hpb] at hp
    simp [hnb] at hnm
    simp [hwb] at hwg
    simp [Tryz.f159, a159, reg159, loop159, draw159, dok159, hp, hnm, hwg, zeroV]
  rw [hpb, hnb, hwb] at hsp
  rw [hsp, if_pos (show (true && true && true) = true from rfl)]
  simp [hpb] at hp
  simp [hnb] at hnm
  simp [hwb] at hwg
  obtain ⟨hPl, hPa⟩ := parts_at hf hpb
  generalize partsL f v = P at hp hPl hPa
  have hwz : v.ws.length * 8 ≤ 70368744177664 := by omega
  have hwy : v.ws.length ≤ 70368744177664 := by omega
  by_cases hw0 : v.ws.length = 0
  case' pos =>
    simp [hw0] at hp hnm hwg
    simp [Tryz.f159, a159, reg159, loop159, draw159, dok159, hp, hnm, hwg, hw0]
  case' neg => simp [Tryz.f159, a159, reg159, loop159, draw159, dok159, hp, hnm, hwg, hw0, show ¬ v.ws = [] from fun h => hw0 (by rw [h]; rfl), hwz, hwy, flat_mem_ints]
  all_goals
    refine loop_in (fun x : Nat × List Val => ⟨[(1, .int .i64 n), (3, .ptr m.bx.length 0), (6, .ptr (m.bx.length + 2) 0), (8, .isl false P.length (Fun.cellsL P)), (10, .ptr (m.bx.length + 3) 0), (45, .isl false v.args.length (Val.cellsL v.args)), (46, .int .i64 v.args.length), (47, .int .i64 x.1)],
        ⟨m.bx ++ [f.cells, v.cells, [.int .i64 0, .nils, .nils], [.int .i64 v.num, xA (m.rw.length + (wR v.ws).length) x.2, wA m.rw.length v.ws]], m.rw ++ (wR v.ws ++ xR x.2)⟩⟩)
      (fun x => some (.ret (.tup [.agg (((normL n v.args (argF f v.num) 0).map fun xs => if setsK f.kind = true then mergeV f.kind v.num xs v.ws else .mk v.num xs v.ws).getD zeroV).cells, .bool ((normL n v.args (argF f v.num) 0).map fun xs => if setsK f.kind = true then mergeV f.kind v.num xs v.ws else .mk v.num xs v.ws).isSome]), m)) (fun x => v.args.length - x.1)
      (fun x => x.1 ≤ v.args.length ∧ x.2.length = x.1 ∧ normL n v.args (argF f v.num) 0 = (normL n (v.args.drop x.1) (argF f v.num) x.1).map (x.2 ++ ·)) (0, []) ?_ ?_ ?_ ?_ ?_
    · simp [xA, wA, wR, xR, hw0]
    · simp
    · simp
    · intro x; simp [Tryz.f159, a159, reg159, loop159, draw159, dok159]
    · rintro ⟨i, xs⟩ ⟨hi, hxl, hnl⟩ hrec
      simp only at hi hxl hnl ⊢
      have hcl := wxR_closed v.ws xs
      have hwc := wA_closed m.rw.length v.ws xs
      by_cases hlt : i < v.args.length
      · have w2 : IntKind.i64.wrap (i + 1) = i + 1 := wrap_id _ (by omega)
        have h3 : (i + 1) * 3 ≤ v.args.length * 3 := by omega
        have hiP : i < P.length := by omega
        have hgi := hPa i hiP
        have hk01 : ¬ f.kind = 0 ∧ ¬ f.kind = 1 := by
          refine ⟨fun h => ?_, fun h => ?_⟩
          · have := (head_num hsp).2.2 (.inl h); omega
          · have := (head_num hsp).2.2 (.inr h); omega
        have hgs := argF_shaped hf hk01.1 hk01.2 hsp i hlt
        rw [Nat.zero_add] at hgs
        have he := H v.args[i] (List.getElem_mem hlt) (argF f v.num i) hgs
        rw [normL_drop hlt] at hnl
        unfold normD at he
        cases hc : normV n v.args[i] (argF f v.num i) with
        | none =>
          clear hrec
          rw [hc] at hnl he
          rw [hnl]
          simp [zeroV] at he
          simp [round, Tryz.f159, a159, reg159, loop159, draw159, dok159, hlt, w2, h3, hiP, show (i + 1) * 3 ≤ P.length * 3 by omega, hgi, he, zeroV]
        | some y =>
          rw [hc] at hnl he
          simp at he
          have hwc2 : ∀ nb x, closed nb (m.rw.length + ((wR v.ws).length + x)) (wA m.rw.length v.ws) = true := fun nb x => wA_closed2 _ _ _ _
          have hwR := wR_closed v.ws
          have hin : normL n v.args (argF f v.num) 0 = (normL n (v.args.drop (i + 1)) (argF f v.num) (i + 1)).map ((xs ++ [y]) ++ ·) := by
            rw [hnl]
            simp only [Option.bind_some, Option.map_map]
            congr 1
            funext z
            simp
          cases xs with
          | nil =>
            have hi0 : i = 0 := by simpa using hxl.symm
            subst hi0
            have b3 := Val.at_cellsL v.args 0 hlt
            have b1 := Fun.at_cellsL P 0 hiP
            rw [hgi] at b1
            simp at b1 b3
            simp [round, Tryz.f159, a159, reg159, loop159, draw159, dok159, hlt, w2, h3, hiP, show 3 ≤ P.length * 3 by omega, show 3 ≤ v.args.length * 3 by omega, hgi, b1, b3, he, xA, xR, app_at, app_set, endRound_J, hwR, hwc2]
            refine hrec (1, [y]) _ _ ?_ ?_ ?_ ?_
            · simp; omega
            · exact ⟨by simp only; omega, rfl, by rw [hin]; rfl⟩
            · simp [xA, xR, Val.cellsL]
            · simp
          | cons a r =>
            have hr : r.length + 1 = i := by simpa using hxl
            simp [round, Tryz.f159, a159, reg159, loop159, draw159, dok159, hlt, w2, h3, hiP, show (i + 1) * 3 ≤ P.length * 3 by omega, hgi, he, xA, xR, app_at, app_set, endRound_J, hwR, hwc2, show (r.length + 1 + 1) * 56 ≤ 70368744177664 by omega, show r.length + 1 + 1 ≤ 70368744177664 by omega]
            refine hrec (i + 1, a :: r ++ [y]) _ _ ?_ ?_ ?_ ?_
            · simp; omega
            · exact ⟨by simp only; omega, by simp; omega, by rw [hin]⟩
            · simp [xA, xR, Val.cellsL, Val.cellsL_append]
            · simp
      · clear hrec
        have hie : i = v.args.length := by omega
        subst hie
        rw [List.drop_eq_nil_of_le (Nat.le_refl _), normL, Option.map_some, List.append_nil] at hnl
        rw [hnl]
        have hnum := head_num hsp
        cases hset : setsK f.kind
        · have hwt : wtd f.kind = false := by
            cases h : wtd f.kind
            · rfl
            · unfold setsK at hset
              rw [h, Bool.or_true] at hset
              cases hset
          have hwe := hnum.2.1 hwt
          rw [hset] at hst
          by_cases hx0 : xs.length = 0
          · have hx1 : v.args.length = 0 := by omega
            have hxe : xs = [] := List.eq_nil_of_length_eq_zero hx0
            subst hxe
            simp [round, Tryz.f159, a159, reg159, loop159, draw159, dok159, hst, xA, wA, xR, wR, hwe, hx1]
          · have hx1 : ¬ v.args.length = 0 := by omega
            have hall : List.take (xs.length * 3) (Val.cellsL xs) = Val.cellsL xs := List.take_of_length_le (by simp)
            simp [round, Tryz.f159, a159, reg159, loop159, draw159, dok159, hst, xA, wA, xR, wR, hwe, hx0, hx1, hxl, hall]
            rw [← hxl]
            exact hall
        · rw [hset] at hst
          have hss := (head_sets hset).1 hsp
          have hnn := normL_nodes n v.args _ 0 xs hs'.2 (by have := Val.nodes_eq v; omega) hnl
          have hvn := Val.nodes_eq v
          have hwk3 : wtd f.kind = true → v.ws.length = xs.length ∧ (∀ w, w ∈ v.ws → 1 ≤ w) ∧ v.ws.sum ≤ 1048576 := fun h => by
            rw [if_pos h] at hss
            have h2 := (weighI_iff v.ws 0 (by omega)).1 hss.2.1
            exact ⟨by omega, h2.1, by omega⟩
          have hk7 : f.kind = 7 → 0 < xs.length := fun h => by
            have hw7 : wtd f.kind = true := by rw [h]; rfl
            rw [if_pos hw7] at hss
            have := hss.2.2.2
            omega
          by_cases hx0 : xs.length = 0
          · have hx1 : v.args.length = 0 := by omega
            have hxe : xs = [] := List.eq_nil_of_length_eq_zero hx0
            subst hxe
            have hwe : v.ws = [] := by
              cases h : wtd f.kind
              · exact hnum.2.1 h
              · exact List.eq_nil_of_length_eq_zero (by rw [(hwk3 h).1]; rfl)
            have hk56 : f.kind = 5 ∨ f.kind = 6 := by
              rcases setsK_kind hset with h | h | h
              · exact .inl h
              · exact .inr h
              · have := hk7 h; simp at this
            have he0 := ev_Merged0 f.kind v.num hk56
            simp at he0
            have hmv : mergeV f.kind v.num [] v.ws = .mk v.num [] [] := by
              unfold mergeV mergeP
              rw [hwe]
              rcases hk56 with h | h <;> rw [h] <;> rfl
            simp [hmv]
            simp [round, Tryz.f159, a159, reg159, loop159, draw159, dok159, hst, xA, wA, xR, wR, hwe, hx1, he0]
          · have hx1 : 0 < xs.length := by omega
            have hmw : mwA f.kind m.rw.length (.mk v.num xs v.ws) = wA m.rw.length v.ws := by
              unfold mwA wA
              cases h : wtd f.kind
              · rw [hnum.2.1 h]; simp
              · have := (hwk3 h).1
                rw [if_neg (by simp), if_neg (by omega)]
                rfl
            have he := ev_MergedR f.kind (.mk v.num xs v.ws) (m.rw.length + (wR v.ws).length) m.rw.length hset (by rw [Val.nodes_eq, Val.args_mk]; omega) (by rw [slimV_eq]; exact ⟨hs'.1, hnn.2⟩) hwk3 hk7
              ⟨m.bx ++ [f.cells, v.cells, [.int .i64 0, .nils, .nils], [.int .i64 v.num, xA (m.rw.length + (wR v.ws).length) xs, wA m.rw.length v.ws]], m.rw ++ (wR v.ws ++ xR xs)⟩
              (by simp [app_at, xR, show ¬ xs = [] from fun h => hx0 (by rw [h]; rfl)])
              (fun h => by
                have h1 : ¬ v.ws.length = 0 := by rw [(hwk3 h).1]; omega
                have := app_at m.rw (wR v.ws ++ xR xs) 0
                rw [Nat.add_zero] at this
                simp only [this]
                unfold wR
                rw [if_neg h1]
                rfl)
            rw [hmw] at he
            have hxx : xA (m.rw.length + (wR v.ws).length) xs = .sl (m.rw.length + (wR v.ws).length) (xs.length * 3) 0 xs.length := by unfold xA; rw [if_neg hx0]
            simp [hxx, hxl] at he
            simp [round, Tryz.f159, a159, reg159, loop159, draw159, dok159, hst, hxx, he, hxl]
theorem ev_normal (n : Int) (hn0 : 0 ≤ n) (hn1 : n ≤ 1000000) (N : Nat) : ∀ (v : Val), v.nodes ≤ N → v.nodes ≤ 1000000 → slimV v → NormAt n v := by
  induction N with
  | zero => intro v hN; have := v.nodes_pos; omega
  | succ N ih =>
  intro v hN hb hs
  have hs' := (slimV_eq v ▸ hs).2
  exact ev_normal1 n hn0 hn1 v hb hs fun u hu => ih u (by have := Val.nodes_arg hu; omega) (by have := Val.nodes_arg hu; omega) (slimL_mem hs' hu)
set_option maxHeartbeats 4000000 in
theorem ev_wide (ex : Fun → List Val → List Int → Bool) (n : Int) (N : Nat) : ∀ (v : Val), v.nodes ≤ N → v.nodes ≤ 1000000 → ∀ (f : Fun), shapedF f = true → okV ex n v f = true → ∀ (m : Mem), evCall C0 160 [.agg f.cells, .agg v.cells] m = some (.ret (.bool (wideV v f)), m) := by
  induction N with
  | zero => intro v hN; have := v.nodes_pos; omega
  | succ N ih =>
  intro v hN hb f hf hok m
  have hlen := v.length_args
  rw [okV_eq, Bool.and_eq_true, Bool.and_eq_true] at hok
  obtain ⟨⟨hh, _⟩, hokl⟩ := hok
  have hpb : partsB f v = true := by
    rw [head_split hf, Bool.and_eq_true, Bool.and_eq_true] at hh
    exact hh.1.1
  have hp := ev_Parts f v hf (by omega)
  obtain ⟨hPl, hPa⟩ := parts_at hf hpb
  have hst := ev_Sets f.kind
  simp [hpb] at hp
  generalize partsL f v = P at hp hPl hPa
  rw [evCall_body C0 (C0_ext _ (by decide)) (by rw [C0_P]; exact Tryz.func160) rfl (by rw [C0_ann]; rfl) (by rw [C0_ann]; rfl) (by decide) (by simp [Tryz.f160])]
  rw [wideV_eq]
  by_cases hw : setsK f.kind = true ∧ 100 < v.args.length
  · have h1 : (100 : Int) < v.args.length := by omega
    rw [hw.1] at hst
    simp [Tryz.f160, a160, reg160, loop160, draw160, dok160, hst, h1, hw.1, hw.2]
  · have hr : (setsK f.kind && decide (100 < v.args.length)) = false := by
      rw [Bool.eq_false_iff]
      intro h
      rw [Bool.and_eq_true, decide_eq_true_eq] at h
      exact hw h
    rw [hr, Bool.false_or]
    cases hs : setsK f.kind
    case' false =>
      rw [hs] at hst
      simp [Tryz.f160, a160, reg160, loop160, draw160, dok160, hst, hp]
    case' true =>
      have h2 : ¬ (100 : Int) < v.args.length := by
        intro h
        exact hw ⟨hs, by omega⟩
      rw [hs] at hst
      simp [Tryz.f160, a160, reg160, loop160, draw160, dok160, hst, hp, h2]
    all_goals
      refine loop_in (fun i : Nat => ⟨[(5, .isl false P.length (Fun.cellsL P)), (25, .isl false v.args.length (Val.cellsL v.args)), (26, .int .i64 v.args.length), (27, .int .i64 i)], ⟨m.bx ++ [f.cells, v.cells], m.rw⟩⟩)
        (fun i => some (.ret (.bool (wideL (v.args.drop i) (argF f v.num) i)), m)) (fun i => v.args.length - i) (fun i => i ≤ v.args.length) 0 ?_ ?_ ?_ ?_ ?_
      · simp
      · simp
      · omega
      · intro x; simp [Tryz.f160, a160, reg160, loop160, draw160, dok160]
      · intro i hi hrec
        by_cases hlt : i < v.args.length
        · have w2 : IntKind.i64.wrap (i + 1) = i + 1 := wrap_id _ (by omega)
          have h3 : (i + 1) * 3 ≤ v.args.length * 3 := by omega
          have hiP : i < P.length := by omega
          have hgi := hPa i hiP
          have hk01 : ¬ f.kind = 0 ∧ ¬ f.kind = 1 := by
            refine ⟨fun h => ?_, fun h => ?_⟩
            · have := (head_num hh).2.2 (.inl h); omega
            · have := (head_num hh).2.2 (.inr h); omega
          have hgs := argF_shaped hf hk01.1 hk01.2 hh i hlt
          have o0 := okL_mem hokl i hlt
          rw [Nat.zero_add] at hgs o0
          have hm := Val.nodes_arg (List.getElem_mem hlt)
          have he := ih v.args[i] (by omega) (by omega) (argF f v.num i) hgs o0
          simp at he
          rw [wideL_drop hlt]
          cases hc : wideV v.args[i] (argF f v.num i)
          · simp [hc] at he
            simp [round, Tryz.f160, a160, reg160, loop160, draw160, dok160, hlt, w2, h3, hiP, show (i + 1) * 3 ≤ P.length * 3 by omega, hgi, he, endRound_M]
            refine hrec (i + 1) _ _ ?_ ?_ ?_ ?_
            · omega
            · omega
            · simp
            · simp
          · clear hrec
            simp [hc] at he
            simp [round, Tryz.f160, a160, reg160, loop160, draw160, dok160, hlt, w2, h3, hiP, show (i + 1) * 3 ≤ P.length * 3 by omega, hgi, he]
        · clear hrec
          simp [round, Tryz.f160, a160, reg160, loop160, draw160, dok160, hlt]
          rw [List.drop_eq_nil_of_le (by omega), wideL]
def rNorm (f : Fun) (n : Int) (v : Val) : Val × Int := if v.nodes ≤ 2000 then (match normV n v f with | none => (zeroV, 20) | some w => if wideV w f then (zeroV, 2) else (w, 0)) else (zeroV, 20)
theorem ev_RNormal (f : Fun) (n : Int) (v : Val) (hf : shapedF f = true) (hn0 : 0 ≤ n) (hn1 : n ≤ 1000000) (hb : v.nodes ≤ 1000000) (hs : slimV v) (m : Mem) : evCall C0 112 [.agg f.cells, .int .i64 n, .agg v.cells] m = some (.ret (.tup [.agg (rNorm f n v).1.cells, .int .i64 (rNorm f n v).2]), m) := by
  rw [evCall_body C0 (C0_ext _ (by decide)) (by rw [C0_P]; exact Tryz.func112) rfl (by rw [C0_ann]; rfl) (by rw [C0_ann]; rfl) (by decide) (by simp [Tryz.f112])]
  have hl := ev_leftV v.nodes v (Nat.le_refl _) 2001
  rw [leftV_nodes v 2001 (by omega)] at hl
  have hn := ev_normal n hn0 hn1 v.nodes v (Nat.le_refl _) hb hs f hf
  unfold rNorm
  unfold normD at hn
  by_cases h1 : v.nodes ≤ 2000
  case neg =>
    have h2 : max (2001 - (v.nodes : Int)) 0 = 0 := by omega
    rw [h2] at hl
    simp at hl
    simp [Tryz.f112, a112, reg112, hl, h1, zeroV]
  have h2 : ¬ max (2001 - (v.nodes : Int)) 0 = 0 := by omega
  simp at hl
  generalize max (2001 - (v.nodes : Int)) 0 = q at hl h2
  cases hc : normV n v f with
  | none =>
    rw [hc] at hn
    simp [zeroV] at hn
    simp [Tryz.f112, a112, reg112, hl, h1, h2, hn, zeroV]
  | some w =>
    rw [hc] at hn
    have hno := norm_nodes n v f w hs (by omega) hc
    have hw := ev_wide exN n w.nodes w (Nat.le_refl _) (by omega) f hf (norm_ok n v f w hc)
    simp at hn hw
    cases hx : wideV w f
    · simp [hx] at hw
      simp [Tryz.f112, a112, reg112, hl, h1, h2, hn, hw, hx]
    · simp [hx] at hw
      simp [Tryz.f112, a112, reg112, hl, h1, h2, hn, hw, hx, zeroV]
theorem ev_RIsV (f : Fun) (n : Int) (v : Val) (hf : shapedF f = true) (hn0 : 0 ≤ n) (hn1 : n ≤ 1000000) (hb : v.nodes ≤ 1000000) (hs : slimV v) (m : Mem) : evCall C0 72 [.agg f.cells, .int .i64 n, .agg v.cells] m = some (.ret (.bool (chkV exS n v f 2000).1), m) := by
  rw [evCall_body C0 (C0_ext _ (by decide)) (by rw [C0_P]; exact Tryz.func72) rfl (by rw [C0_ann]; rfl) (by rw [C0_ann]; rfl) (by decide) (by simp [Tryz.f72])]
  have hn := ev_RNormal f n v hf hn0 hn1 hb hs
  have hsp := (chkV_spec exS n v f 2000 (by omega)).1
  rw [← selfV_ok] at hsp
  have hgoal : (chkV exS n v f 2000).1 = (decide ((rNorm f n v).2 = 0) && decide (cmpV (rNorm f n v).1 v = 0)) := by
    rw [Bool.eq_iff_iff, hsp]
    unfold selfV rNorm
    by_cases h1 : v.nodes ≤ 2000
    · rw [if_pos h1]
      cases hc : normV n v f with
      | none => simp
      | some w =>
        cases hx : wideV w f
        · simp [hx]; omega
        · simp [hx]
    · rw [if_neg h1]
      simp
      omega
  rw [hgoal]
  have hnn : (rNorm f n v).1.nodes ≤ 1000000 ∧ slimV (rNorm f n v).1 := by
    unfold rNorm
    have hz : zeroV.nodes ≤ 1000000 ∧ slimV zeroV := by
      refine ⟨by rw [Val.nodes_eq]; simp [zeroV, Val.nodesL], ?_⟩
      rw [slimV_eq]
      exact ⟨by simp [zeroV], by simp [zeroV, slimL]⟩
    split
    · cases hc : normV n v f with
      | none => exact hz
      | some w =>
        have hno := norm_nodes n v f w hs (by omega) hc
        simp only
        split
        · exact hz
        · exact ⟨by simp only; omega, hno.2⟩
    · exact hz
  generalize rNorm f n v = r at hn hnn ⊢
  obtain ⟨w, e⟩ := r
  simp only at hn hnn ⊢
  have he := ev_RSameV w v (by omega) hnn.2
  simp at hn he
  by_cases h0 : e = 0
  · subst h0
    simp [Tryz.f72, a72, reg72, hn, he]
  · simp [Tryz.f72, a72, reg72, hn, h0]
theorem ints_cons (x : Int) (r : List Int) : ints (x :: r) = .int .i64 x :: ints r := rfl
def lsRow (l : List Int) : List Row := if l.length = 0 then [] else [⟨3, ints l⟩]
mutual
theorem leaves_len : ∀ (v : Val) (f : Fun), (leavesV v f).length ≤ v.nodes
  | .mk k l w, f => by
    rw [leavesV, Val.nodes_eq]
    have := leavesL_len l (argF f k) 0
    split
    · simp
    · simp only [Val.args_mk]; omega
theorem leavesL_len : ∀ (l : List Val) (g : Nat → Fun) (i : Nat), (leavesL l g i).length ≤ Val.nodesL l
  | [], g, i => by rw [leavesL]; simp
  | v :: r, g, i => by
    rw [leavesL, Val.nodesL, List.length_append]
    have := leaves_len v (g i)
    have := leavesL_len r g (i + 1)
    omega
end
end AE
end Go.Proofs.YtmfdpijmholedaaGreatDoor
