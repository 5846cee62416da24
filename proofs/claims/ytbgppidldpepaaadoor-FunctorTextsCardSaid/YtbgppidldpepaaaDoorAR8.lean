/- The statement about the strings of functors, evaluated. -/
import Derived.Test.YtbgppidldpepaaaDoorAR7
set_option linter.unusedVariables false
set_option linter.unusedSimpArgs false
namespace Go.Proofs.YtbgppidldpepaaaDoor
namespace AE
open Go

/-! ### The row of blanks -/
/-- The bytes that are written so far. -/
def fillZ (i : Nat) : List A := List.replicate i (.int .u8 32) ++ List.replicate (40001 - i) (.int .u8 0)
def blanks : List UInt8 := List.replicate 40001 32
theorem blanks_length : blanks.length = 40001 := List.length_replicate
theorem fillZ_length (i : Nat) (h : i ≤ 40001) : (fillZ i).length = 40001 := by unfold fillZ; rw [List.length_append, List.length_replicate, List.length_replicate]; omega
theorem fillZ_set (i : Nat) (h : i < 40001) : setCells (fillZ i) i [.int .u8 32] = fillZ (i + 1) := by
  unfold setCells fillZ
  have e : 40001 - i = (40001 - (i + 1)) + 1 := by omega
  rw [e, List.replicate_succ]
  have h1 : (List.replicate i (A.int .u8 32)).length = i := List.length_replicate
  rw [show i + [A.int .u8 32].length = i + 1 from rfl]
  rw [List.take_left' h1]
  rw [List.drop_append, h1, List.drop_of_length_le (by rw [h1]; omega), List.nil_append, show i + 1 - i = 1 by omega, List.drop_one, List.tail_cons]
  rw [List.replicate_succ' (n := i)]
theorem fillZ_closed (i nb nr : Nat) : (fillZ i).all (closed nb nr) = true := by
  unfold fillZ
  rw [List.all_append, List.all_replicate, List.all_replicate]
  simp
theorem bytesS_rep (n : Nat) : bytesS (List.replicate n (.int .u8 32)) = some (List.replicate n 32) := by
  induction n with
  | zero => rfl
  | succ n ih => rw [List.replicate_succ, bytesS, ih]; rfl
theorem fillZ_all : fillZ 40001 = List.replicate 40001 (.int .u8 32) := by unfold fillZ; rw [Nat.sub_self, List.replicate_zero, List.append_nil]
theorem row_at (m : Mem) (bx : List (List A)) (r : Row) : (⟨bx, m.rw ++ [r]⟩ : Mem).rw[m.rw.length]? = some r := by
  show (m.rw ++ [r])[m.rw.length]? = _
  rw [List.getElem?_append_right (Nat.le_refl _), Nat.sub_self]; rfl
theorem make_blank (bx : List (List A)) (R : List Row) : makeSliceA Tryd.prog 27 (.int .i64 40001) (.int .i64 40001) ⟨bx, R⟩ = some (.sl R.length 40001 0 40001, ⟨bx, R ++ [⟨5, fillZ 0⟩]⟩) := by
  have hf : (List.replicate 40001 [A.int .u8 0]).flatten = fillZ 0 := by
    unfold fillZ
    rw [List.replicate_zero, List.nil_append, Nat.sub_zero]
    generalize 40001 = n
    induction n with
    | zero => rfl
    | succ n ih => rw [List.replicate_succ, List.flatten_cons, ih]; rfl
  unfold makeSliceA
  simp [-List.reduceReplicate, -List.flatten_replicate_singleton, hf]
theorem store_blank (bx : List (List A)) (R : List Row) (t : TypeId) (i : Nat) (hi : i < 40001) : storeA Tryd.prog 5 (.rptr R.length 40001 i) (.int .u8 32) ⟨bx, R ++ [⟨t, fillZ i⟩]⟩ = some ⟨bx, R ++ [⟨t, fillZ (i + 1)⟩]⟩ := by
  have h1 := fillZ_length i (by omega)
  have h2 := fillZ_set i hi
  unfold storeA
  simp [setCells] at h2
  simp [A.cells, h1, h2, hi]
  omega
theorem str_blank (bx : List (List A)) (R : List Row) (t : TypeId) : strM Tryd.prog 27 9 (.sl R.length 40001 0 40001) ⟨bx, R ++ [⟨t, fillZ 40001⟩]⟩ = some (.str blanks) := by
  have h1 := fillZ_length 40001 (by omega)
  have h2 : bytesS ((fillZ 40001).take 40001) = some (List.replicate 40001 32) := by
    rw [List.take_of_length_le (by omega), fillZ_all, bytesS_rep]
  have h3 : (List.replicate 40001 (32 : Int)).map (fun b => UInt8.ofNat b.toNat) = blanks := by
    rw [List.map_replicate]; rfl
  unfold strM
  simp [-List.reduceReplicate, isU8, isStr, h1, h2, h3]
attribute [irreducible] fillZ blanks

set_option maxHeartbeats 4000000 in
/-- The statement returns true. -/
theorem ev_Texts (f : Fun) (s : List UInt8) (long : Bool) (m : Mem) : evCall C0 3 [.agg f.cells, .str s, .bool long] m = some (.ret (.bool true), m) := by
  rw [evCall_body C0 (C0_ext _ (by decide)) (by rw [C0_P]; exact Tryd.func3) rfl (by rw [C0_ann]; rfl) (by decide) (by simp [Tryd.f3])]
  have b1 := ev_Few f 2000
  simp only [show (2000 : Int) + 1 = 2001 from rfl, few_iff] at b1
  simp at b1
  by_cases hf : f.nodes ≤ 2000
  case neg =>
    simp [hf] at b1
    simp [Tryd.f3, evOps_cons, wantA_some, argsTm, ann_keep_3, ann_recov_3, ann_reg_3, reg3, ann_loop_3, loop3, headId, endRound_L, endRound_S, b1, ev_awake]
  simp [hf] at b1
  by_cases hl : 3000 < s.length
  case pos =>
    have hl' : (3000 : Int) < s.length := by omega
    simp [Tryd.f3, evOps_cons, wantA_some, argsTm, ann_keep_3, ann_recov_3, ann_reg_3, reg3, ann_loop_3, loop3, headId, endRound_L, endRound_S, b1, hl', ev_awake]
  have hl' : ¬ (3000 : Int) < s.length := by omega
  have b5 := ev_String f (by omega)
  have b7 := ev_fault f (by omega)
  rw [isF_okF] at b7
  have key : ∀ q : List UInt8, q.length ≤ 1000000 → (∀ m : Mem, evCall C0 9 [.str q] m = some (.ret (.tup [.agg (refF q).1.cells, .int .i64 (refF q).2]), m)) ∧ (∀ m : Mem, evCall C0 10 [.str q] m = some (.ret (.tup [.agg (refF q).1.cells, .int .i64 (refF q).2]), m)) ∧ ∀ m : Mem, evCall C0 11 [.agg (refF q).1.cells, .agg (refF q).1.cells] m = some (.ret (.bool true), m) := by
    intro q hq
    have e1 := ev_Parse (q.length + 1) q hq (by omega)
    rw [parse_same q hq] at e1
    have e3 : (refF q).1.nodes ≤ 1000000000 := by
      unfold refF
      split
      · simp [zeroF, Fun.nodes, Fun.nodesL]
      · cases ht : tok q with
        | none => simp [zeroF, Fun.nodes, Fun.nodesL]
        | some l =>
          have := ref_nodes q hq l ht
          simp only
          split
          · simp [zeroF, Fun.nodes, Fun.nodesL]
          · split
            · exact this
            · simp [zeroF, Fun.nodes, Fun.nodesL]
    have e2 := ev_RSame (refF q).1.nodes (refF q).1 (refF q).1 (Nat.le_refl _) e3
    rw [(sameF_iff _ _).2 rfl] at e2
    exact ⟨e1, ev_RParse q hq (ref_nodes q hq), e2⟩
  cases long with
  | false =>
    obtain ⟨k1, k2, k3⟩ := key s (by omega)
    simp at b5 b7 k1 k2 k3
    cases hok : okF f with
    | false =>
      simp [hok] at b5 b7
      simp [Tryd.f3, evOps_cons, wantA_some, argsTm, ann_keep_3, ann_recov_3, ann_reg_3, reg3, ann_loop_3, loop3, headId, endRound_L, endRound_S, b1, hl', b5, b7, k1, k2, k3, ev_awake]
    | true =>
      have b6 := (ev_RStr f.nodes f (Nat.le_refl _) (by omega) (okF_shaped hok)).2
      simp at b6
      simp [hok] at b5 b7
      simp [Tryd.f3, evOps_cons, wantA_some, argsTm, ann_keep_3, ann_recov_3, ann_reg_3, reg3, ann_loop_3, loop3, headId, endRound_L, endRound_S, b1, hl', b5, b6, b7, k1, k2, k3, ev_awake]
  | true =>
    have hq : (s ++ blanks).length ≤ 1000000 := by rw [List.length_append, blanks_length]; omega
    have hlen : s.length + blanks.length ≤ 9223372036854775807 := by rw [blanks_length]; omega
    obtain ⟨k1, k2, k3⟩ := key (s ++ blanks) hq
    simp at b5 b7 k1 k2 k3
    simp [Tryd.f3, evOps_cons, wantA_some, argsTm, ann_keep_3, ann_recov_3, ann_reg_3, reg3, ann_loop_3, loop3, headId, endRound_L, endRound_S, b1, hl', make_blank]
    refine loop_in (fun i : Nat => ⟨[(1, .str s), (3, .ptr m.bx.length 0), (7, .sl m.rw.length 40001 0 40001), (28, .int .i64 40001), (29, .int .i64 i)], ⟨m.bx ++ [f.cells], m.rw ++ [⟨5, fillZ i⟩]⟩⟩)
      (fun _ => some (.ret (.bool true), m)) (fun i => 40001 - i) (fun i => i ≤ 40001) 0 ?_ ?_ ?_ ?_ ?_
    · simp
    · simp
    · simp
    · intro x; simp [Tryd.f3, evOps_cons, wantA_some, argsTm, ann_keep_3, ann_recov_3, ann_reg_3, reg3, ann_loop_3, loop3, headId, endRound_L, endRound_S]
    · intro i hi hrec
      by_cases hlt : i < 40001
      · have hlt' : (i : Int) < 40001 := by omega
        have w2 : IntKind.i64.wrap (i + 1) = i + 1 := wrap_id _ (by omega)
        have h1 := fillZ_length i (by omega)
        have h2 := fillZ_set i hlt
        simp [setCells] at h2
        have h3 : i + 1 ≤ 40001 := by omega
        simp [round, Tryd.f3, evOps_cons, wantA_some, argsTm, ann_keep_3, ann_recov_3, ann_reg_3, reg3, ann_loop_3, loop3, headId, endRound_L, endRound_S, hlt', w2, h1, h2, h3, endRound_R, fillZ_closed]
        refine hrec (i + 1) _ _ ?_ ?_ ?_ ?_
        · omega
        · omega
        · simp
        · simp
      · clear hrec
        obtain rfl : i = 40001 := by omega
        have sb := fun bx => str_blank bx m.rw 5
        cases hok : okF f with
        | false =>
          simp [hok] at b5 b7
          simp [round, Tryd.f3, evOps_cons, wantA_some, argsTm, ann_keep_3, ann_recov_3, ann_reg_3, reg3, ann_loop_3, loop3, headId, endRound_L, endRound_S, sb, hlen, b5, b7, k1, k2, k3, ev_awake]
        | true =>
          have b6 := (ev_RStr f.nodes f (Nat.le_refl _) (by omega) (okF_shaped hok)).2
          simp at b6
          simp [hok] at b5 b7
          simp [round, Tryd.f3, evOps_cons, wantA_some, argsTm, ann_keep_3, ann_recov_3, ann_reg_3, reg3, ann_loop_3, loop3, headId, endRound_L, endRound_S, sb, hlen, b5, b6, b7, k1, k2, k3, ev_awake]
end AE
end Go.Proofs.YtbgppidldpepaaaDoor
