/- The reference's strings of functors. -/
import Derived.Test.YtbgppidldpepaaaDoorAK1
set_option linter.unusedVariables false
set_option linter.unusedSimpArgs false
namespace Go.Proofs.YtbgppidldpepaaaDoor
namespace AE
open Go

theorem utf_digit (k : Nat) (h : k ≤ 9) : (Utf8.encode (48 + k : Int)).data.toList = [UInt8.ofNat (48 + k)] := by
  have : k = 0 ∨ k = 1 ∨ k = 2 ∨ k = 3 ∨ k = 4 ∨ k = 5 ∨ k = 6 ∨ k = 7 ∨ k = 8 ∨ k = 9 := by omega
  rcases this with rfl | rfl | rfl | rfl | rfl | rfl | rfl | rfl | rfl | rfl <;> decide
set_option maxHeartbeats 2000000 in
theorem ev_Digits1 (k : Nat) (h : k ≤ 9) (m : Mem) : evCall C0 29 [.int .i64 k] m = some (.ret (.str [UInt8.ofNat (48 + k)]), m) := by
  rw [evCall_body C0 (C0_ext _ (by decide)) (by rw [C0_P]; exact Tryd.func29) rfl (by rw [C0_ann]; rfl) (by decide) (by simp [Tryd.f29])]
  have h1 : (k : Int).tmod 10 = k := Int.tmod_eq_of_lt (by omega) (by omega)
  have w1 : IntKind.i64.wrap (48 + k) = 48 + k := wrap_id _ (by omega)
  have w2 : IntKind.u8.wrap (48 + k) = 48 + k := wrap8 _ (by omega)
  have hl : (k : Int) < 10 := by omega
  have hu := utf_digit k h
  simp [Tryd.f29, evOps_cons, wantA_some, argsTm, ann_keep_29, ann_recov_29, ann_reg_29, reg29, h1, w1, w2, hl, hu]
set_option maxHeartbeats 2000000 in
theorem ev_Digits (k : Int) (h0 : 0 ≤ k) (h1 : k ≤ 16) (m : Mem) : evCall C0 29 [.int .i64 k] m = some (.ret (.str (digs k)), m) := by
  obtain ⟨n, rfl⟩ : ∃ n : Nat, k = n := ⟨k.toNat, by omega⟩
  by_cases hn : n ≤ 9
  · rw [ev_Digits1 n hn]
    have : (n : Int) < 10 := by omega
    simp [digs, this]
  · rw [evCall_body C0 (C0_ext _ (by decide)) (by rw [C0_P]; exact Tryd.func29) rfl (by rw [C0_ann]; rfl) (by decide) (by simp [Tryd.f29])]
    obtain ⟨j, rfl⟩ : ∃ j : Nat, n = 10 + j := ⟨n - 10, by omega⟩
    have hj : j ≤ 6 := by omega
    have e1 := ev_Digits1 1 (by omega)
    have h1 : ((10 + j : Nat) : Int).tmod 10 = j := by
      have : ((10 + j : Nat) : Int).tmod 10 = ((10 + j) % 10 : Nat) := by rw [Int.tmod_eq_emod_of_nonneg (by omega)]; omega
      rw [this]; omega
    have h2 : ((10 + j : Nat) : Int).tdiv 10 = 1 := by rw [Int.tdiv_eq_ediv_of_nonneg (by omega)]; omega
    have w1 : IntKind.i64.wrap (48 + j) = 48 + j := wrap_id _ (by omega)
    have w2 : IntKind.u8.wrap (48 + j) = 48 + j := wrap8 _ (by omega)
    have hl : ¬ ((10 + j : Nat) : Int) < 10 := by omega
    have hu := utf_digit j (by omega)
    have hdg : digs ((10 + j : Nat) : Int) = [49, UInt8.ofNat (48 + j)] := by
      have h6 : ((10 + j : Nat) : Int).toNat = 10 + j := by omega
      have h7 : 38 + (10 + j) = 48 + j := by omega
      unfold digs
      rw [if_neg hl, h6, h7]
    generalize hq : ((10 + j : Nat) : Int) = q at *
    have e1' : ∀ m, evCall C0 29 [.int .i64 1] m = some (.ret (.str [49]), m) := fun m => e1 m
    simp [Tryd.f29, evOps_cons, wantA_some, argsTm, ann_keep_29, ann_recov_29, ann_reg_29, reg29, h1, h2, w1, w2, hl, hu, e1', hdg]

theorem textF_pair {k n : Int} {a b : Fun} : textF (.mk k n [a, b]) false = 40 :: (textF (.mk k n [a, b]) true ++ [41]) := by
  rw [textF, textF, if_neg (by decide), if_pos rfl]; rfl
set_option maxHeartbeats 8000000 in
theorem ev_RStr (N : Nat) : ∀ (f : Fun), f.nodes ≤ N → f.nodes ≤ 1000000 → shapedF f = true → (∀ m : Mem, evCall C0 17 [.agg f.cells] m = some (.ret (.str (textF f false)), m)) ∧ ∀ m : Mem, evCall C0 8 [.agg f.cells] m = some (.ret (.str (textF f true)), m) := by
  induction N with
  | zero => intro f hN; have := f.nodes_pos; omega
  | succ N ih =>
  intro f hN hb hsh
  rcases shapes hsh with rfl | ⟨n, n1, n2, rfl⟩ | ⟨k, a, b, hk, ha, hb', rfl⟩ | ⟨n, a, n1, n2, ha, rfl⟩ | ⟨k, a, hk, ha, rfl⟩
  · have hi : ∀ m : Mem, evCall C0 17 [.agg (Fun.mk 0 0 []).cells] m = some (.ret (.str (textF (.mk 0 0 []) false)), m) := by
      intro m
      rw [evCall_body C0 (C0_ext _ (by decide)) (by rw [C0_P]; exact Tryd.func17) rfl (by rw [C0_ann]; rfl) (by decide) (by simp [Tryd.f17])]
      simp [Tryd.f17, evOps_cons, wantA_some, argsTm, ann_keep_17, ann_recov_17, ann_reg_17, reg17, textF]
    refine ⟨hi, fun m => ?_⟩
    rw [evCall_body C0 (C0_ext _ (by decide)) (by rw [C0_P]; exact Tryd.func8) rfl (by rw [C0_ann]; rfl) (by decide) (by simp [Tryd.f8])]
    simp [textF] at hi
    simp [Tryd.f8, evOps_cons, wantA_some, argsTm, ann_keep_8, ann_recov_8, ann_reg_8, reg8, ann_draw_8, draw8, ann_dok_8, dok8, evDraw_cons, drawEnd, chkNeed, kindS, isEff, textF, hi]
  · have hdg := ev_Digits n (by omega) n2
    have hi : ∀ m : Mem, evCall C0 17 [.agg (Fun.mk 1 n []).cells] m = some (.ret (.str (textF (.mk 1 n []) false)), m) := by
      intro m
      rw [evCall_body C0 (C0_ext _ (by decide)) (by rw [C0_P]; exact Tryd.func17) rfl (by rw [C0_ann]; rfl) (by decide) (by simp [Tryd.f17])]
      simp [Tryd.f17, evOps_cons, wantA_some, argsTm, ann_keep_17, ann_recov_17, ann_reg_17, reg17, textF, hdg]
    refine ⟨hi, fun m => ?_⟩
    rw [evCall_body C0 (C0_ext _ (by decide)) (by rw [C0_P]; exact Tryd.func8) rfl (by rw [C0_ann]; rfl) (by decide) (by simp [Tryd.f8])]
    simp [textF] at hi
    simp [Tryd.f8, evOps_cons, wantA_some, argsTm, ann_keep_8, ann_recov_8, ann_reg_8, reg8, ann_draw_8, draw8, ann_dok_8, dok8, evDraw_cons, drawEnd, chkNeed, kindS, isEff, textF, hi]
  · have hna : a.nodes ≤ N ∧ b.nodes ≤ N ∧ a.nodes ≤ 1000000 ∧ b.nodes ≤ 1000000 := by
      rw [Fun.nodes_eq] at hN hb
      simp only [Fun.args_mk, Fun.nodesL] at hN hb
      omega
    have ea := (ih a hna.1 hna.2.2.1 ha).1
    have eb := (ih b hna.2.1 hna.2.2.2 hb').1
    have la := textF_length a false
    have lb := textF_length b false
    simp at ea eb
    have hs : ∀ m : Mem, evCall C0 8 [.agg (Fun.mk k 0 [a, b]).cells] m = some (.ret (.str (textF (.mk k 0 [a, b]) true)), m) := by
      intro m
      rw [evCall_body C0 (C0_ext _ (by decide)) (by rw [C0_P]; exact Tryd.func8) rfl (by rw [C0_ann]; rfl) (by decide) (by simp [Tryd.f8])]
      rcases hk with rfl | rfl
      · simp [Tryd.f8, evOps_cons, wantA_some, argsTm, ann_keep_8, ann_recov_8, ann_reg_8, reg8, ann_draw_8, draw8, ann_dok_8, dok8, evDraw_cons, drawEnd, chkNeed, kindS, isEff, textF, ea, eb]
        repeat (rw [if_pos (by omega)]; simp [Tryd.f8, evOps_cons, wantA_some, argsTm, ann_keep_8, ann_recov_8, ann_reg_8, reg8, ann_draw_8, draw8, ann_dok_8, dok8, evDraw_cons, drawEnd, chkNeed, kindS, isEff, textF, ea, eb])
      · simp [Tryd.f8, evOps_cons, wantA_some, argsTm, ann_keep_8, ann_recov_8, ann_reg_8, reg8, ann_draw_8, draw8, ann_dok_8, dok8, evDraw_cons, drawEnd, chkNeed, kindS, isEff, textF, ea, eb]
        repeat (rw [if_pos (by omega)]; simp [Tryd.f8, evOps_cons, wantA_some, argsTm, ann_keep_8, ann_recov_8, ann_reg_8, reg8, ann_draw_8, draw8, ann_dok_8, dok8, evDraw_cons, drawEnd, chkNeed, kindS, isEff, textF, ea, eb])
    refine ⟨fun m => ?_, hs⟩
    rw [evCall_body C0 (C0_ext _ (by decide)) (by rw [C0_P]; exact Tryd.func17) rfl (by rw [C0_ann]; rfl) (by decide) (by simp [Tryd.f17])]
    have lt := textF_length (.mk k 0 [a, b]) true
    rw [textF_pair]
    generalize textF (.mk k 0 [a, b]) true = T at hs lt ⊢
    simp at hs
    rcases hk with rfl | rfl
    · simp [Tryd.f17, evOps_cons, wantA_some, argsTm, ann_keep_17, ann_recov_17, ann_reg_17, reg17, hs]
      repeat (rw [if_pos (by omega)]; simp [Tryd.f17, evOps_cons, wantA_some, argsTm, ann_keep_17, ann_recov_17, ann_reg_17, reg17, hs])
    · simp [Tryd.f17, evOps_cons, wantA_some, argsTm, ann_keep_17, ann_recov_17, ann_reg_17, reg17, hs]
      repeat (rw [if_pos (by omega)]; simp [Tryd.f17, evOps_cons, wantA_some, argsTm, ann_keep_17, ann_recov_17, ann_reg_17, reg17, hs])
  · have hna : a.nodes ≤ N ∧ a.nodes ≤ 1000000 := by
      rw [Fun.nodes_eq] at hN hb
      simp only [Fun.args_mk, Fun.nodesL] at hN hb
      omega
    have ea := (ih a hna.1 hna.2 ha).1
    have la := textF_length a false
    have ld := digs_length n
    have hdg := ev_Digits n (by omega) (by omega)
    simp at ea
    have hi : ∀ m : Mem, evCall C0 17 [.agg (Fun.mk 4 n [a]).cells] m = some (.ret (.str (textF (.mk 4 n [a]) false)), m) := by
      intro m
      rw [evCall_body C0 (C0_ext _ (by decide)) (by rw [C0_P]; exact Tryd.func17) rfl (by rw [C0_ann]; rfl) (by decide) (by simp [Tryd.f17])]
      by_cases c4 : a.kind = 4
      · have c4' := eq_true c4
        simp [Tryd.f17, evOps_cons, wantA_some, argsTm, ann_keep_17, ann_recov_17, ann_reg_17, reg17, textF, ea, hdg, c4']
        repeat (rw [if_pos (by omega)]; simp [Tryd.f17, evOps_cons, wantA_some, argsTm, ann_keep_17, ann_recov_17, ann_reg_17, reg17, textF, ea, hdg, c4'])
      · simp [Tryd.f17, evOps_cons, wantA_some, argsTm, ann_keep_17, ann_recov_17, ann_reg_17, reg17, textF, ea, hdg, c4]
        repeat (rw [if_pos (by omega)]; simp [Tryd.f17, evOps_cons, wantA_some, argsTm, ann_keep_17, ann_recov_17, ann_reg_17, reg17, textF, ea, hdg, c4])
    have ht : textF (.mk 4 n [a]) true = textF (.mk 4 n [a]) false := textF_top hsh (by simp)
    refine ⟨hi, fun m => ?_⟩
    rw [evCall_body C0 (C0_ext _ (by decide)) (by rw [C0_P]; exact Tryd.func8) rfl (by rw [C0_ann]; rfl) (by decide) (by simp [Tryd.f8])]
    rw [ht]
    generalize textF (.mk 4 n [a]) false = T at hi ⊢
    simp at hi
    simp [Tryd.f8, evOps_cons, wantA_some, argsTm, ann_keep_8, ann_recov_8, ann_reg_8, reg8, ann_draw_8, draw8, ann_dok_8, dok8, evDraw_cons, drawEnd, chkNeed, kindS, isEff, hi]
  · have hna : a.nodes ≤ N ∧ a.nodes ≤ 1000000 := by
      rw [Fun.nodes_eq] at hN hb
      simp only [Fun.args_mk, Fun.nodesL] at hN hb
      omega
    have ea := (ih a hna.1 hna.2 ha).2
    have la := textF_length a true
    simp at ea
    have hi : ∀ m : Mem, evCall C0 17 [.agg (Fun.mk k 0 [a]).cells] m = some (.ret (.str (textF (.mk k 0 [a]) false)), m) := by
      intro m
      rw [evCall_body C0 (C0_ext _ (by decide)) (by rw [C0_P]; exact Tryd.func17) rfl (by rw [C0_ann]; rfl) (by decide) (by simp [Tryd.f17])]
      rcases hk with rfl | rfl | rfl
      · simp [Tryd.f17, evOps_cons, wantA_some, argsTm, ann_keep_17, ann_recov_17, ann_reg_17, reg17, textF, ea, letter]
        repeat (rw [if_pos (by omega)]; simp [Tryd.f17, evOps_cons, wantA_some, argsTm, ann_keep_17, ann_recov_17, ann_reg_17, reg17, textF, ea, letter])
      · simp [Tryd.f17, evOps_cons, wantA_some, argsTm, ann_keep_17, ann_recov_17, ann_reg_17, reg17, textF, ea, letter]
        repeat (rw [if_pos (by omega)]; simp [Tryd.f17, evOps_cons, wantA_some, argsTm, ann_keep_17, ann_recov_17, ann_reg_17, reg17, textF, ea, letter])
      · simp [Tryd.f17, evOps_cons, wantA_some, argsTm, ann_keep_17, ann_recov_17, ann_reg_17, reg17, textF, ea, letter]
        repeat (rw [if_pos (by omega)]; simp [Tryd.f17, evOps_cons, wantA_some, argsTm, ann_keep_17, ann_recov_17, ann_reg_17, reg17, textF, ea, letter])
    have ht : textF (.mk k 0 [a]) true = textF (.mk k 0 [a]) false := textF_top hsh (by simp; omega)
    refine ⟨hi, fun m => ?_⟩
    rw [evCall_body C0 (C0_ext _ (by decide)) (by rw [C0_P]; exact Tryd.func8) rfl (by rw [C0_ann]; rfl) (by decide) (by simp [Tryd.f8])]
    rw [ht]
    generalize textF (.mk k 0 [a]) false = T at hi ⊢
    simp at hi
    rcases hk with rfl | rfl | rfl <;> simp [Tryd.f8, evOps_cons, wantA_some, argsTm, ann_keep_8, ann_recov_8, ann_reg_8, reg8, ann_draw_8, draw8, ann_dok_8, dok8, evDraw_cons, drawEnd, chkNeed, kindS, isEff, hi]
end AE
end Go.Proofs.YtbgppidldpepaaaDoor
