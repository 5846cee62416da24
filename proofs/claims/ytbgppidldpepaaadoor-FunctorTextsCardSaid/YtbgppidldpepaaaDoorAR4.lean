/- The reference's Parse. -/
import Derived.Test.YtbgppidldpepaaaDoorAR3
set_option linter.unusedVariables false
set_option linter.unusedSimpArgs false
namespace Go.Proofs.YtbgppidldpepaaaDoor
namespace AE
open Go

theorem digN_take (s : List UInt8) : ∀ b, b ∈ s.take (digN s) → isDig b = true := by
  intro b hb
  have : s.take (digN s) = s.takeWhile isDig := by
    unfold digN
    exact (List.prefix_iff_eq_take.1 (List.takeWhile_prefix _)).symm
  rw [this] at hb
  exact List.all_eq_true.1 (List.all_takeWhile) _ hb
theorem tok_ok : ∀ (N : Nat) (s : List UInt8) (l : List (List UInt8)), s.length ≤ N → s.length ≤ 1000000 → tok s = some l → TkOk l ∧ l.length ≤ s.length
  | 0, s, l, hN, hs, h => by
    have : s = [] := List.eq_nil_of_length_eq_zero (by omega)
    subst this
    rw [tok_nil] at h
    cases h
    exact ⟨fun t ht => (by cases ht), by simp⟩
  | N + 1, [], l, hN, hs, h => by
    rw [tok_nil] at h
    cases h
    exact ⟨fun t ht => (by cases ht), by simp⟩
  | N + 1, c :: r, l, hN, hs, h => by
    rw [tok_cons] at h
    simp only [List.length_cons] at hN hs ⊢
    split at h
    · obtain ⟨h1, h2⟩ := tok_ok N r l (by omega) (by omega) h
      exact ⟨h1, by omega⟩
    · split at h
      · rename_i hd
        obtain ⟨q, h1, rfl⟩ := Option.map_eq_some_iff.1 h
        obtain ⟨h2, h3⟩ := tok_ok N _ q (by simp; omega) (by simp; omega) h1
        refine ⟨fun t ht => ?_, by simp at h3 ⊢; omega⟩
        rcases List.mem_cons.1 ht with rfl | ht
        · refine ⟨c, _, rfl, by simp; omega, fun _ b hb => ?_⟩
          rcases List.mem_cons.1 hb with rfl | hb
          · exact hd
          · exact digN_take r b hb
        · exact h2 t ht
      · rename_i hd
        split at h
        · obtain ⟨q, h1, rfl⟩ := Option.map_eq_some_iff.1 h
          obtain ⟨h2, h3⟩ := tok_ok N r q (by omega) (by omega) h1
          refine ⟨fun t ht => ?_, by simp; omega⟩
          rcases List.mem_cons.1 ht with rfl | ht
          · exact ⟨c, [], rfl, by simp, fun hc => absurd hc hd⟩
          · exact h2 t ht
        · cases h

/-- The reference's functor of a string, or the error. -/
def refF (s : List UInt8) : Fun × Int :=
  if 40000 < s.length then (zeroF, 2) else
  match tok s with
  | none => (zeroF, 11)
  | some l =>
    let x := funR (l.length + 1) (l, false)
    if x.2.2 = true ∨ x.2.1 ≠ [] then (zeroF, 11) else if isF x.1 then (x.1, 0) else (zeroF, 10)
set_option maxHeartbeats 4000000 in
theorem ev_RParse (s : List UInt8) (hs : s.length ≤ 1000000) (hnn : ∀ l, tok s = some l → (funR (l.length + 1) (l, false)).1.nodes ≤ 1000000000) (m : Mem) : evCall C0 10 [.str s] m = some (.ret (.tup [.agg (refF s).1.cells, .int .i64 (refF s).2]), m) := by
  rw [evCall_body C0 (C0_ext _ (by decide)) (by rw [C0_P]; exact Tryd.func10) rfl (by rw [C0_ann]; rfl) (by decide) (by simp [Tryd.f10])]
  unfold refF
  by_cases hl : 40000 < s.length
  · have hl' : (40000 : Int) < s.length := by omega
    simp [Tryd.f10, evOps_cons, wantA_some, argsTm, ann_keep_10, ann_recov_10, ann_reg_10, reg10, hl, hl', zeroF]
  have hl' : ¬ (40000 : Int) < s.length := by omega
  rw [if_neg hl]
  have et := ev_Tokens s hs ⟨m.bx ++ [[.int .i64 0, .int .i64 0, .nils]], m.rw⟩
  cases htk : tok s with
  | none =>
    rw [htk] at et
    simp [tokG, marks] at et
    simp [Tryd.f10, evOps_cons, wantA_some, argsTm, ann_keep_10, ann_recov_10, ann_reg_10, reg10, hl, hl', et, zeroF]
  | some l =>
  obtain ⟨hk, hll⟩ := tok_ok s.length s l (Nat.le_refl _) hs htk
  rw [htk] at et
  simp [tokG, marks] at et
  have e1 := ev_fun (m.bx.length + 1) (l.length + 1) (l, false) ⟨m.bx ++ [[.int .i64 0, .int .i64 0, .nils], rd (l, false)], m.rw⟩ hk (by simp only; omega) (by simp) (by simp)
  have hb := hnn l htk
  have hsl := (funR_suffix (l.length + 1) (l, false)).length_le
  dsimp only at hsl ⊢
  generalize funR (l.length + 1) (l, false) = x at e1 hb hsl ⊢
  obtain ⟨f, q, b⟩ := x
  simp at e1 hb hsl
  have ei := ev_Is f hb
  have hif : isF f = (decide (0 < leftF f 21) && decide (f.depth ≤ 8) && shapedF f) := rfl
  rw [← hif] at ei
  simp at ei
  cases b with
  | true => simp [Tryd.f10, evOps_cons, wantA_some, argsTm, ann_keep_10, ann_recov_10, ann_reg_10, reg10, hl, hl', et, e1, zeroF]
  | false =>
    cases q with
    | cons t q =>
      have hp : (0 : Int) < q.length + 1 := by omega
      simp [Tryd.f10, evOps_cons, wantA_some, argsTm, ann_keep_10, ann_recov_10, ann_reg_10, reg10, hl, hl', et, e1, hp, zeroF]
    | nil =>
      cases hi : isF f with
      | true =>
        simp only [hi] at ei
        simp [Tryd.f10, evOps_cons, wantA_some, argsTm, ann_keep_10, ann_recov_10, ann_reg_10, reg10, hl, hl', et, e1, ei, hi]
      | false =>
        simp only [hi] at ei
        simp [Tryd.f10, evOps_cons, wantA_some, argsTm, ann_keep_10, ann_recov_10, ann_reg_10, reg10, hl, hl', et, e1, ei, hi, zeroF]
end AE
end Go.Proofs.YtbgppidldpepaaaDoor
