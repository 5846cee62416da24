/- Strings of functors. -/
import Derived.Test.YtbgppidldpepaaaDoorAF7
set_option linter.unusedVariables false
set_option linter.unusedSimpArgs false
namespace Go.Proofs.YtbgppidldpepaaaDoor
namespace AE
open Go

/-- The digits of a number that is at most 16. -/
def digs (k : Int) : List UInt8 := if k < 10 then [UInt8.ofNat (48 + k.toNat)] else [49, UInt8.ofNat (38 + k.toNat)]
set_option maxRecDepth 100000 in
set_option maxHeartbeats 4000000 in
theorem ev_small (k : Int) (h0 : 0 ≤ k) (h1 : k ≤ 16) (m : Mem) : evCall C0 61 [.int .i64 k] m = some (.ret (.str (digs k)), m) := by
  rw [evCall_body C0 (C0_ext _ (by decide)) (by rw [C0_P]; exact Tryd.func61) rfl (by rw [C0_ann]; rfl) (by decide) (by simp [Tryd.f61])]
  have : k = 0 ∨ k = 1 ∨ k = 2 ∨ k = 3 ∨ k = 4 ∨ k = 5 ∨ k = 6 ∨ k = 7 ∨ k = 8 ∨ k = 9 ∨ k = 10 ∨ k = 11 ∨ k = 12 ∨ k = 13 ∨ k = 14 ∨ k = 15 ∨ k = 16 := by omega
  have w : ∀ n : Int, 0 ≤ n → n ≤ 1000 → IntKind.i64.wrap n = n := fun n h0 h1 => wrap_id n (by omega)
  rcases this with rfl | rfl | rfl | rfl | rfl | rfl | rfl | rfl | rfl | rfl | rfl | rfl | rfl | rfl | rfl | rfl | rfl <;> simp [Tryd.f61, evOps_cons, wantA_some, argsTm, ann_keep_61, ann_recov_61, ann_reg_61, reg61, w, digs]
theorem ev_Format (k : Int) (h0 : 0 ≤ k) (h1 : k ≤ 16) (m : Mem) : evCall C0 54 [.int .i64 k, .int .i64 10] m = some (.ret (.str (digs k)), m) := by
  rw [evCall_body C0 (C0_ext _ (by decide)) (by rw [C0_P]; exact Tryd.func54) rfl (by rw [C0_ann]; rfl) (by decide) (by simp [Tryd.f54])]
  have h2 : k < 100 := by omega
  simp [Tryd.f54, evOps_cons, wantA_some, argsTm, ann_keep_54, ann_recov_54, ann_reg_54, reg54, h0, h2, ev_small k h0 h1]
theorem ev_IItoa (k : Int) (h0 : 0 ≤ k) (h1 : k ≤ 16) (m : Mem) : evCall C0 41 [.int .i64 k] m = some (.ret (.str (digs k)), m) := by
  rw [evCall_body C0 (C0_ext _ (by decide)) (by rw [C0_P]; exact Tryd.func41) rfl (by rw [C0_ann]; rfl) (by decide) (by simp [Tryd.f41])]
  simp [Tryd.f41, evOps_cons, wantA_some, argsTm, ann_keep_41, ann_recov_41, ann_reg_41, reg41, ev_Format k h0 h1]
theorem ev_Itoa (k : Int) (h0 : 0 ≤ k) (h1 : k ≤ 16) (m : Mem) : evCall C0 26 [.int .i64 k] m = some (.ret (.str (digs k)), m) := by
  rw [evCall_body C0 (C0_ext _ (by decide)) (by rw [C0_P]; exact Tryd.func26) rfl (by rw [C0_ann]; rfl) (by decide) (by simp [Tryd.f26])]
  simp [Tryd.f26, evOps_cons, wantA_some, argsTm, ann_keep_26, ann_recov_26, ann_reg_26, reg26, ev_IItoa k h0 h1]

def letter (k : Int) : UInt8 := if k = 5 then 80 else if k = 6 then 66 else 68
def textF : Fun → Bool → List UInt8
  | .mk k n [], _ => if k = 0 then [88] else digs n
  | .mk k n [a], _ => if k = 4 then (if a.kind = 4 then 40 :: textF a false ++ [41] else textF a false) ++ [32, 94, 32] ++ digs n else letter k :: 40 :: textF a true ++ [41]
  | .mk k n (a :: b :: _), top => if top then textF a false ++ [32, if k = 3 then 43 else 42, 32] ++ textF b false else 40 :: (textF a false ++ [32, if k = 3 then 43 else 42, 32] ++ textF b false) ++ [41]
theorem digs_length (k : Int) : (digs k).length ≤ 2 := by unfold digs; split <;> simp
theorem textF_length : ∀ (f : Fun) (top : Bool), (textF f top).length ≤ 10 * f.nodes
  | .mk k n [], top => by
    rw [textF, Fun.nodes_eq]
    have := digs_length n
    split <;> simp <;> omega
  | .mk k n [a], top => by
    rw [textF, Fun.nodes_eq]
    have h1 := textF_length a false
    have h2 := textF_length a true
    have := digs_length n
    simp only [Fun.args_mk, Fun.nodesL]
    split
    · split <;> simp <;> omega
    · simp; omega
  | .mk k n (a :: b :: r), top => by
    rw [textF, Fun.nodes_eq]
    have h1 := textF_length a false
    have h2 := textF_length b false
    simp only [Fun.args_mk, Fun.nodesL]
    split <;> simp <;> omega
theorem take_cells (f : Fun) (r : List Fun) : (Fun.cellsL (f :: r)).take 3 = f.cells := by rw [Fun.cellsL]; simp [List.take_append]
theorem arityF_kind {k : Int} (h : 0 ≤ arityF k) : 0 ≤ k ∧ k ≤ 7 := by
  unfold arityF at h
  repeat' split at h
  all_goals omega
theorem shapedF_kind {f : Fun} (h : shapedF f = true) : 0 ≤ f.kind ∧ f.kind ≤ 7 := by
  rw [shapedF_eq] at h
  simp only [Bool.and_eq_true, decide_eq_true_eq] at h
  exact arityF_kind (by rw [← h.1.1.1]; omega)
set_option maxHeartbeats 4000000 in
theorem ev_Text (N : Nat) : ∀ (f : Fun), f.nodes ≤ N → f.nodes ≤ 1000000 → shapedF f = true → ∀ (top : Bool) (m : Mem), evCall C0 15 [.agg f.cells, .bool top] m = some (.ret (.str (textF f top)), m) := by
  induction N with
  | zero => intro f hN; have := f.nodes_pos; omega
  | succ N ih =>
  rintro ⟨k, n, l⟩ hN hb hsh top m
  have hk := shapedF_kind hsh
  rw [shapedF_eq] at hsh
  simp only [Fun.kind_mk, Fun.num_mk, Fun.args_mk, Bool.and_eq_true, decide_eq_true_eq] at hsh hk
  obtain ⟨⟨⟨s1, s2⟩, s3⟩, s4⟩ := hsh
  rw [evCall_body C0 (C0_ext _ (by decide)) (by rw [C0_P]; exact Tryd.func15) rfl (by rw [C0_ann]; rfl) (by decide) (by simp [Tryd.f15])]
  rw [Fun.nodes_eq] at hN hb
  simp only [Fun.args_mk] at hN hb
  have two : ∀ k' : Int, k' = 2 ∨ k' = 3 → k = k' → ∃ a b, l = [a, b] := by
    rintro k' h rfl
    have : l.length = 2 := by rcases h with rfl | rfl <;> simp [arityF] at s1 <;> omega
    match l, this with
    | [a, b], _ => exact ⟨a, b, rfl⟩
  have one : ∀ k' : Int, k' = 4 ∨ k' = 5 ∨ k' = 6 ∨ k' = 7 → k = k' → ∃ a, l = [a] := by
    rintro k' h rfl
    have : l.length = 1 := by rcases h with rfl | rfl | rfl | rfl <;> simp [arityF] at s1 <;> omega
    match l, this with
    | [a], _ => exact ⟨a, rfl⟩
  have hks : k = 0 ∨ k = 1 ∨ k = 2 ∨ k = 3 ∨ k = 4 ∨ k = 5 ∨ k = 6 ∨ k = 7 := by omega
  rcases hks with rfl | rfl | rfl | rfl | rfl | rfl | rfl | rfl
  · have : l = [] := by simpa [arityF] using s1
    subst this
    simp [Tryd.f15, evOps_cons, wantA_some, argsTm, ann_keep_15, ann_recov_15, ann_reg_15, reg15, ann_draw_15, draw15, ann_dok_15, dok15, evDraw_cons, drawEnd, chkNeed, kindS, isEff, textF]
  · have : l = [] := by simpa [arityF] using s1
    subst this
    have n1 : 0 ≤ n ∧ n ≤ 16 := by simp [mostF] at s2 s3; omega
    simp [Tryd.f15, evOps_cons, wantA_some, argsTm, ann_keep_15, ann_recov_15, ann_reg_15, reg15, ann_draw_15, draw15, ann_dok_15, dok15, evDraw_cons, drawEnd, chkNeed, kindS, isEff, textF, ev_Itoa n n1.1 n1.2]
  case inr.inr.inl =>
    obtain ⟨a, b, rfl⟩ := two 2 (by simp) rfl
    simp only [shapedL, Fun.nodesL, Bool.and_eq_true] at s4 hN hb
    have ea := ih a (by omega) (by omega) s4.1 false
    have eb := ih b (by omega) (by omega) s4.2.1 false
    have la := textF_length a false
    have lb := textF_length b false
    simp at ea eb
    cases top
    · simp [Tryd.f15, evOps_cons, wantA_some, argsTm, ann_keep_15, ann_recov_15, ann_reg_15, reg15, ann_draw_15, draw15, ann_dok_15, dok15, evDraw_cons, drawEnd, chkNeed, kindS, isEff, textF, ea, eb]
      repeat (rw [if_pos (by omega)]; simp [Tryd.f15, evOps_cons, wantA_some, argsTm, ann_keep_15, ann_recov_15, ann_reg_15, reg15, ann_draw_15, draw15, ann_dok_15, dok15, evDraw_cons, drawEnd, chkNeed, kindS, isEff, textF, ea, eb])
    · simp [Tryd.f15, evOps_cons, wantA_some, argsTm, ann_keep_15, ann_recov_15, ann_reg_15, reg15, ann_draw_15, draw15, ann_dok_15, dok15, evDraw_cons, drawEnd, chkNeed, kindS, isEff, textF, ea, eb]
      repeat (rw [if_pos (by omega)]; simp [Tryd.f15, evOps_cons, wantA_some, argsTm, ann_keep_15, ann_recov_15, ann_reg_15, reg15, ann_draw_15, draw15, ann_dok_15, dok15, evDraw_cons, drawEnd, chkNeed, kindS, isEff, textF, ea, eb])
  case inr.inr.inr.inl =>
    obtain ⟨a, b, rfl⟩ := two 3 (by simp) rfl
    simp only [shapedL, Fun.nodesL, Bool.and_eq_true] at s4 hN hb
    have ea := ih a (by omega) (by omega) s4.1 false
    have eb := ih b (by omega) (by omega) s4.2.1 false
    have la := textF_length a false
    have lb := textF_length b false
    simp at ea eb
    cases top
    · simp [Tryd.f15, evOps_cons, wantA_some, argsTm, ann_keep_15, ann_recov_15, ann_reg_15, reg15, ann_draw_15, draw15, ann_dok_15, dok15, evDraw_cons, drawEnd, chkNeed, kindS, isEff, textF, ea, eb]
      repeat (rw [if_pos (by omega)]; simp [Tryd.f15, evOps_cons, wantA_some, argsTm, ann_keep_15, ann_recov_15, ann_reg_15, reg15, ann_draw_15, draw15, ann_dok_15, dok15, evDraw_cons, drawEnd, chkNeed, kindS, isEff, textF, ea, eb])
    · simp [Tryd.f15, evOps_cons, wantA_some, argsTm, ann_keep_15, ann_recov_15, ann_reg_15, reg15, ann_draw_15, draw15, ann_dok_15, dok15, evDraw_cons, drawEnd, chkNeed, kindS, isEff, textF, ea, eb]
      repeat (rw [if_pos (by omega)]; simp [Tryd.f15, evOps_cons, wantA_some, argsTm, ann_keep_15, ann_recov_15, ann_reg_15, reg15, ann_draw_15, draw15, ann_dok_15, dok15, evDraw_cons, drawEnd, chkNeed, kindS, isEff, textF, ea, eb])
  case inr.inr.inr.inr.inl =>
    obtain ⟨a, rfl⟩ := one 4 (by simp) rfl
    simp only [shapedL, Fun.nodesL, Bool.and_eq_true] at s4 hN hb
    have ea := ih a (by omega) (by omega) s4.1 false
    have la := textF_length a false
    have ld := digs_length n
    have n1 : 0 ≤ n ∧ n ≤ 16 := by simp [mostF] at s2 s3; omega
    have en := ev_Itoa n n1.1 n1.2
    simp at ea
    by_cases c4 : a.kind = 4
    · have c4' := eq_true c4
      simp [Tryd.f15, evOps_cons, wantA_some, argsTm, ann_keep_15, ann_recov_15, ann_reg_15, reg15, ann_draw_15, draw15, ann_dok_15, dok15, evDraw_cons, drawEnd, chkNeed, kindS, isEff, textF, ea, en, c4']
      repeat (rw [if_pos (by omega)]; simp [Tryd.f15, evOps_cons, wantA_some, argsTm, ann_keep_15, ann_recov_15, ann_reg_15, reg15, ann_draw_15, draw15, ann_dok_15, dok15, evDraw_cons, drawEnd, chkNeed, kindS, isEff, textF, ea, en, c4'])
    · simp [Tryd.f15, evOps_cons, wantA_some, argsTm, ann_keep_15, ann_recov_15, ann_reg_15, reg15, ann_draw_15, draw15, ann_dok_15, dok15, evDraw_cons, drawEnd, chkNeed, kindS, isEff, textF, ea, en, c4]
      repeat (rw [if_pos (by omega)]; simp [Tryd.f15, evOps_cons, wantA_some, argsTm, ann_keep_15, ann_recov_15, ann_reg_15, reg15, ann_draw_15, draw15, ann_dok_15, dok15, evDraw_cons, drawEnd, chkNeed, kindS, isEff, textF, ea, en, c4])
  case inr.inr.inr.inr.inr.inl =>
    obtain ⟨a, rfl⟩ := one 5 (by simp) rfl
    simp only [shapedL, Fun.nodesL, Bool.and_eq_true] at s4 hN hb
    have ea := ih a (by omega) (by omega) s4.1 true
    have la := textF_length a true
    simp at ea
    simp [Tryd.f15, evOps_cons, wantA_some, argsTm, ann_keep_15, ann_recov_15, ann_reg_15, reg15, ann_draw_15, draw15, ann_dok_15, dok15, evDraw_cons, drawEnd, chkNeed, kindS, isEff, textF, ea, letter]
    repeat (rw [if_pos (by omega)]; simp [Tryd.f15, evOps_cons, wantA_some, argsTm, ann_keep_15, ann_recov_15, ann_reg_15, reg15, ann_draw_15, draw15, ann_dok_15, dok15, evDraw_cons, drawEnd, chkNeed, kindS, isEff, textF, ea, letter])
  case inr.inr.inr.inr.inr.inr.inl =>
    obtain ⟨a, rfl⟩ := one 6 (by simp) rfl
    simp only [shapedL, Fun.nodesL, Bool.and_eq_true] at s4 hN hb
    have ea := ih a (by omega) (by omega) s4.1 true
    have la := textF_length a true
    simp at ea
    have w : ∀ n : Int, 0 ≤ n → n ≤ 1000 → IntKind.i64.wrap n = n := fun n h0 h1 => wrap_id n (by omega)
    simp [Tryd.f15, evOps_cons, wantA_some, argsTm, ann_keep_15, ann_recov_15, ann_reg_15, reg15, ann_draw_15, draw15, ann_dok_15, dok15, evDraw_cons, drawEnd, chkNeed, kindS, isEff, textF, ea, letter, w]
    repeat (rw [if_pos (by omega)]; simp [Tryd.f15, evOps_cons, wantA_some, argsTm, ann_keep_15, ann_recov_15, ann_reg_15, reg15, ann_draw_15, draw15, ann_dok_15, dok15, evDraw_cons, drawEnd, chkNeed, kindS, isEff, textF, ea, letter, w])
  case inr.inr.inr.inr.inr.inr.inr =>
    obtain ⟨a, rfl⟩ := one 7 (by simp) rfl
    simp only [shapedL, Fun.nodesL, Bool.and_eq_true] at s4 hN hb
    have ea := ih a (by omega) (by omega) s4.1 true
    have la := textF_length a true
    simp at ea
    have w : ∀ n : Int, 0 ≤ n → n ≤ 1000 → IntKind.i64.wrap n = n := fun n h0 h1 => wrap_id n (by omega)
    simp [Tryd.f15, evOps_cons, wantA_some, argsTm, ann_keep_15, ann_recov_15, ann_reg_15, reg15, ann_draw_15, draw15, ann_dok_15, dok15, evDraw_cons, drawEnd, chkNeed, kindS, isEff, textF, ea, letter, w]
    repeat (rw [if_pos (by omega)]; simp [Tryd.f15, evOps_cons, wantA_some, argsTm, ann_keep_15, ann_recov_15, ann_reg_15, reg15, ann_draw_15, draw15, ann_dok_15, dok15, evDraw_cons, drawEnd, chkNeed, kindS, isEff, textF, ea, letter, w])

mutual
theorem validF_shaped : ∀ (f : Fun) (left deep : Int), (validF f left deep).1 = true → shapedF f = true
  | .mk k n l, left, deep, h => by
    rw [validF] at h
    split at h
    · cases h
    · rename_i hc
      simp only [not_or, Int.not_lt, Decidable.not_not] at hc
      rw [shapedF]
      simp [hc, validL_shaped l (left - 1) deep h]
theorem validL_shaped : ∀ (l : List Fun) (left deep : Int), (validL l left deep).1 = true → shapedL l = true
  | [], _, _, _ => by rw [shapedL]
  | f :: r, left, deep, h => by
    rw [validL] at h
    split at h
    · rename_i hf
      rw [shapedL, validF_shaped f left (deep + 1) hf, validL_shaped r _ deep h]
      rfl
    · cases h
end
theorem okF_shaped {f : Fun} (h : okF f = true) : shapedF f = true := validF_shaped f 20 1 h
theorem ev_String (f : Fun) (hb : f.nodes ≤ 1000000) (m : Mem) : evCall C0 6 [.agg f.cells] m = some (.ret (.tup [.str (if okF f then textF f true else []), .int .i64 (if okF f then 0 else 10)]), m) := by
  rw [evCall_body C0 (C0_ext _ (by decide)) (by rw [C0_P]; exact Tryd.func6) rfl (by rw [C0_ann]; rfl) (by decide) (by simp [Tryd.f6])]
  have he := ev_Valid f (by omega)
  simp at he
  cases hc : okF f with
  | false => simp [hc] at he; simp [Tryd.f6, evOps_cons, wantA_some, argsTm, ann_keep_6, ann_recov_6, ann_reg_6, reg6, he]
  | true =>
    have ht := ev_Text f.nodes f (Nat.le_refl _) hb (okF_shaped hc) true
    simp [hc] at he ht
    simp [Tryd.f6, evOps_cons, wantA_some, argsTm, ann_keep_6, ann_recov_6, ann_reg_6, reg6, he, ht]
end AE
end Go.Proofs.YtbgppidldpepaaaDoor
