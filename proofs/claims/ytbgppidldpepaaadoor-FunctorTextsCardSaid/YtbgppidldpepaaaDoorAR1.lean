/- The reference's tokens and numbers. Printed in part by mkAR1.py. -/
import Derived.Test.YtbgppidldpepaaaDoorAR0
set_option linter.unusedVariables false
set_option linter.unusedSimpArgs false
namespace Go.Proofs.YtbgppidldpepaaaDoor
namespace AE
open Go

theorem ev_Digit (b : UInt8) (m : Mem) : evCall C0 33 [.int .u8 b.toNat] m = some (.ret (.bool (isDig b)), m) := by
  rw [evCall_body C0 (C0_ext _ (by decide)) (by rw [C0_P]; exact Tryd.func33) rfl (by rw [C0_ann]; rfl) (by decide) (by simp [Tryd.f33])]
  by_cases h1 : 48 ≤ b.toNat
  · have h1' : (48 : Int) ≤ b.toNat := by omega
    by_cases h2 : b.toNat ≤ 57
    · have h2' : (b.toNat : Int) ≤ 57 := by omega
      simp [Tryd.f33, evOps_cons, wantA_some, argsTm, ann_keep_33, ann_recov_33, ann_reg_33, reg33, isDig, h1, h2, h1', h2']
    · have h2' : ¬ (b.toNat : Int) ≤ 57 := by omega
      simp [Tryd.f33, evOps_cons, wantA_some, argsTm, ann_keep_33, ann_recov_33, ann_reg_33, reg33, isDig, h1, h2, h1', h2']
  · have h1' : ¬ (48 : Int) ≤ b.toNat := by omega
    simp [Tryd.f33, evOps_cons, wantA_some, argsTm, ann_keep_33, ann_recov_33, ann_reg_33, reg33, isDig, h1, h1']
set_option maxHeartbeats 1000000 in
theorem ev_Within (s : List UInt8) (hs : s.length ≤ 1000000) (c : UInt8) (m : Mem) : evCall C0 34 [.str s, .int .u8 c.toNat] m = some (.ret (.bool (decide (c ∈ s))), m) := by
  rw [evCall_body C0 (C0_ext _ (by decide)) (by rw [C0_P]; exact Tryd.func34) rfl (by rw [C0_ann]; rfl) (by decide) (by simp [Tryd.f34])]
  simp [Tryd.f34, evOps_cons, wantA_some, argsTm, ann_keep_34, ann_recov_34, ann_reg_34, reg34, ann_loop_34, loop34, headId, endRound_L, endRound_S]
  refine loop_in (fun i : Nat => ⟨[(0, .str s), (1, .int .u8 c.toNat), (5, .int .i64 i)], m⟩)
    (fun i => some (.ret (.bool (decide (c ∈ s.drop i))), m)) (fun i => s.length - i) (fun i => i ≤ s.length) 0 ?_ ?_ ?_ ?_ ?_
  · simp
  · simp
  · omega
  · intro x; simp [Tryd.f34, evOps_cons, wantA_some, argsTm, ann_keep_34, ann_recov_34, ann_reg_34, reg34, ann_loop_34, loop34, headId, endRound_L, endRound_S]
  · intro i hi hrec
    by_cases hlt : i < s.length
    · have w2 : IntKind.i64.wrap (i + 1) = i + 1 := wrap_id _ (by omega)
      have hm : (c ∈ s.drop i) ↔ (c = s[i] ∨ c ∈ s.drop (i + 1)) := by rw [List.drop_eq_getElem_cons hlt, List.mem_cons]
      by_cases hc : s[i] = c
      · have hc' : (s[i].toNat : Int) = c.toNat := by rw [hc]
        simp [round, Tryd.f34, evOps_cons, wantA_some, argsTm, ann_keep_34, ann_recov_34, ann_reg_34, reg34, ann_loop_34, loop34, headId, endRound_L, endRound_S, hlt, w2, eq_true hc', hm, hc]
      · have hc' : ¬ (s[i].toNat : Int) = c.toNat := fun e => hc ((byte_eq _ _).1 e)
        simp [round, Tryd.f34, evOps_cons, wantA_some, argsTm, ann_keep_34, ann_recov_34, ann_reg_34, reg34, ann_loop_34, loop34, headId, endRound_L, endRound_S, hlt, w2, hc', endRound_M0]
        refine hrec (i + 1) _ _ ?_ ?_ ?_ ?_
        · omega
        · omega
        · simp
        · have : ¬ c = s[i] := fun e => hc e.symm
          simp [hm, this]
    · clear hrec
      simp [round, Tryd.f34, evOps_cons, wantA_some, argsTm, ann_keep_34, ann_recov_34, ann_reg_34, reg34, ann_loop_34, loop34, headId, endRound_L, endRound_S, hlt]
      rw [List.drop_eq_nil_of_le (by omega)]
      simp

/-- The value of digits, at most the greatest int. -/
def numR (s : List UInt8) : Int := if valD 0 s < 9223372036854775808 then valD 0 s else 9223372036854775807
set_option maxHeartbeats 2000000 in
theorem ev_Number (s : List UInt8) (hs : s.length ≤ 1000000) (hd : ∀ b, b ∈ s → isDig b = true) (m : Mem) : evCall C0 51 [.str s] m = some (.ret (.int .i64 (numR s)), m) := by
  rw [evCall_body C0 (C0_ext _ (by decide)) (by rw [C0_P]; exact Tryd.func51) rfl (by rw [C0_ann]; rfl) (by decide) (by simp [Tryd.f51])]
  simp [Tryd.f51, evOps_cons, wantA_some, argsTm, ann_keep_51, ann_recov_51, ann_reg_51, reg51, ann_loop_51, loop51, headId, endRound_L, endRound_S]
  refine loop_in (fun x : Nat × Nat => ⟨[(0, .str s), (3, .int .i64 x.2), (4, .int .i64 x.1)], m⟩)
    (fun x => some (.ret (.int .i64 (if valD x.2 (s.drop x.1) < 9223372036854775808 then valD x.2 (s.drop x.1) else 9223372036854775807)), m)) (fun x => s.length - x.1) (fun x => x.1 ≤ s.length ∧ x.2 < 9223372036854775808) (0, 0) ?_ ?_ ?_ ?_ ?_
  · simp
  · simp [numR]
  · simp
  · intro x; simp [Tryd.f51, evOps_cons, wantA_some, argsTm, ann_keep_51, ann_recov_51, ann_reg_51, reg51, ann_loop_51, loop51, headId, endRound_L, endRound_S]
  · rintro ⟨i, n⟩ ⟨hi, hn⟩ hrec
    simp only at hi hn
    by_cases hlt : i < s.length
    · have w2 : IntKind.i64.wrap (i + 1) = i + 1 := wrap_id _ (by omega)
      have hb := isDig_iff.1 (hd s[i] (List.getElem_mem hlt))
      obtain ⟨d, hdd⟩ : ∃ d : Nat, s[i].toNat = 48 + d := ⟨s[i].toNat - 48, by omega⟩
      have hd9 : d ≤ 9 := by omega
      have e1 : (s[i].toNat : Int) - 48 = d := by omega
      have w3 : IntKind.u8.wrap (s[i].toNat - 48) = d := by rw [e1]; exact wrap8 _ (by omega)
      have w4 : IntKind.i64.wrap d = d := wrap_id _ (by omega)
      have w5 : IntKind.i64.wrap (9223372036854775807 - d) = 9223372036854775807 - d := wrap_id _ (by omega)
      have q1 : (9223372036854775807 - (d : Int)).tdiv 10 = ((9223372036854775807 - d) / 10 : Nat) := by
        rw [Int.tdiv_eq_ediv_of_nonneg (by omega)]
        omega
      have w6 : IntKind.i64.wrap (((9223372036854775807 - d) / 10 : Nat) : Int) = ((9223372036854775807 - d) / 10 : Nat) := wrap_id _ (by omega)
      have hv := drop_val hlt n
      rw [hdd, show 48 + d - 48 = d by omega] at hv
      by_cases hc : (9223372036854775807 - d) / 10 < n
      · have hge := valD_ge (s.drop (i + 1)) (n * 10 + d)
        have hbig : ¬ valD n (s.drop i) < 9223372036854775808 := by rw [hv]; omega
        have hc' : (((9223372036854775807 - d) / 10 : Nat) : Int) < n := by omega
        generalize (9223372036854775807 - d) / 10 = q at q1 w6 hc'
        simp [round, Tryd.f51, evOps_cons, wantA_some, argsTm, ann_keep_51, ann_recov_51, ann_reg_51, reg51, ann_loop_51, loop51, headId, endRound_L, endRound_S, hlt, w2, w3, w4, w5, q1, w6, hc', hbig]
      · have hc' : ¬ (((9223372036854775807 - d) / 10 : Nat) : Int) < n := by omega
        have w7 : IntKind.i64.wrap (10 * n) = 10 * n := wrap_id _ (by omega)
        have w8 : IntKind.i64.wrap (10 * n + d) = 10 * n + d := wrap_id _ (by omega)
        have hn2 : n * 10 + d < 9223372036854775808 := by omega
        generalize (9223372036854775807 - d) / 10 = q at q1 w6 hc'
        simp [round, Tryd.f51, evOps_cons, wantA_some, argsTm, ann_keep_51, ann_recov_51, ann_reg_51, reg51, ann_loop_51, loop51, headId, endRound_L, endRound_S, hlt, w2, w3, w4, w5, q1, w6, hc', w7, w8, endRound_M0]
        refine hrec (i + 1, n * 10 + d) _ _ ?_ ?_ ?_ ?_
        · simp; omega
        · simp only; omega
        · simp; omega
        · simp only
          rw [hv]
    · clear hrec
      simp [round, Tryd.f51, evOps_cons, wantA_some, argsTm, ann_keep_51, ann_recov_51, ann_reg_51, reg51, ann_loop_51, loop51, headId, endRound_L, endRound_S, hlt]
      rw [List.drop_eq_nil_of_le (by omega), valD_nil]
      simp [hn]

/-! ### Tokens -/
def strs (l : List (List UInt8)) : List A := l.map .str
@[simp] theorem strs_length (l : List (List UInt8)) : (strs l).length = l.length := by simp [strs]
@[simp] theorem strs_nil : strs [] = [] := rfl
@[simp] theorem strs_cons (t : List UInt8) (l : List (List UInt8)) : strs (t :: l) = .str t :: strs l := rfl
theorem strs_append (a b : List (List UInt8)) : strs (a ++ b) = strs a ++ strs b := by simp [strs]
@[simp] theorem closed_strs (nb nr : Nat) (l : List (List UInt8)) : (strs l).all (closed nb nr) = true := by simp [strs]
@[simp] theorem er_strs (nb nr : Nat) (g) (l : List (List UInt8)) : (strs l).map (er1 nb nr g) = strs l := by
  unfold strs
  rw [List.map_map]
  exact List.map_congr_left fun x _ => rfl
@[simp] theorem take_strs (l : List (List UInt8)) : (strs l).take l.length = strs l := List.take_of_length_le (by simp)
def marks : List UInt8 := [88, 80, 66, 68, 40, 41, 42, 43, 94]
theorem endRound_rows {l : List Nat} {m : Mem} {R' : List Row} {tm : List (Nat × A)} (hl : l.all (fun t => closed m.bx.length (m.rw.length + R'.length) (lk t tm)) = true) (hr : R'.all (fun r => r.cs.all (closed m.bx.length (m.rw.length + R'.length))) = true) :
    endRound (some l) m ⟨tm, ⟨m.bx, m.rw ++ R'⟩⟩ = some ⟨prune (some l) tm, ⟨m.bx, m.rw ++ R'⟩⟩ := by
  have := endRound_R0 (l := l) (B := m.bx) (L := []) (L' := []) (R := m.rw) (R' := R') (tm := tm) (by simp) (by simpa using hl) (by simp) (by simpa using hr)
  simpa using this
theorem endRound_rowsR {l : List Nat} {m : Mem} {R0 R' : List Row} {tm : List (Nat × A)} (hl : l.all (fun t => closed m.bx.length (m.rw.length + R'.length) (lk t tm)) = true) (hr : R'.all (fun r => r.cs.all (closed m.bx.length (m.rw.length + R'.length))) = true) :
    endRound (some l) ⟨m.bx, m.rw ++ R0⟩ ⟨tm, ⟨m.bx, m.rw ++ R'⟩⟩ = some ⟨prune (some l) tm, ⟨m.bx, m.rw ++ R'⟩⟩ := by
  have := endRound_R (l := l) (B := m.bx) (L := []) (L' := []) (R := m.rw) (R0 := R0) (R' := R') (tm := tm) (by simp) (by simpa using hl) (by simp) (by simpa using hr)
  simpa using this
theorem loop_midP {C : Cfg} {f nt : Nat} {σ : Type} (S : σ → St) (G : σ → Option (Ex × St)) (meas : σ → Nat) (I : σ → Prop) (x : σ) {b : Code} {id : Nat} {s0 : St} {r : Option (Ex × St)}
    (hs : (⟨prune (C.ann.loop f (headId b)) s0.tm, s0.m⟩ : St) = S x) (hr : G x = r) (hI : I x) (hp : ∀ x, prune (C.ann.loop f (headId b)) (S x).tm = (S x).tm)
    (h : ∀ x, I x → (∀ y s r, meas y < meas x → I y → s = S y → G y = r → ofBlock id (evCode C f nt (.loop b) s) = r) → ofBlock id (andThen (round C f nt b (S x)) (evCode C f nt (.loop b))) = G x) :
    ofBlock id (evCode C f nt (.loop b) s0) = r := by
  have e : evCode C f nt (.loop b) s0 = evCode C f nt (.loop b) (S x) := by
    rw [evCode_loop, evCode_loop (s := S x), hs]
    have : (⟨prune (C.ann.loop f (headId b)) (S x).tm, (S x).m⟩ : St) = S x := by rw [hp]
    rw [this]
  rw [e]
  exact loop_mid S G meas I x rfl hr hI hp h
/-- The tokens of a string. -/
def tok : List UInt8 → Option (List (List UInt8))
  | [] => some []
  | c :: r =>
    if c = 32 then tok r
    else if isDig c then (tok (r.drop (digN r))).map ((c :: r.take (digN r)) :: ·)
    else if c ∈ marks then (tok r).map ([c] :: ·)
    else none
  termination_by s => s.length
  decreasing_by all_goals (simp; try omega)
theorem tok_nil : tok [] = some [] := by rw [tok]
theorem tok_cons (c : UInt8) (r : List UInt8) : tok (c :: r) = if c = 32 then tok r
    else if isDig c then (tok (r.drop (digN r))).map ((c :: r.take (digN r)) :: ·)
    else if c ∈ marks then (tok r).map ([c] :: ·)
    else none := by rw [tok]
/-- What stands before position k from i on. -/
theorem slice_tok {s : List UInt8} {i : Nat} (h : i < s.length) (n : Nat) : (s.take (i + 1 + n)).drop i = s[i] :: (s.drop (i + 1)).take n := by
  rw [List.drop_take, show i + 1 + n - i = n + 1 by omega, List.drop_eq_getElem_cons h, List.take_succ_cons]
def tokG (m : Mem) (l : List (List UInt8)) (o : Option (List (List UInt8))) : Option (Res × Mem) := match o with
  | none => some (.ret (.tup [.isl false 0 [], .bool false]), m)
  | some l' => some (.ret (.tup [.isl false (l.length + l'.length) (strs l ++ strs l'), .bool true]), m)
def outA (m : Mem) (l : List (List UInt8)) : A := match l with
  | [] => .nils
  | l => .sl m.rw.length l.length 0 l.length
def outR (l : List (List UInt8)) : List Row := match l with
  | [] => []
  | l => [⟨9, strs l⟩]

set_option maxHeartbeats 16000000 in
theorem ev_Tokens (s : List UInt8) (hs : s.length ≤ 1000000) (m : Mem) : evCall C0 21 [.str s, .str marks] m = tokG m [] (tok s) := by
  rw [evCall_body C0 (C0_ext _ (by decide)) (by rw [C0_P]; exact Tryd.func21) rfl (by rw [C0_ann]; rfl) (by decide) (by simp [Tryd.f21])]
  simp [Tryd.f21, evOps_cons, wantA_some, argsTm, ann_keep_21, ann_recov_21, ann_reg_21, reg21, ann_loop_21, loop21, headId, endRound_L, endRound_S]
  refine loop_in (fun x : Nat × List (List UInt8) => ⟨[(0, .str s), (1, .str marks), (6, outA m x.2), (7, .int .i64 x.1)], ⟨m.bx, m.rw ++ outR x.2⟩⟩)
    (fun x => tokG m x.2 (tok (s.drop x.1))) (fun x => s.length - x.1) (fun x => x.1 ≤ s.length ∧ x.2.length ≤ x.1) (0, []) ?_ ?_ ?_ ?_ ?_
  · simp [outA, outR]
  · simp
  · simp
  · intro x; simp [Tryd.f21, evOps_cons, wantA_some, argsTm, ann_keep_21, ann_recov_21, ann_reg_21, reg21, ann_loop_21, loop21, headId, endRound_L, endRound_S]
  · rintro ⟨i, l⟩ ⟨hi, hll⟩ hrec
    simp only at hi hll
    have hmk := ev_Within marks (by decide)
    by_cases hlt : i < s.length
    case neg =>
      clear hrec
      have hd : s.drop i = [] := List.drop_eq_nil_of_le (by omega)
      rw [hd, tok_nil]
      cases l with
      | nil => simp [round, Tryd.f21, evOps_cons, wantA_some, argsTm, ann_keep_21, ann_recov_21, ann_reg_21, reg21, ann_loop_21, loop21, headId, endRound_L, endRound_S, hlt, outA, outR, tokG]
      | cons t l =>
        simp [round, Tryd.f21, evOps_cons, wantA_some, argsTm, ann_keep_21, ann_recov_21, ann_reg_21, reg21, ann_loop_21, loop21, headId, endRound_L, endRound_S, hlt, outA, outR, tokG]
    have w2 : IntKind.i64.wrap (i + 1) = i + 1 := wrap_id _ (by omega)
    rw [List.drop_eq_getElem_cons hlt, tok_cons]
    by_cases hc32 : s[i] = 32
    · have hc' : (s[i].toNat : Int) = 32 := by rw [hc32]; rfl
      rw [if_pos hc32]
      cases l with
      | nil =>
        simp [round, Tryd.f21, evOps_cons, wantA_some, argsTm, ann_keep_21, ann_recov_21, ann_reg_21, reg21, ann_loop_21, loop21, headId, endRound_L, endRound_S, hlt, w2, outA, outR, eq_true hc', endRound_M0]
        refine hrec (i + 1, []) _ _ ?_ ?_ ?_ ?_
        · simp; omega
        · simp; omega
        · simp [outA, outR]
        · simp
      | cons t l =>
        simp [round, Tryd.f21, evOps_cons, wantA_some, argsTm, ann_keep_21, ann_recov_21, ann_reg_21, reg21, ann_loop_21, loop21, headId, endRound_L, endRound_S, hlt, w2, outA, outR, eq_true hc', endRound_M0]
        refine hrec (i + 1, t :: l) _ _ ?_ ?_ ?_ ?_
        · simp; omega
        · simp at hll ⊢; omega
        · simp [outA, outR]
        · simp
    have hc' : ¬ (s[i].toNat : Int) = 32 := fun e => hc32 ((byte_eq _ 32).1 e)
    rw [if_neg hc32]
    have hdg := ev_Digit s[i]
    cases hid : isDig s[i] with
    | false =>
      simp only [hid] at hdg
      simp only [Bool.false_eq_true, if_false]
      have hw := hmk s[i]
      by_cases hmm : s[i] ∈ marks
      · simp only [hmm, decide_true] at hw
        rw [if_pos hmm]
        have hsl := slice_tok hlt 0
        simp only [Nat.add_zero, List.take_zero] at hsl
        have h3 : (i : Int) + 1 ≤ s.length := by omega
        have h6 : (i : Int) ≤ i + 1 := by omega
        cases l with
        | nil =>
          simp [round, Tryd.f21, evOps_cons, wantA_some, argsTm, ann_keep_21, ann_recov_21, ann_reg_21, reg21, ann_loop_21, loop21, headId, endRound_L, endRound_S, hlt, w2, outA, outR, hc', hdg, hw, h3, h6, hsl, endRound_rows]
          refine hrec (i + 1, [[s[i]]]) _ _ ?_ ?_ ?_ ?_
          · simp; omega
          · simp; omega
          · simp [outA, outR]
          · cases htk : tok (s.drop (i + 1)) <;> simp [tokG]; omega
        | cons t l =>
          have h4 : (l.length + 1 + 1) * 16 ≤ 70368744177664 := by simp at hll; omega
          have h5 : l.length + 1 + 1 ≤ 70368744177664 := by omega
          simp [round, Tryd.f21, evOps_cons, wantA_some, argsTm, ann_keep_21, ann_recov_21, ann_reg_21, reg21, ann_loop_21, loop21, headId, endRound_L, endRound_S, hlt, w2, outA, outR, hc', hdg, hw, h3, h6, h4, h5, hsl, endRound_rowsR]
          refine hrec (i + 1, t :: l ++ [[s[i]]]) _ _ ?_ ?_ ?_ ?_
          · simp; omega
          · simp at hll ⊢; omega
          · simp [outA, outR, strs_append]
          · cases htk : tok (s.drop (i + 1)) <;> simp [tokG, strs_append]; omega
      · simp only [hmm, decide_false] at hw
        rw [if_neg hmm]
        clear hrec
        cases l with
        | nil => simp [round, Tryd.f21, evOps_cons, wantA_some, argsTm, ann_keep_21, ann_recov_21, ann_reg_21, reg21, ann_loop_21, loop21, headId, endRound_L, endRound_S, hlt, w2, outA, outR, hc', hdg, hw, tokG]
        | cons t l => simp [round, Tryd.f21, evOps_cons, wantA_some, argsTm, ann_keep_21, ann_recov_21, ann_reg_21, reg21, ann_loop_21, loop21, headId, endRound_L, endRound_S, hlt, w2, outA, outR, hc', hdg, hw, tokG]
    | true =>
      simp only [hid] at hdg
      simp only [if_true]
      have hdn := digN_le (s.drop (i + 1))
      rw [List.length_drop] at hdn
      obtain ⟨k1, hk1⟩ : ∃ k1, k1 = i + 1 + digN (s.drop (i + 1)) := ⟨_, rfl⟩
      have hk1s : k1 ≤ s.length := by omega
      have hsl := slice_tok hlt (digN (s.drop (i + 1)))
      rw [← hk1] at hsl
      have hdd : (s.drop (i + 1)).drop (digN (s.drop (i + 1))) = s.drop k1 := by rw [List.drop_drop, hk1]
      rw [hdd]
      have hat : ∀ k, i + 1 ≤ k → k ≤ k1 → ∀ h : k < s.length, isDig s[k] = decide (k < k1) := fun k q1 q2 q3 => by
        have q4 : k - (i + 1) < (s.drop (i + 1)).length := by rw [List.length_drop]; omega
        have q5 := digN_at q4 (by omega)
        have q6 : (s.drop (i + 1))[k - (i + 1)] = s[k] := by rw [List.getElem_drop]; congr 1; omega
        rw [q6] at q5
        rw [Bool.eq_iff_iff, ← q5, decide_eq_true_eq]
        omega
      generalize (s.drop (i + 1)).take (digN (s.drop (i + 1))) = ds at hsl
      cases l with
      | nil =>
        simp [round, Tryd.f21, evOps_cons, wantA_some, argsTm, ann_keep_21, ann_recov_21, ann_reg_21, reg21, ann_loop_21, loop21, headId, endRound_L, endRound_S, hlt, w2, outA, outR, hc', hdg]
        rw [loop_midP (fun k : Nat => ⟨[(0, .str s), (1, .str marks), (6, .nils), (7, .int .i64 i), (8, .int .i64 k)], m⟩) (fun _ => some (.normal, ⟨[(0, .str s), (1, .str marks), (6, .nils), (7, .int .i64 i), (8, .int .i64 k1), (36, .bool false)], m⟩)) (fun k => s.length - k) (fun k => i + 1 ≤ k ∧ k ≤ k1) (i + 1) ?_ rfl ?_ ?_ ?_]
        · have h3 : i ≤ k1 := by omega
          simp [Tryd.f21, evOps_cons, wantA_some, argsTm, ann_keep_21, ann_recov_21, ann_reg_21, reg21, ann_loop_21, loop21, headId, endRound_L, endRound_S, hk1s, h3, hsl, endRound_rows]
          refine hrec (k1, [s[i] :: ds]) _ _ ?_ ?_ ?_ ?_
          · simp; omega
          · simp; omega
          · simp [outA, outR]
          · cases htk : tok (s.drop k1) <;> simp [tokG]; omega
        · simp [Tryd.f21, evOps_cons, wantA_some, argsTm, ann_keep_21, ann_recov_21, ann_reg_21, reg21, ann_loop_21, loop21, headId, endRound_L, endRound_S]
        · exact ⟨Nat.le_refl _, by omega⟩
        · intro x; simp [Tryd.f21, evOps_cons, wantA_some, argsTm, ann_keep_21, ann_recov_21, ann_reg_21, reg21, ann_loop_21, loop21, headId, endRound_L, endRound_S]
        · intro k hk hrec2
          clear hrec
          by_cases hks : k < s.length
          · have hdk := ev_Digit s[k]
            have w3 : IntKind.i64.wrap (k + 1) = k + 1 := wrap_id _ (by omega)
            rw [hat k hk.1 hk.2 hks] at hdk
            by_cases hkk : k < k1
            · simp only [hkk, decide_true] at hdk
              simp [round, Tryd.f21, evOps_cons, wantA_some, argsTm, ann_keep_21, ann_recov_21, ann_reg_21, reg21, ann_loop_21, loop21, headId, endRound_L, endRound_S, hks, hdk, w3, endRound_M0]
              refine hrec2 (k + 1) _ _ ?_ ?_ ?_ ?_
              · omega
              · omega
              · simp
              · simp
            · have : k = k1 := by omega
              subst this
              simp only [hkk, decide_false] at hdk
              simp [round, Tryd.f21, evOps_cons, wantA_some, argsTm, ann_keep_21, ann_recov_21, ann_reg_21, reg21, ann_loop_21, loop21, headId, endRound_L, endRound_S, hks, hdk]
          · have : k = k1 := by omega
            subst this
            simp [round, Tryd.f21, evOps_cons, wantA_some, argsTm, ann_keep_21, ann_recov_21, ann_reg_21, reg21, ann_loop_21, loop21, headId, endRound_L, endRound_S, hks]
      | cons t l =>
        have h4 : (l.length + 1 + 1) * 16 ≤ 70368744177664 := by simp at hll; omega
        have h5 : l.length + 1 + 1 ≤ 70368744177664 := by omega
        simp [round, Tryd.f21, evOps_cons, wantA_some, argsTm, ann_keep_21, ann_recov_21, ann_reg_21, reg21, ann_loop_21, loop21, headId, endRound_L, endRound_S, hlt, w2, outA, outR, hc', hdg]
        rw [loop_midP (fun k : Nat => ⟨[(0, .str s), (1, .str marks), (6, .sl m.rw.length (l.length + 1) 0 (l.length + 1)), (7, .int .i64 i), (8, .int .i64 k)], ⟨m.bx, m.rw ++ [⟨9, .str t :: strs l⟩]⟩⟩) (fun _ => some (.normal, ⟨[(0, .str s), (1, .str marks), (6, .sl m.rw.length (l.length + 1) 0 (l.length + 1)), (7, .int .i64 i), (8, .int .i64 k1), (36, .bool false)], ⟨m.bx, m.rw ++ [⟨9, .str t :: strs l⟩]⟩⟩)) (fun k => s.length - k) (fun k => i + 1 ≤ k ∧ k ≤ k1) (i + 1) ?_ rfl ?_ ?_ ?_]
        · have h3 : i ≤ k1 := by omega
          simp [Tryd.f21, evOps_cons, wantA_some, argsTm, ann_keep_21, ann_recov_21, ann_reg_21, reg21, ann_loop_21, loop21, headId, endRound_L, endRound_S, hk1s, h3, hsl, h4, h5, endRound_rowsR]
          refine hrec (k1, t :: l ++ [s[i] :: ds]) _ _ ?_ ?_ ?_ ?_
          · simp; omega
          · simp at hll ⊢; omega
          · simp [outA, outR, strs_append]
          · cases htk : tok (s.drop k1) <;> simp [tokG, strs_append]; omega
        · simp [Tryd.f21, evOps_cons, wantA_some, argsTm, ann_keep_21, ann_recov_21, ann_reg_21, reg21, ann_loop_21, loop21, headId, endRound_L, endRound_S]
        · exact ⟨Nat.le_refl _, by omega⟩
        · intro x; simp [Tryd.f21, evOps_cons, wantA_some, argsTm, ann_keep_21, ann_recov_21, ann_reg_21, reg21, ann_loop_21, loop21, headId, endRound_L, endRound_S]
        · intro k hk hrec2
          clear hrec
          by_cases hks : k < s.length
          · have hdk := ev_Digit s[k]
            have w3 : IntKind.i64.wrap (k + 1) = k + 1 := wrap_id _ (by omega)
            rw [hat k hk.1 hk.2 hks] at hdk
            by_cases hkk : k < k1
            · simp only [hkk, decide_true] at hdk
              simp [round, Tryd.f21, evOps_cons, wantA_some, argsTm, ann_keep_21, ann_recov_21, ann_reg_21, reg21, ann_loop_21, loop21, headId, endRound_L, endRound_S, hks, hdk, w3, endRound_M0]
              refine hrec2 (k + 1) _ _ ?_ ?_ ?_ ?_
              · omega
              · omega
              · simp
              · simp
            · have : k = k1 := by omega
              subst this
              simp only [hkk, decide_false] at hdk
              simp [round, Tryd.f21, evOps_cons, wantA_some, argsTm, ann_keep_21, ann_recov_21, ann_reg_21, reg21, ann_loop_21, loop21, headId, endRound_L, endRound_S, hks, hdk]
          · have : k = k1 := by omega
            subst this
            simp [round, Tryd.f21, evOps_cons, wantA_some, argsTm, ann_keep_21, ann_recov_21, ann_reg_21, reg21, ann_loop_21, loop21, headId, endRound_L, endRound_S, hks]
end AE
end Go.Proofs.YtbgppidldpepaaaDoor
