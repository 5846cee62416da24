/- Both parsers of functors agree: plain laws, the end. -/
import Derived.Test.YtbgppidldpepaaaDoorAR5
set_option linter.unusedVariables false
set_option linter.unusedSimpArgs false
namespace Go.Proofs.YtbgppidldpepaaaDoor
namespace AE
open Go

theorem kindR_of {c : UInt8} {l : List (List UInt8)} {b : Bool} : kindR ([c] :: l, b) = if c = 80 then 5 else if c = 66 then 6 else if c = 68 then 7 else -1 := by
  unfold kindR
  simp
theorem atomR_kind {fn : RS → Fun × RS} {c : UInt8} {k : Int} {l : List (List UInt8)} (hc : (c = 80 ∧ k = 5) ∨ (c = 66 ∧ k = 6) ∨ (c = 68 ∧ k = 7)) : atomR fn ([c] :: l, false) = (.mk k 0 [(inR fn (l, false)).1], (inR fn (l, false)).2) := by
  have h1 : kindR ([c] :: l, false) = k := by
    rw [kindR_of]
    rcases hc with ⟨rfl, rfl⟩ | ⟨rfl, rfl⟩ | ⟨rfl, rfl⟩ <;> decide
  have h2 : ¬ c = 88 := by rcases hc with ⟨rfl, _⟩ | ⟨rfl, _⟩ | ⟨rfl, _⟩ <;> decide
  unfold atomR
  rw [h1]
  have h3 : (0 : Int) ≤ k := by omega
  simp [h2, h3]
theorem atomR_open {fn : RS → Fun × RS} {l : List (List UInt8)} : atomR fn ([40] :: l, false) = inR fn ([40] :: l, false) := by
  have h1 : kindR ([40] :: l, false) = -1 := by rw [kindR_of]; decide
  unfold atomR
  rw [h1]
  simp
/-- A number, or what is none. -/
theorem atomR_num {fn : RS → Fun × RS} {l : List (List UInt8)} (h : ∀ c, (c = 88 ∨ c = 80 ∨ c = 66 ∨ c = 68 ∨ c = 40) → l.head? ≠ some [c]) : atomR fn (l, false) = (.mk 1 (numR (digR (l, false)).1) [], (digR (l, false)).2) := by
  have h1 : kindR (l, false) = -1 := by
    unfold kindR
    rw [if_neg (h 80 (by simp)), if_neg (h 66 (by simp)), if_neg (h 68 (by simp))]
  unfold atomR
  rw [h1]
  have h2 := h 88 (by simp)
  have h3 := h 40 (by simp)
  simp only [Bool.false_eq_true, if_false, h2, h3]
  rw [if_neg (by decide)]

section
variable {all : List UInt8 → PR} {fn : RS → Fun × RS} {n : Nat} (hst : Stick fn) (H : Sim all fn n)
include hst H
/-- P, B or D. -/
theorem inner_sim {c : UInt8} {k : Int} (hc : (c = 80 ∧ k = 5) ∨ (c = 66 ∧ k = 6) ∨ (c = 68 ∧ k = 7)) {r : List UInt8} (hr : r.length < n) :
    (∀ f t l', pInner all k r = (some f, t) → tok t = some l' → ∃ l f', tok (c :: r) = some l ∧ atomR fn (l, false) = (f', (l', false)) ∧ simF f f') ∧
    (∀ t l, pInner all k r = (none, t) → tok (c :: r) = some l → (atomR fn (l, false)).2.2 = true) ∧
    (∀ f t l, pInner all k r = (some f, t) → tok (c :: r) = some l → ∃ l', tok t = some l') := by
  have hm : c ∈ marks := by rcases hc with ⟨rfl, _⟩ | ⟨rfl, _⟩ | ⟨rfl, _⟩ <;> decide
  have htk := tok_mark hm r
  have hsl := (isC_suffix 40 r).length_le
  refine ⟨fun f t l' h ht => ?_, fun t l h hl => ?_, fun f t l h hl => ?_⟩
  · unfold pInner at h
    split at h
    · rename_i h40
      obtain ⟨l, g, g', h1, rfl, h3, h4⟩ := close_ok hst H (by omega) h ht
      have h5 := isC_tok (c := 40) (by decide) h40
      rw [h1] at h5
      rw [h5] at htk
      refine ⟨_, .mk k 0 [g'], htk, ?_, simF_one (.inl rfl) h3⟩
      show atomR fn ([c] :: [40] :: l, false) = _
      rw [atomR_kind hc, h4]
    · cases h
  · rw [htk] at hl
    obtain ⟨q, h1, rfl⟩ := Option.map_eq_some_iff.1 hl
    rw [atomR_kind hc]
    show (inR fn (q, false)).2.2 = true
    unfold pInner at h
    split at h
    · rename_i h40
      have h5 := isC_tok (c := 40) (by decide) h40
      rw [h1] at h5
      obtain ⟨q2, h6, rfl⟩ := Option.map_eq_some_iff.1 h5.symm
      exact close_bad hst H (by omega) h h6
    · rename_i h40
      have h40' : (isC 40 r).1 = false := by simpa using h40
      unfold inR
      exact takeR_stick (hst _ (takeR_bad ((isC_tokf h40').2 q h1)))
  · rw [htk] at hl
    obtain ⟨q, h1, rfl⟩ := Option.map_eq_some_iff.1 hl
    unfold pInner at h
    split at h
    · rename_i h40
      have h5 := isC_tok (c := 40) (by decide) h40
      rw [h1] at h5
      obtain ⟨q2, h6, _⟩ := Option.map_eq_some_iff.1 h5.symm
      exact close_fwd hst H (by omega) h h6
    · cases h
theorem operand_sim : Sim (pOperand all) (atomR fn) (n + 1) := by
  have key : ∀ s, s.length < n + 1 → (∀ f t l', pOperand all s = (some f, t) → tok t = some l' → ∃ l f', tok s = some l ∧ atomR fn (l, false) = (f', (l', false)) ∧ simF f f') ∧
      (∀ t l, pOperand all s = (none, t) → tok s = some l → (atomR fn (l, false)).2.2 = true) ∧
      (∀ f t l, pOperand all s = (some f, t) → tok s = some l → ∃ l', tok t = some l') := by
    intro s hs
    have hdl := dropC_length 32 s
    rw [← tok_drop s]
    unfold pOperand
    cases hd : dropC 32 s with
    | nil =>
      refine ⟨fun f t l' h => (by cases h), fun t l h hl => ?_, fun f t l h => (by cases h)⟩
      rw [tok_nil] at hl
      cases hl
      rw [atomR_num (by simp)]
      rfl
    | cons c r =>
    have h32 := dropC_head hd
    rw [hd] at hdl
    have hr : r.length < n := by simp at hdl; omega
    simp only
    by_cases c88 : c = 88
    · subst c88
      have htk := tok_mark (c := 88) (by decide) r
      rw [if_pos rfl]
      refine ⟨fun f t l' h ht => ?_, fun t l h => (by cases h), fun f t l h hl => ?_⟩
      · simp only [Prod.mk.injEq, Option.some.injEq] at h
        obtain ⟨rfl, rfl⟩ := h
        rw [ht] at htk
        refine ⟨_, .mk 0 0 [], htk, ?_, ?_⟩
        · unfold atomR
          simp [takeR]
        · rw [simF, simL]
          exact ⟨rfl, .inl rfl, trivial⟩
      · simp only [Prod.mk.injEq, Option.some.injEq] at h
        obtain ⟨rfl, rfl⟩ := h
        rw [htk] at hl
        obtain ⟨q, h1, _⟩ := Option.map_eq_some_iff.1 hl
        exact ⟨q, h1⟩
    rw [if_neg c88]
    by_cases c40 : c = 40
    · subst c40
      have htk := tok_mark (c := 40) (by decide) r
      rw [if_pos rfl]
      refine ⟨fun f t l' h ht => ?_, fun t l h hl => ?_, fun f t l h hl => ?_⟩
      · obtain ⟨l, g, g', h1, rfl, h3, h4⟩ := close_ok hst H hr h ht
        rw [h1] at htk
        exact ⟨_, g', htk, by show atomR fn ([40] :: l, false) = _; rw [atomR_open, h4], h3⟩
      · rw [htk] at hl
        obtain ⟨q, h1, rfl⟩ := Option.map_eq_some_iff.1 hl
        rw [atomR_open]
        exact close_bad hst H hr h h1
      · rw [htk] at hl
        obtain ⟨q, h1, rfl⟩ := Option.map_eq_some_iff.1 hl
        exact close_fwd hst H hr h h1
    rw [if_neg c40]
    by_cases c80 : c = 80
    · subst c80; rw [if_pos rfl]; exact inner_sim hst H (.inl ⟨rfl, rfl⟩) hr
    rw [if_neg c80]
    by_cases c66 : c = 66
    · subst c66; rw [if_pos rfl]; exact inner_sim hst H (.inr (.inl ⟨rfl, rfl⟩)) hr
    rw [if_neg c66]
    by_cases c68 : c = 68
    · subst c68; rw [if_pos rfl]; exact inner_sim hst H (.inr (.inr ⟨rfl, rfl⟩)) hr
    rw [if_neg c68]
    have hhead : ∀ l, tok (c :: r) = some l → ∀ c', (c' = 88 ∨ c' = 80 ∨ c' = 66 ∨ c' = 68 ∨ c' = 40) → l.head? ≠ some [c'] := by
      intro l hl c' hc' e
      obtain ⟨t, q, rfl, _⟩ := tok_head h32 hl
      simp at e
      obtain ⟨rfl, _⟩ := e
      rcases hc' with h | h | h | h | h
      · exact c88 h
      · exact c80 h
      · exact c66 h
      · exact c68 h
      · exact c40 h
    cases hn : numF (c :: r) with
    | mk o v =>
    cases o with
    | none =>
      refine ⟨fun f t l' h => (by cases h), fun t l h hl => ?_, fun f t l h => (by cases h)⟩
      rw [atomR_num (hhead l hl)]
      exact numF_bad hn hl false
    | some k =>
      obtain ⟨c', ds, e1, e2, e3⟩ := numF_tok hn
      refine ⟨fun f t l' h ht => ?_, fun t l h => (by cases h), fun f t l h hl => ?_⟩
      · simp only [Option.map_some, Prod.mk.injEq, Option.some.injEq] at h
        rw [h.2, ht] at e2
        refine ⟨_, .mk 1 (numR (c' :: ds)) [], e2, ?_, ?_⟩
        · rw [atomR_num (hhead _ e2)]
          simp [digR, e1]
        · rw [← h.1, simF, simL]
          exact ⟨rfl, e3, trivial⟩
      · simp only [Option.map_some, Prod.mk.injEq, Option.some.injEq] at h
        rw [e2, h.2] at hl
        obtain ⟨q, h1, _⟩ := Option.map_eq_some_iff.1 hl
        exact ⟨q, h1⟩
  exact ⟨fun s f t l' hs => (key s hs).1 f t l', fun s t l hs => (key s hs).2.1 t l, fun s f t l hs => (key s hs).2.2 f t l⟩
theorem power_sim : Sim (pPower all) (opR fn) (n + 1) := by
  have HO := operand_sim hst H
  have hsta := atomR_stick hst
  refine ⟨fun s f t l' hs h ht => ?_, fun s t l hs h hl => ?_, fun s f t l hs h hl => ?_⟩
  · unfold pPower at h
    split at h
    · cases h
    · rename_i g u he
      split at h
      · rename_i hc
        cases hn : numF (isC 94 u).2 with
        | mk o v =>
        rw [hn] at h
        cases o with
        | none => simp at h
        | some k =>
        simp only [Option.map_some, Prod.mk.injEq, Option.some.injEq] at h
        obtain ⟨c', ds, e1, e2, e3⟩ := numF_tok hn
        rw [h.2, ht] at e2
        have hu := isC_tok (c := 94) (by decide) hc
        rw [e2] at hu
        obtain ⟨l, f', h1, h2, h3⟩ := HO.ok s g u _ hs he hu
        refine ⟨l, .mk 4 (numR (c' :: ds)) [f'], h1, ?_, ?_⟩
        · unfold opR
          simp only [h2]
          rw [if_pos (by rfl), takeR_ok]
          simp [digR, e1]
        · rw [← h.1]
          exact simF_one e3 h3
      · rename_i hc
        have hc' : (isC 94 u).1 = false := by simpa using hc
        simp only [Prod.mk.injEq, Option.some.injEq] at h
        have h5 := isC_tokf hc'
        rw [h.2, ht] at h5
        obtain ⟨l, f', h1, h2, h3⟩ := HO.ok s g u l' hs he h5.1.symm
        refine ⟨l, f', h1, ?_, by rw [← h.1]; exact h3⟩
        unfold opR
        simp only [h2]
        rw [if_neg (h5.2 l' h5.1.symm)]
  · unfold pPower at h
    split at h
    · rename_i u he
      exact (by
        have h1 := HO.bad s u l hs he hl
        unfold opR
        simp only
        split
        · exact digR_stick (takeR_stick h1)
        · exact h1)
    · rename_i g u he
      split at h
      · rename_i hc
        cases hn : numF (isC 94 u).2 with
        | mk o v =>
        rw [hn] at h
        cases o with
        | some k => simp at h
        | none =>
        obtain ⟨lu, hlu⟩ := HO.fwd s g u l hs he hl
        obtain ⟨l2, f', h1, h2, h3⟩ := HO.ok s g u lu hs he hlu
        rw [hl] at h1
        cases h1
        have hu := isC_tok (c := 94) (by decide) hc
        rw [hlu] at hu
        obtain ⟨q, h6, rfl⟩ := Option.map_eq_some_iff.1 hu.symm
        unfold opR
        simp only [h2]
        rw [if_pos (by rfl), takeR_ok]
        exact numF_bad hn h6 false
      · cases h
  · unfold pPower at h
    split at h
    · cases h
    · rename_i g u he
      obtain ⟨lu, hlu⟩ := HO.fwd s g u l hs he hl
      split at h
      · rename_i hc
        cases hn : numF (isC 94 u).2 with
        | mk o v =>
        rw [hn] at h
        cases o with
        | none => simp at h
        | some k =>
        simp only [Option.map_some, Prod.mk.injEq, Option.some.injEq] at h
        have hu := isC_tok (c := 94) (by decide) hc
        rw [hlu] at hu
        obtain ⟨q, h6, _⟩ := Option.map_eq_some_iff.1 hu.symm
        obtain ⟨c', ds, e1, e2, e3⟩ := numF_tok hn
        rw [e2, h.2] at h6
        obtain ⟨q2, h7, _⟩ := Option.map_eq_some_iff.1 h6
        exact ⟨q2, h7⟩
      · rename_i hc
        have hc' : (isC 94 u).1 = false := by simpa using hc
        simp only [Prod.mk.injEq, Option.some.injEq] at h
        have h5 := (isC_tokf hc').1
        rw [h.2, hlu] at h5
        exact ⟨lu, h5⟩
end
end AE
end Go.Proofs.YtbgppidldpepaaaDoor
