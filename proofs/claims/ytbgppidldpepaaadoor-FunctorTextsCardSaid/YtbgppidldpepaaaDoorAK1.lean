/- The string of a functor is parsed back to it, in any number of brackets: plain laws. -/
import Derived.Test.YtbgppidldpepaaaDoorAH1
set_option linter.unusedVariables false
set_option linter.unusedSimpArgs false
namespace Go.Proofs.YtbgppidldpepaaaDoor
namespace AE
open Go

theorem dropC_idem (c : UInt8) : ∀ s, dropC c (dropC c s) = dropC c s
  | [] => rfl
  | b :: r => by
    by_cases h : b = c
    · subst h; rw [dropC_same, dropC_idem b r]
    · rw [dropC_ne h, dropC_ne h]
theorem isC_drop (c : UInt8) (s : List UInt8) : isC c s = isC c (dropC 32 s) := by unfold isC; rw [dropC_idem]
theorem isC_eq (c : UInt8) {s t : List UInt8} (h : dropC 32 s = dropC 32 t) : isC c s = isC c t := by unfold isC; rw [h]
theorem pOperand_eq (all : List UInt8 → PR) {s t : List UInt8} (h : dropC 32 s = dropC 32 t) : pOperand all s = pOperand all t := by unfold pOperand; rw [h]
theorem pPower_eq (all : List UInt8 → PR) {s t : List UInt8} (h : dropC 32 s = dropC 32 t) : pPower all s = pPower all t := by unfold pPower; rw [pOperand_eq all h]
theorem isC_no {c : UInt8} {s : List UInt8} (h : ∀ r, ¬ dropC 32 s = c :: r) : isC c s = (false, dropC 32 s) := by
  unfold isC
  cases hd : dropC 32 s with
  | nil => rfl
  | cons b r =>
    have : ¬ b = c := by rintro rfl; exact h r hd
    simp [this]
theorem isC_yes {c : UInt8} {s r : List UInt8} (h : dropC 32 s = c :: r) : isC c s = (true, r) := by unfold isC; rw [h]; simp

theorem digN_cons {b : UInt8} (h : isDig b = false) (r : List UInt8) : digN (b :: r) = 0 := by unfold digN; simp [h]
theorem digN_consT {b : UInt8} (h : isDig b = true) (r : List UInt8) : digN (b :: r) = digN r + 1 := by unfold digN; simp [h]
/-- No digit is next. -/
def NoD (r : List UInt8) : Prop := digN r = 0
theorem digN_append {r : List UInt8} (h : NoD r) : ∀ v : List UInt8, digN (v ++ r) = digN v
  | [] => h
  | b :: v => by
    cases hb : isDig b
    · rw [List.cons_append, digN_cons hb, digN_cons hb]
    · rw [List.cons_append, digN_consT hb, digN_consT hb, digN_append h v]
/-- What may stand behind an operand. -/
def After (r : List UInt8) : Prop := r = [] ∨ (∃ q, r = 41 :: q) ∨ ∃ q, r = 32 :: q
theorem After.noD {r : List UInt8} (h : After r) : NoD r := by
  rcases h with rfl | ⟨q, rfl⟩ | ⟨q, rfl⟩
  · rfl
  · exact digN_cons rfl q
  · exact digN_cons rfl q
theorem num_digs {k : Int} (h0 : 1 ≤ k) (h1 : k ≤ 16) {r : List UInt8} (hr : NoD r) : ∀ s, dropC 32 s = digs k ++ r → numF s = (some k, r) := by
  intro s hs
  have : k = 1 ∨ k = 2 ∨ k = 3 ∨ k = 4 ∨ k = 5 ∨ k = 6 ∨ k = 7 ∨ k = 8 ∨ k = 9 ∨ k = 10 ∨ k = 11 ∨ k = 12 ∨ k = 13 ∨ k = 14 ∨ k = 15 ∨ k = 16 := by omega
  unfold numF
  simp only [hs, digN_append hr]
  rcases this with rfl | rfl | rfl | rfl | rfl | rfl | rfl | rfl | rfl | rfl | rfl | rfl | rfl | rfl | rfl | rfl <;> simp [digs, digN, isDig, dropC, atoiF]
theorem digs_head {k : Int} (h0 : 1 ≤ k) (h1 : k ≤ 16) : ∃ b r, digs k = b :: r ∧ isDig b = true := by
  have : k = 1 ∨ k = 2 ∨ k = 3 ∨ k = 4 ∨ k = 5 ∨ k = 6 ∨ k = 7 ∨ k = 8 ∨ k = 9 ∨ k = 10 ∨ k = 11 ∨ k = 12 ∨ k = 13 ∨ k = 14 ∨ k = 15 ∨ k = 16 := by omega
  rcases this with rfl | rfl | rfl | rfl | rfl | rfl | rfl | rfl | rfl | rfl | rfl | rfl | rfl | rfl | rfl | rfl <;> simp [digs, isDig]

def AllB (n : Nat) : Prop := ∀ f : Fun, shapedF f = true → f.depth ≤ n → ∀ r, (r = [] ∨ ∃ q, r = 41 :: q) → ∃ t, pAll n (textF f true ++ r) = (some f, t) ∧ dropC 32 t = r
theorem close_of {t q : List UInt8} {f : Fun} {k : Fun → Fun} (h : dropC 32 t = 41 :: q) : closeF k (some f, t) = (some (k f), q) := by
  unfold closeF
  simp only [isC_yes h, if_true]
theorem after41 (q : List UInt8) : After (41 :: q) := Or.inr (Or.inl ⟨q, rfl⟩)
theorem drop41 (q : List UInt8) : dropC 32 (41 :: q) = 41 :: q := dropC_ne (by decide) q

/-- The shapes of valid functors. -/
theorem shapes {f : Fun} (h : shapedF f = true) : f = .mk 0 0 [] ∨ (∃ n, 1 ≤ n ∧ n ≤ 16 ∧ f = .mk 1 n []) ∨ (∃ k a b, (k = 2 ∨ k = 3) ∧ shapedF a = true ∧ shapedF b = true ∧ f = .mk k 0 [a, b]) ∨ (∃ n a, 1 ≤ n ∧ n ≤ 4 ∧ shapedF a = true ∧ f = .mk 4 n [a]) ∨ ∃ k a, (k = 5 ∨ k = 6 ∨ k = 7) ∧ shapedF a = true ∧ f = .mk k 0 [a] := by
  have hk := shapedF_kind h
  obtain ⟨k, n, l⟩ := f
  rw [shapedF_eq] at h
  simp only [Fun.kind_mk, Fun.num_mk, Fun.args_mk, Bool.and_eq_true, decide_eq_true_eq] at h hk
  obtain ⟨⟨⟨s1, s2⟩, s3⟩, s4⟩ := h
  have two : (2 : Int) = l.length → ∃ a b, l = [a, b] := by
    intro h
    match l, h with
    | [a, b], _ => exact ⟨a, b, rfl⟩
    | [], h => simp at h
    | [_], h => simp at h
    | _ :: _ :: _ :: _, h => simp at h; omega
  have one : (1 : Int) = l.length → ∃ a, l = [a] := by
    intro h
    match l, h with
    | [a], _ => exact ⟨a, rfl⟩
    | [], h => simp at h
    | _ :: _ :: _, h => simp at h; omega
  have hks : k = 0 ∨ k = 1 ∨ k = 2 ∨ k = 3 ∨ k = 4 ∨ k = 5 ∨ k = 6 ∨ k = 7 := by omega
  rcases hks with rfl | rfl | rfl | rfl | rfl | rfl | rfl | rfl
  · have : l = [] := by simpa [arityF] using s1
    subst this
    have : n = 0 := by simp [mostF] at s2 s3; omega
    subst this
    exact Or.inl rfl
  · have : l = [] := by simpa [arityF] using s1
    subst this
    exact Or.inr (Or.inl ⟨n, by simp [mostF] at s2; omega, by simp [mostF] at s3; omega, rfl⟩)
  · obtain ⟨a, b, rfl⟩ := two (by have := of_decide_eq_true s1; simp [arityF] at this; omega)
    have : n = 0 := by simp [mostF] at s2 s3; omega
    subst this
    simp only [shapedL, Bool.and_eq_true] at s4
    exact Or.inr (Or.inr (Or.inl ⟨2, a, b, by simp, s4.1, s4.2.1, rfl⟩))
  · obtain ⟨a, b, rfl⟩ := two (by have := of_decide_eq_true s1; simp [arityF] at this; omega)
    have : n = 0 := by simp [mostF] at s2 s3; omega
    subst this
    simp only [shapedL, Bool.and_eq_true] at s4
    exact Or.inr (Or.inr (Or.inl ⟨3, a, b, by simp, s4.1, s4.2.1, rfl⟩))
  · obtain ⟨a, rfl⟩ := one (by have := of_decide_eq_true s1; simp [arityF] at this; omega)
    simp only [shapedL, Bool.and_eq_true] at s4
    exact Or.inr (Or.inr (Or.inr (Or.inl ⟨n, a, by simp [mostF] at s2; omega, by simp [mostF] at s3; omega, s4.1, rfl⟩)))
  all_goals
    obtain ⟨a, rfl⟩ := one (by have := of_decide_eq_true s1; simp [arityF] at this; omega)
    have : n = 0 := by simp [mostF] at s2 s3; omega
    subst this
    simp only [shapedL, Bool.and_eq_true] at s4
    exact Or.inr (Or.inr (Or.inr (Or.inr ⟨_, a, by simp, s4.1, rfl⟩)))

def lim (f : Fun) (n : Nat) : Prop := (f.kind = 2 ∨ f.kind = 3 → f.depth ≤ n) ∧ f.depth ≤ n + 1
theorem lim_of {f : Fun} {n : Nat} (h : f.depth ≤ n) : lim f n := ⟨fun _ => h, by omega⟩
theorem operandB {n : Nat} (hA : AllB n) {f : Fun} (hs : shapedF f = true) (hd : lim f n) (h4 : ¬ f.kind = 4) {r : List UInt8} (hr : After r) : pOperand (pAll n) (textF f false ++ r) = (some f, r) := by
  rcases shapes hs with rfl | ⟨m, m1, m2, rfl⟩ | ⟨k, a, b, hk, ha, hb, rfl⟩ | ⟨m, a, m1, m2, ha, rfl⟩ | ⟨k, a, hk, ha, rfl⟩
  · rw [textF, if_pos rfl, List.singleton_append]
    unfold pOperand
    rw [dropC_ne (by decide)]
    simp
  · rw [textF, if_neg (by decide)]
    obtain ⟨b, t, he, hb⟩ := digs_head m1 m2
    have hb' := isDig_iff.1 hb
    have ne : ∀ c : UInt8, ¬ (48 ≤ c.toNat ∧ c.toNat ≤ 57) → ¬ b = c := by rintro c hc rfl; exact hc hb'
    have hdr : dropC 32 (digs m ++ r) = digs m ++ r := by rw [he]; exact dropC_ne (ne 32 (by decide)) _
    have hn := num_digs m1 m2 hr.noD (digs m ++ r) hdr
    unfold pOperand
    rw [hdr]
    rw [he, List.cons_append] at hn ⊢
    simp only [hn, ne 88 (by decide), ne 40 (by decide), ne 80 (by decide), ne 66 (by decide), ne 68 (by decide), if_false, Option.map_some]
  · obtain ⟨t, e1, e2⟩ := hA (.mk k 0 [a, b]) hs (hd.1 (by simpa using hk)) (41 :: r) (Or.inr ⟨r, rfl⟩)
    rw [textF, if_pos rfl] at e1
    rw [textF, if_neg (by decide)]
    unfold pOperand
    rw [List.cons_append, List.cons_append, dropC_ne (show ¬ (40 : UInt8) = 32 by decide)]
    simp only [List.append_assoc, List.singleton_append] at e1 ⊢
    simp only [show ¬ (40 : UInt8) = 88 by decide, if_false, if_true, e1, close_of e2]
    rfl
  · exact absurd rfl h4
  · have hda : a.depth ≤ n := by
      have := hd.2
      rw [Fun.depth_eq] at this
      simp [Fun.depthL] at this
      omega
    obtain ⟨t, e1, e2⟩ := hA a ha hda (41 :: r) (Or.inr ⟨r, rfl⟩)
    have hk4 : ¬ k = 4 := by omega
    rw [textF, if_neg hk4]
    have e3 : pInner (pAll n) k (40 :: (textF a true ++ [41] ++ r)) = (some (.mk k 0 [a]), r) := by
      unfold pInner
      rw [isC_cons (by decide)]
      simp only [if_true, List.append_assoc, List.singleton_append, e1, close_of e2]
    unfold pOperand
    rcases hk with rfl | rfl | rfl <;> simp [letter, dropC] <;> simpa using e3
theorem powerB {n : Nat} (hA : AllB n) {f : Fun} (hs : shapedF f = true) (hd : lim f n) {r : List UInt8} (hr : After r) (h94 : (isC 94 r).1 = false) : ∃ t, pPower (pAll n) (textF f false ++ r) = (some f, t) ∧ dropC 32 t = dropC 32 r := by
  by_cases h4 : f.kind = 4
  · rcases shapes hs with rfl | ⟨m, m1, m2, rfl⟩ | ⟨k, a, b, hk, ha, hb, rfl⟩ | ⟨m, a, m1, m2, ha, rfl⟩ | ⟨k, a, hk, ha, rfl⟩
    · simp at h4
    · simp at h4
    · simp at h4; omega
    · have hda : a.depth ≤ n := by
        have := hd.2
        rw [Fun.depth_eq] at this
        simp [Fun.depthL] at this
        omega
      have hq : After (32 :: 94 :: 32 :: (digs m ++ r)) := Or.inr (Or.inr ⟨_, rfl⟩)
      have e1 : pOperand (pAll n) ((if a.kind = 4 then 40 :: textF a false ++ [41] else textF a false) ++ (32 :: 94 :: 32 :: (digs m ++ r))) = (some a, 32 :: 94 :: 32 :: (digs m ++ r)) := by
        by_cases ha4 : a.kind = 4
        · obtain ⟨t, e1, e2⟩ := hA a ha hda (41 :: 32 :: 94 :: 32 :: (digs m ++ r)) (Or.inr ⟨_, rfl⟩)
          have he : textF a false = textF a true := by
            obtain ⟨k', m', l⟩ := a
            simp at ha4
            subst ha4
            rw [shapedF_eq] at ha
            simp [arityF] at ha
            match l, ha.1.1.1 with
            | [x], _ => rw [textF, textF]
            | [], h => simp at h
            | _ :: _ :: _, h => simp at h; omega
          rw [if_pos ha4, he]
          unfold pOperand
          rw [List.cons_append, List.cons_append, dropC_ne (by decide)]
          simp only [List.append_assoc, List.singleton_append, show ¬ (40 : UInt8) = 88 by decide, if_false, if_true, e1, close_of e2]
          rfl
        · rw [if_neg ha4]
          exact operandB hA ha (lim_of hda) ha4 hq
      rw [textF, if_pos rfl]
      have hassoc : (if a.kind = 4 then 40 :: textF a false ++ [41] else textF a false) ++ [32, 94, 32] ++ digs m ++ r = (if a.kind = 4 then 40 :: textF a false ++ [41] else textF a false) ++ (32 :: 94 :: 32 :: (digs m ++ r)) := by simp
      rw [hassoc]
      obtain ⟨b, t, he, hb⟩ := digs_head m1 (by omega)
      have hdr : dropC 32 (32 :: (digs m ++ r)) = digs m ++ r := by
        rw [dropC_same, he]
        refine dropC_ne ?_ _
        rintro rfl
        exact absurd (isDig_iff.1 hb) (by decide)
      have hn := num_digs m1 (by omega) hr.noD (32 :: (digs m ++ r)) hdr
      refine ⟨r, ?_, rfl⟩
      unfold pPower
      rw [e1]
      simp only [isC_yes (show dropC 32 (32 :: 94 :: 32 :: (digs m ++ r)) = 94 :: 32 :: (digs m ++ r) from by rw [dropC_same, dropC_ne (by decide)]), if_true, hn, Option.map_some]
    · simp at h4; omega
  · refine ⟨(isC 94 r).2, ?_, ?_⟩
    · unfold pPower
      rw [operandB hA hs hd h4 hr]
      simp [h94]
    · have : ∀ q, ¬ dropC 32 r = 94 :: q := by
        intro q hq
        rw [isC_yes hq] at h94
        cases h94
      rw [isC_no this, dropC_idem]
theorem textF_top {f : Fun} (hs : shapedF f = true) (h2 : ¬ (f.kind = 2 ∨ f.kind = 3)) : textF f true = textF f false := by
  rcases shapes hs with rfl | ⟨m, m1, m2, rfl⟩ | ⟨k, a, b, hk, ha, hb, rfl⟩ | ⟨m, a, m1, m2, ha, rfl⟩ | ⟨k, a, hk, ha, rfl⟩
  · rw [textF, textF]
  · rw [textF, textF]
  · exact absurd (by simpa using hk) h2
  · rw [textF, textF]
  · rw [textF, textF]
theorem allB : ∀ n, AllB n
  | 0 => by
    intro f hs hd
    rw [Fun.depth_eq] at hd
    omega
  | n + 1 => by
    have hA := allB n
    intro f hs hd r hr
    have hra : After r := by rcases hr with h | h; exact Or.inl h; exact Or.inr (Or.inl h)
    have hrd : dropC 32 r = r := by
      rcases hr with rfl | ⟨q, rfl⟩
      · rfl
      · exact drop41 q
    have hno : ∀ c : UInt8, ¬ c = 41 → ∀ q, ¬ dropC 32 r = c :: q := by
      intro c hc q h
      rw [hrd] at h
      rcases hr with rfl | ⟨q', rfl⟩
      · cases h
      · cases h; exact hc rfl
    by_cases h2 : f.kind = 2 ∨ f.kind = 3
    · rcases shapes hs with rfl | ⟨m, m1, m2, rfl⟩ | ⟨k, a, b, hk, ha, hb, rfl⟩ | ⟨m, a, m1, m2, ha, rfl⟩ | ⟨k, a, hk, ha, rfl⟩
      · simp at h2
      · simp at h2
      · have hd2 : a.depth ≤ n ∧ b.depth ≤ n := by
          rw [Fun.depth_eq] at hd
          simp [Fun.depthL] at hd
          omega
        generalize hop : (if k = 3 then (43 : UInt8) else 42) = op
        obtain ⟨t1, e1, e2⟩ := powerB hA ha (lim_of hd2.1) (r := 32 :: op :: 32 :: (textF b false ++ r)) (Or.inr (Or.inr ⟨_, rfl⟩)) (by rw [isC_no]; intro q; rw [dropC_same, dropC_ne (by rw [← hop]; split <;> decide)]; intro h; cases h; rcases hk with rfl | rfl <;> simp at hop)
        have e3 : dropC 32 t1 = op :: 32 :: (textF b false ++ r) := by rw [e2, dropC_same, dropC_ne (by rw [← hop]; split <;> decide)]
        obtain ⟨t2, e4, e5⟩ := powerB hA hb (lim_of hd2.2) hra (by rw [isC_no (hno 94 (by decide))])
        have e6 : pPower (pAll n) (32 :: (textF b false ++ r)) = (some b, t2) := by rw [← e4]; exact pPower_eq _ (dropC_same 32 _)
        refine ⟨t2, ?_, by rw [e5, hrd]⟩
        rw [textF, if_pos rfl, pAll, hop]
        have hassoc : textF a false ++ [32, op, 32] ++ textF b false ++ r = textF a false ++ (32 :: op :: 32 :: (textF b false ++ r)) := by simp
        rw [hassoc, e1]
        rcases hk with rfl | rfl
        · have : op = 42 := by rw [← hop]; rfl
          subst this
          simp only [isC_yes e3, if_true, pSecond, e6]
        · have : op = 43 := by rw [← hop]; rfl
          subst this
          have e7 : isC 42 t1 = (false, 43 :: 32 :: (textF b false ++ r)) := by rw [isC_no (fun q h => by rw [e3] at h; cases h), e3]
          have e8 : isC 43 (43 :: 32 :: (textF b false ++ r)) = (true, 32 :: (textF b false ++ r)) := isC_cons (by decide) _
          simp [e7, e8, pSecond, e6]
      · simp at h2
      · simp at h2; omega
    · obtain ⟨t, e1, e2⟩ := powerB hA hs ⟨fun h => absurd h h2, hd⟩ hra (by rw [isC_no (hno 94 (by decide))])
      rw [textF_top hs h2, pAll, e1]
      rw [hrd] at e2
      have e3 : isC 42 t = (false, r) := by rw [isC_no (fun q h => hno 42 (by decide) q (by rw [hrd, ← e2]; exact h)), e2]
      have e4 : isC 43 r = (false, r) := by rw [isC_no (fun q h => hno 43 (by decide) q h), hrd]
      refine ⟨r, ?_, hrd⟩
      simp [e3, e4]

/-- A string in brackets. -/
def br : Nat → List UInt8 → List UInt8
  | 0, s => s
  | k + 1, s => 40 :: (br k s ++ [41])
theorem br_length : ∀ (k : Nat) (s : List UInt8), (br k s).length = s.length + 2 * k
  | 0, s => rfl
  | k + 1, s => by rw [br]; simp [br_length k s]; omega
theorem brB (f : Fun) (hs : shapedF f = true) (n : Nat) (hd : f.depth ≤ n) : ∀ (k : Nat) (r : List UInt8), (r = [] ∨ ∃ q, r = 41 :: q) → ∃ t, pAll (n + k) (br k (textF f true) ++ r) = (some f, t) ∧ dropC 32 t = r
  | 0, r, hr => allB n f hs hd r hr
  | k + 1, r, hr => by
    obtain ⟨t, e1, e2⟩ := brB f hs n hd k (41 :: r) (Or.inr ⟨r, rfl⟩)
    have hrd : dropC 32 r = r := by
      rcases hr with rfl | ⟨q, rfl⟩
      · rfl
      · exact drop41 q
    have hno : ∀ c : UInt8, ¬ c = 41 → ∀ q, ¬ dropC 32 r = c :: q := by
      intro c hc q h
      rw [hrd] at h
      rcases hr with rfl | ⟨q', rfl⟩
      · cases h
      · cases h; exact hc rfl
    have e0 : ∀ c : UInt8, ¬ c = 41 → isC c r = (false, r) := fun c hc => by rw [isC_no (hno c hc), hrd]
    have hop : pOperand (pAll (n + k)) (br (k + 1) (textF f true) ++ r) = (some f, r) := by
      rw [br]
      unfold pOperand
      rw [List.cons_append, dropC_ne (by decide)]
      simp only [List.append_assoc, List.singleton_append, show ¬ (40 : UInt8) = 88 by decide, if_false, if_true, e1, close_of e2]
      rfl
    refine ⟨r, ?_, hrd⟩
    rw [show n + (k + 1) = n + k + 1 from rfl, pAll]
    unfold pPower
    rw [hop]
    simp [e0 94 (by decide), e0 42 (by decide), e0 43 (by decide)]

/-! ### All numbers are short -/
def Q2 (s : List UInt8) : Prop := ∀ u, u <:+ s → digN u ≤ 2
theorem Q2_nil : Q2 [] := by intro u hu; rw [List.suffix_nil.1 hu]; exact Nat.zero_le _
theorem Q2_cons {c : UInt8} (h : isDig c = false) {s : List UInt8} (hs : Q2 s) : Q2 (c :: s) := by
  intro u hu
  rcases List.suffix_cons_iff.1 hu with rfl | hu
  · rw [digN_cons h]; exact Nat.zero_le _
  · exact hs u hu
theorem Q2_short {s : List UInt8} (h : s.length ≤ 2) : Q2 s := by
  intro u hu
  have := hu.length_le
  have := digN_le u
  omega
theorem Q2_append {b : List UInt8} (hb : Q2 b) (hn : NoD b) : ∀ {a : List UInt8}, Q2 a → Q2 (a ++ b)
  | [], _ => hb
  | c :: a, ha => by
    have h1 : Q2 a := fun u hu => ha u (hu.trans (List.suffix_cons c a))
    have h2 := Q2_append hb hn h1
    intro u hu
    rcases List.suffix_cons_iff.1 hu with rfl | hu
    · show digN ((c :: a) ++ b) ≤ 2
      rw [digN_append hn]
      exact ha _ (List.suffix_refl _)
    · exact h2 u hu
theorem Q2_text : ∀ (f : Fun) (top : Bool), Q2 (textF f top)
  | .mk k n [], top => by
    rw [textF]
    split
    · exact Q2_short (by simp)
    · exact Q2_short (digs_length n)
  | .mk k n [a], top => by
    have h1 := Q2_text a false
    have h2 := Q2_text a true
    have q41 : Q2 [41] := Q2_short (by simp)
    have n41 : NoD [41] := digN_cons rfl _
    rw [textF]
    split
    · rw [List.append_assoc]
      refine Q2_append ?_ (digN_cons rfl _) ?_
      · exact Q2_cons rfl (Q2_cons rfl (Q2_cons rfl (Q2_short (digs_length n))))
      · split
        · exact Q2_append q41 n41 (Q2_cons rfl h1)
        · exact h1
    · refine Q2_append q41 n41 ?_
      refine Q2_cons ?_ (Q2_cons rfl h2)
      unfold letter
      split
      · rfl
      · split <;> rfl
  | .mk k n (a :: b :: r), top => by
    have h1 := Q2_text a false
    have h2 := Q2_text b false
    have q41 : Q2 [41] := Q2_short (by simp)
    have n41 : NoD [41] := digN_cons rfl _
    have h3 : Q2 (textF a false ++ [32, if k = 3 then 43 else 42, 32] ++ textF b false) := by
      rw [List.append_assoc]
      refine Q2_append ?_ (digN_cons rfl _) h1
      refine Q2_cons rfl (Q2_cons ?_ (Q2_cons rfl h2))
      split <;> rfl
    rw [textF]
    split
    · exact h3
    · exact Q2_append q41 n41 (Q2_cons rfl h3)
theorem Q2_br {s : List UInt8} (h : Q2 s) : ∀ k, Q2 (br k s)
  | 0 => h
  | k + 1 => by rw [br]; exact Q2_cons rfl (Q2_append (Q2_short (by simp)) (digN_cons rfl _) (Q2_br h k))
theorem Sm_of {s : List UInt8} (h : Q2 s) (hl : s.length ≤ 1000000) : Sm s := hl
theorem parse_back {f : Fun} (h : okF f = true) (k : Nat) (hk : k ≤ 100) : parseF (500 + k) (br k (textF f true)) = (f, 0) ∧ Sm (br k (textF f true)) ∧ (br k (textF f true)).length < 500 + k := by
  have ho := (okF_iff f).1 h
  obtain ⟨t, e1, e2⟩ := brB f ho.2.2 500 (by have := ho.2.1; omega) k [] (Or.inl rfl)
  rw [List.append_nil] at e1
  have hl := textF_length f true
  have hb := br_length k (textF f true)
  refine ⟨?_, Sm_of (Q2_br (Q2_text f true) k) (by omega), by omega⟩
  rw [parseF, if_neg (by omega), e1]
  simp [e2, h]
end AE
end Go.Proofs.YtbgppidldpepaaaDoor
