/- The reference's reader of values: what it computes; it and the parser agree; plain. -/
import Derived.Test.YthoomlenmgdebaaGreatDoorGE
import Derived.Test.YthoomlenmgdebaaGreatDoorGH
set_option linter.unusedVariables false
set_option linter.unusedSimpArgs false
namespace Go.Proofs.YthoomlenmgdebaaGreatDoor
namespace AE
open Go
abbrev RV := Val × RS
def readR (s : RS) : Int × RS := (numR (digR s).1, ((digR s).2.1, (digR s).2.2 || (decide (1 < (digR s).1.length) && decide ((digR s).1.head? = some 48))))
def expR (val : RS → RV) : Nat → List Val → RS → RV
  | 0, a, s => (.mk 0 a [], s)
  | k + 1, a, s => if s.2 then (.mk 0 a [], s) else expR val k (a ++ [(val (if a.length = 0 then s else takeR [44] s)).1]) (val (if a.length = 0 then s else takeR [44] s)).2
def wstepR (w : Bool) (ws : List Int) (s : RS) : List Int × RS := if w then (ws ++ [(readR (takeR [58] s)).1], (readR (takeR [58] s)).2) else (ws, s)
def elemR (val : RS → RV) (w : Bool) : Nat → List Val → List Int → RS → RV
  | 0, a, ws, s => (.mk 0 a ws, s)
  | n + 1, a, ws, s => if s.2 then (.mk 0 a ws, s) else
    if (wstepR w ws (val s).2).2.1.head? = some [44] then elemR val w n (a ++ [(val s).1]) (wstepR w ws (val s).2).1 (takeR [44] (wstepR w ws (val s).2).2)
    else (.mk 0 (a ++ [(val s).1]) (wstepR w ws (val s).2).1, (wstepR w ws (val s).2).2)
def setR (val : RS → RV) (w : Bool) (s : RS) : RV :=
  if (takeR [123] s).1.head? = some [125] then (.mk 0 [] [], takeR [125] (takeR [123] s))
  else ((elemR val w ((takeR [123] s).1.length + 1) [] [] (takeR [123] s)).1, takeR [125] (elemR val w ((takeR [123] s).1.length + 1) [] [] (takeR [123] s)).2)
def sumR (v0 v1 : RS → RV) (s : RS) : RV :=
  if s.1.head? = some [114] then (if (takeR [114] s).2 then (.mk 1 [] [], takeR [114] s) else (.mk 1 [(v1 (takeR [114] s)).1] [], (v1 (takeR [114] s)).2))
  else if (takeR [108] s).2 then (.mk 0 [] [], takeR [108] s) else (.mk 0 [(v0 (takeR [108] s)).1] [], (v0 (takeR [108] s)).2)
def prodR (v0 v1 : RS → RV) (s : RS) : RV := (.mk 0 [(v0 (takeR [40] s)).1, (v1 (takeR [44] (v0 (takeR [40] s)).2)).1] [], takeR [41] (v1 (takeR [44] (v0 (takeR [40] s)).2)).2)
def valR : Nat → Fun → RS → RV
  | 0, _, s => (.mk 0 [] [], (s.1, true))
  | N + 1, f, s =>
    if f.kind = 0 ∨ f.kind = 1 then (.mk (readR s).1 [] [], (readR s).2)
    else if f.kind = 2 then prodR (valR N (f.args.getD 0 fun0)) (valR N (f.args.getD 1 fun0)) s
    else if f.kind = 3 then sumR (valR N (f.args.getD 0 fun0)) (valR N (f.args.getD 1 fun0)) s
    else if f.kind = 4 then ((expR (valR N (f.args.getD 0 fun0)) f.num.toNat [] (takeR [91] s)).1, takeR [93] (expR (valR N (f.args.getD 0 fun0)) f.num.toNat [] (takeR [91] s)).2)
    else setR (valR N (f.args.getD 0 fun0)) (decide (6 ≤ f.kind)) s
theorem readR_suffix (s : RS) : (readR s).2.1 <:+ s.1 := digR_suffix s
theorem wstepR_suffix (w : Bool) (ws : List Int) (s : RS) : (wstepR w ws s).2.1 <:+ s.1 := by
  unfold wstepR
  split
  · exact (readR_suffix _).trans (takeR_suffix _ _)
  · exact List.suffix_refl _
def SufR (r : RS → RV) : Prop := ∀ s, (r s).2.1 <:+ s.1
theorem expR_suffix {val : RS → RV} (hv : SufR val) : ∀ (k : Nat) (a : List Val) (s : RS), (expR val k a s).2.1 <:+ s.1
  | 0, a, s => List.suffix_refl _
  | k + 1, a, s => by
    rw [expR]
    split
    · exact List.suffix_refl _
    · refine (expR_suffix hv k _ _).trans ((hv _).trans ?_)
      split
      · exact List.suffix_refl _
      · exact takeR_suffix _ _
theorem elemR_suffix {val : RS → RV} (hv : SufR val) (w : Bool) : ∀ (n : Nat) (a : List Val) (ws : List Int) (s : RS), (elemR val w n a ws s).2.1 <:+ s.1
  | 0, a, ws, s => List.suffix_refl _
  | n + 1, a, ws, s => by
    rw [elemR]
    have h1 := (wstepR_suffix w ws (val s).2).trans (hv s)
    split
    · exact List.suffix_refl _
    split
    · exact (elemR_suffix hv w n _ _ _).trans ((takeR_suffix _ _).trans h1)
    · exact h1
theorem valR_suffix : ∀ (N : Nat) (f : Fun), SufR (valR N f)
  | 0, f, s => List.suffix_refl _
  | N + 1, f, s => by
    have ih := valR_suffix N
    rw [valR]
    split
    · exact readR_suffix s
    split
    · exact (takeR_suffix _ _).trans ((ih _ _).trans ((takeR_suffix _ _).trans ((ih _ _).trans (takeR_suffix _ _))))
    split
    · unfold sumR
      split
      · split
        · exact takeR_suffix _ _
        · exact (ih _ _).trans (takeR_suffix _ _)
      · split
        · exact takeR_suffix _ _
        · exact (ih _ _).trans (takeR_suffix _ _)
    split
    · exact (takeR_suffix _ _).trans ((expR_suffix (ih _) _ _ _).trans (takeR_suffix _ _))
    · unfold setR
      split
      · exact (takeR_suffix _ _).trans (takeR_suffix _ _)
      · exact (takeR_suffix _ _).trans ((elemR_suffix (ih _) _ _ _ _ _).trans (takeR_suffix _ _))
def StickV (r : RS → RV) : Prop := ∀ s, s.2 = true → (r s).2.2 = true
theorem takeR_stick {t : List UInt8} {s : RS} (h : s.2 = true) : (takeR t s).2 = true := by
  unfold takeR
  split
  · exact h
  · rfl
theorem takeR_bad {t : List UInt8} {s : RS} (h : s.1.head? ≠ some t) : (takeR t s).2 = true := by
  unfold takeR
  rw [if_neg h]
theorem takeR_ok {t : List UInt8} {l : List (List UInt8)} {b : Bool} : takeR t (t :: l, b) = (l, b) := by
  unfold takeR
  rw [if_pos (by rfl)]
  rfl
theorem digR_stick {s : RS} (h : s.2 = true) : (digR s).2.2 = true := by
  unfold digR
  split
  · split
    · exact h
    · rfl
  · rfl
theorem readR_stick {s : RS} (h : s.2 = true) : (readR s).2.2 = true := by
  unfold readR
  simp only [digR_stick h, Bool.true_or]
theorem wstepR_stick {w : Bool} {ws : List Int} {s : RS} (h : s.2 = true) : (wstepR w ws s).2.2 = true := by
  unfold wstepR
  split
  · exact readR_stick (takeR_stick h)
  · exact h
theorem expR_stick {val : RS → RV} : ∀ (k : Nat) (a : List Val) {s : RS}, s.2 = true → expR val k a s = (.mk 0 a [], s)
  | 0, a, s, h => rfl
  | k + 1, a, s, h => by rw [expR, if_pos h]
theorem elemR_stick {val : RS → RV} {w : Bool} : ∀ (n : Nat) (a : List Val) (ws : List Int) {s : RS}, s.2 = true → elemR val w n a ws s = (.mk 0 a ws, s)
  | 0, a, ws, s, h => rfl
  | k + 1, a, ws, s, h => by rw [elemR, if_pos h]
theorem valR_stick : ∀ (N : Nat) (f : Fun), StickV (valR N f)
  | 0, f, s, h => rfl
  | N + 1, f, s, h => by
    have ih := valR_stick N
    rw [valR]
    split
    · exact readR_stick h
    split
    · exact takeR_stick (ih _ _ (takeR_stick (ih _ _ (takeR_stick h))))
    split
    · unfold sumR
      split
      · rw [if_pos (takeR_stick h)]; exact takeR_stick h
      · rw [if_pos (takeR_stick h)]; exact takeR_stick h
    split
    · rw [expR_stick _ _ (takeR_stick h)]
      exact takeR_stick (takeR_stick h)
    · unfold setR
      split
      · exact takeR_stick (takeR_stick h)
      · rw [elemR_stick _ _ _ (takeR_stick h)]
        exact takeR_stick (takeR_stick h)
theorem valR_no {c : UInt8} (hc : c = 93 ∨ c = 125) : ∀ (N : Nat) (f : Fun) (s : RS), s.1.head? = some [c] → (valR N f s).2.2 = true
  | 0, f, s, h => rfl
  | N + 1, f, s, h => by
    have st := valR_stick N
    have hb : ∀ t : List UInt8, ¬ [c] = t → (takeR t s).2 = true := fun t ht => takeR_bad (by rw [h]; intro e; exact ht (Option.some.inj e))
    have hd : isDig c = false := by rcases hc with rfl | rfl <;> rfl
    rw [valR]
    split
    · unfold readR digR
      obtain ⟨l, b⟩ := s
      cases l with
      | nil => rfl
      | cons t q =>
        simp only [List.head?_cons, Option.some.injEq] at h
        subst h
        simp [hd]
    split
    · exact takeR_stick (st _ _ (takeR_stick (st _ _ (hb [40] (by rcases hc with rfl | rfl <;> decide)))))
    split
    · unfold sumR
      rw [if_neg (by rw [h]; rcases hc with rfl | rfl <;> decide)]
      have := hb [108] (by rcases hc with rfl | rfl <;> decide)
      rw [if_pos this]
      exact this
    split
    · have := hb [91] (by rcases hc with rfl | rfl <;> decide)
      rw [expR_stick _ _ this]
      exact takeR_stick this
    · have := hb [123] (by rcases hc with rfl | rfl <;> decide)
      unfold setR
      split
      · exact takeR_stick this
      · rw [elemR_stick _ _ _ this]
        exact takeR_stick this
theorem tok_drop : ∀ s, tok (dropC 32 s) = tok s
  | [] => rfl
  | c :: r => by
    by_cases h : c = 32
    · subst h
      rw [dropC_same, tok_drop r, tok_cons, if_pos rfl]
    · rw [dropC_ne h]
theorem mark_no {c : UInt8} (h : c ∈ marks) : ¬ c = 32 ∧ isDig c = false := by
  simp [marks] at h
  rcases h with rfl | rfl | rfl | rfl | rfl | rfl | rfl | rfl | rfl | rfl <;> exact ⟨by decide, rfl⟩
theorem tok_mark {c : UInt8} (h : c ∈ marks) (r : List UInt8) : tok (c :: r) = (tok r).map ([c] :: ·) := by
  have := mark_no h
  rw [tok_cons, if_neg this.1, this.2, if_pos h]
  simp
theorem isC_tok {c : UInt8} (hc : c ∈ marks) {u : List UInt8} (h : (isC c u).1 = true) : tok u = (tok (isC c u).2).map ([c] :: ·) := by
  unfold isC at h ⊢
  rw [← tok_drop u]
  cases hd : dropC 32 u with
  | nil => rw [hd] at h; cases h
  | cons b r =>
    rw [hd] at h
    simp only at h ⊢
    split at h
    · rename_i hb
      subst hb
      rw [if_pos rfl]
      exact tok_mark hc r
    · cases h
theorem tok_head {c : UInt8} {r : List UInt8} {l : List (List UInt8)} (h32 : ¬ c = 32) (h : tok (c :: r) = some l) : ∃ t q, l = (c :: t) :: q ∧ (isDig c = false → t = []) := by
  rw [tok_cons, if_neg h32] at h
  split at h
  · rename_i hd
    obtain ⟨q, _, rfl⟩ := Option.map_eq_some_iff.1 h
    exact ⟨_, q, rfl, fun hf => by rw [hd] at hf; cases hf⟩
  · split at h
    · obtain ⟨q, _, rfl⟩ := Option.map_eq_some_iff.1 h
      exact ⟨[], q, rfl, fun _ => rfl⟩
    · cases h
theorem dropC_head {c : UInt8} : ∀ {s r : List UInt8} {b : UInt8}, dropC c s = b :: r → ¬ b = c
  | [], r, b, h => by cases h
  | x :: s, r, b, h => by
    by_cases hx : x = c
    · subst hx
      rw [dropC_same] at h
      exact dropC_head h
    · rw [dropC_ne hx] at h
      cases h
      exact hx
theorem isC_tokf {c : UInt8} {u : List UInt8} (h : (isC c u).1 = false) : tok (isC c u).2 = tok u ∧ ∀ l, tok u = some l → l.head? ≠ some [c] := by
  unfold isC at h ⊢
  rw [← tok_drop u]
  cases hd : dropC 32 u with
  | nil =>
    simp only
    refine ⟨trivial, fun l hl => ?_⟩
    rw [tok_nil] at hl
    cases hl
    simp
  | cons b r =>
    rw [hd] at h
    simp only at h ⊢
    split at h
    · cases h
    · rename_i hb
      rw [if_neg hb]
      refine ⟨rfl, fun l hl => ?_⟩
      obtain ⟨t, q, rfl, _⟩ := tok_head (dropC_head hd) hl
      simp
      intro e
      exact absurd e hb
theorem isC_fwd {c : UInt8} (hc : c ∈ marks) {u : List UInt8} (h : (isC c u).1 = true) {l : List (List UInt8)} (hl : tok u = some l) : ∃ l', l = [c] :: l' ∧ tok (isC c u).2 = some l' := by
  rw [isC_tok hc h] at hl
  obtain ⟨l', h1, rfl⟩ := Option.map_eq_some_iff.1 hl
  exact ⟨l', rfl, h1⟩
def Bk (s t : List UInt8) : Prop := ∀ l', tok t = some l' → ∃ l, tok s = some l
theorem Bk.refl (s : List UInt8) : Bk s s := fun l h => ⟨l, h⟩
theorem Bk.trans {s t u : List UInt8} (h : Bk s t) (k : Bk t u) : Bk s u := fun l hl => by
  obtain ⟨q, hq⟩ := k l hl
  exact h q hq
theorem isC_bk {c : UInt8} (hc : c ∈ marks) (u : List UInt8) : Bk u (isC c u).2 := fun l hl => by
  cases h : (isC c u).1
  · rw [(isC_tokf h).1] at hl; exact ⟨l, hl⟩
  · rw [isC_tok hc h, hl]; exact ⟨_, rfl⟩
theorem num_ok {s t : List UInt8} {k : Int} (h : pNum s = (some k, t)) : Bk s t ∧ ∀ l, tok s = some l → ∃ l', tok t = some l' ∧ readR (l, false) = (k, (l', false)) := by
  unfold pNum at h
  split at h
  · cases h
  · rename_i h0
    simp only [Prod.mk.injEq, Option.some.injEq] at h
    have ht := tok_drop s
    cases hd : dropC 32 s with
    | nil => rw [hd] at h0; exact absurd (.inl rfl) h0
    | cons c r =>
      rw [hd] at h h0 ht
      cases hc : isDig c with
      | false => rw [digN_cons hc] at h0; exact absurd (.inl rfl) h0
      | true =>
        have hn := digN_consT hc r
        have hrl := digN_le r
        rw [hn, List.take_succ_cons, List.drop_succ_cons] at h
        rw [tok_cons, if_neg (dropC_head hd), hc, if_pos rfl, h.2] at ht
        refine ⟨fun l hl => by rw [← ht, hl]; exact ⟨_, rfl⟩, fun l hl => ?_⟩
        rw [← ht] at hl
        obtain ⟨q, hq, rfl⟩ := Option.map_eq_some_iff.1 hl
        refine ⟨q, hq, ?_⟩
        have hz : ¬ (0 < digN r ∧ c = 48) := fun e => h0 (.inr ⟨by rw [e.2]; rfl, by omega⟩)
        unfold readR digR
        simp only [hc, if_true, h.1, List.length_cons, List.length_take, List.head?_cons, Option.some.injEq, Bool.false_or]
        have : (decide (1 < min (digN r) r.length + 1) && decide (c = 48)) = false := by
          rw [Bool.and_eq_false_iff, decide_eq_false_iff_not, decide_eq_false_iff_not]
          by_cases e : c = 48
          · left; intro e2; exact hz ⟨by omega, e⟩
          · right; exact e
        rw [this]
theorem num_bad {s t : List UInt8} {l : List (List UInt8)} (h : pNum s = (none, t)) (hl : tok s = some l) : (readR (l, false)).2.2 = true := by
  unfold pNum at h
  split at h
  · rename_i h0
    rw [← tok_drop s] at hl
    cases hd : dropC 32 s with
    | nil =>
      rw [hd, tok_nil] at hl
      cases hl
      rfl
    | cons c r =>
      rw [hd] at hl h0
      cases hc : isDig c with
      | true =>
        rw [digN_consT hc] at h0
        have h1 : headN (c :: r) = 48 ∧ 1 < digN r + 1 := by
          rcases h0 with h | h
          · omega
          · exact h
        have hrl := digN_le r
        have hc48 : c = 48 := by
          have h2 : (c.toNat : Int) = 48 := h1.1
          exact UInt8.toNat_inj.1 (by simp; omega)
        rw [tok_cons, if_neg (dropC_head hd), hc, if_pos rfl] at hl
        obtain ⟨q, _, rfl⟩ := Option.map_eq_some_iff.1 hl
        unfold readR digR
        simp only [hc48, show isDig 48 = true from rfl, if_true, List.length_cons, List.length_take, List.head?_cons, Bool.false_or, decide_true, Bool.and_true, decide_eq_true_eq]
        omega
      | false =>
        obtain ⟨t', q, rfl, _⟩ := tok_head (dropC_head hd) hl
        unfold readR digR
        simp [hc]
  · cases h
def SimA (s : List UInt8) (x : PRV) (r : RS → RV) : Prop :=
  (∀ v t, x = (some v, t) → Bk s t ∧ ∀ l, tok s = some l → ∃ l', tok t = some l' ∧ r (l, false) = (v, (l', false))) ∧
  (∀ t l, x = (none, t) → tok s = some l → (r (l, false)).2.2 = true)
def SimV (p : List UInt8 → PRV) (r : RS → RV) : Prop := ∀ s, Sm s → SimA s (p s) r
section
variable {val : List UInt8 → PRV} {rv : RS → RV} (hsim : SimV val rv) (hsuf : ∀ s, (val s).2 <:+ s) (hlt : ∀ s v t, Sm s → val s = (some v, t) → t.length < s.length) (hst : StickV rv) (hno : ∀ (c : UInt8) (s : RS), (c = 93 ∨ c = 125) → s.1.head? = some [c] → (rv s).2.2 = true) (hrs : SufR rv)
include hsim hsuf hlt hst hno
theorem exp_sim : ∀ (n : Nat) (a : List Val) (s : List UInt8), Sm s → s.length < n →
    (∀ v t, listV val 93 false n a [] s = (some v, t) → Bk s t ∧ a.length ≤ v.args.length ∧ v.num = 0 ∧ v.ws = [] ∧ ∀ l, tok s = some l → ∃ l', tok t = some l' ∧ ∀ k, (k + a.length = v.args.length → expR rv k a (l, false) = (v, ([93] :: l', false))) ∧ (k + a.length ≠ v.args.length → (takeR [93] (expR rv k a (l, false)).2).2 = true)) ∧
    (∀ t l, listV val 93 false n a [] s = (none, t) → tok s = some l → ∀ k, (takeR [93] (expR rv k a (l, false)).2).2 = true)
  | 0, a, s, hs, hn => by omega
  | n + 1, a, s, hs, hn => by
    have m93 : (93 : UInt8) ∈ marks := by decide
    have m44 : (44 : UInt8) ∈ marks := by decide
    have h1s := hs.suffix (isC_suffix 93 s)
    have h1l := (isC_suffix 93 s).length_le
    rw [listV]
    cases h1 : (isC 93 s).1 with
    | true =>
      simp only [if_true]
      refine ⟨fun v t h => ?_, fun t l h => by simp at h⟩
      simp only [Prod.mk.injEq, Option.some.injEq] at h
      obtain ⟨rfl, rfl⟩ := h
      refine ⟨isC_bk m93 s, Nat.le_refl _, rfl, rfl, fun l hl => ?_⟩
      obtain ⟨l', rfl, h2⟩ := isC_fwd m93 h1 hl
      refine ⟨l', h2, fun k => ⟨fun hk => ?_, fun hk => ?_⟩⟩
      · simp only [Val.args_mk] at hk
        obtain rfl : k = 0 := by omega
        rfl
      · simp only [Val.args_mk] at hk
        obtain ⟨k, rfl⟩ : ∃ j, k = j + 1 := ⟨k - 1, by omega⟩
        rw [expR, if_neg (by simp)]
        have hb : (rv (if a.length = 0 then ([93] :: l', false) else takeR [44] ([93] :: l', false))).2.2 = true := by
          split
          · exact hno 93 _ (.inl rfl) rfl
          · exact hst _ (takeR_bad (by simp))
        rw [expR_stick _ _ hb]
        exact takeR_stick hb
    | false =>
    simp only [Bool.false_eq_true, if_false]
    obtain ⟨t1, q1⟩ := isC_tokf h1
    have bk1 : Bk s (isC 93 s).2 := isC_bk m93 s
    have key0 : ∀ l, tok s = some l → (takeR [93] (expR rv 0 a (l, false)).2).2 = true := fun l hl => takeR_bad (q1 l hl)
    by_cases h2 : a.length ≠ 0 ∧ (isC 44 (isC 93 s).2).1 = false
    · rw [if_pos h2]
      refine ⟨fun v t h => by simp at h, fun t l h hl k => ?_⟩
      cases k with
      | zero => exact key0 l hl
      | succ k =>
        obtain ⟨_, q2⟩ := isC_tokf h2.2
        have hb : (rv (if a.length = 0 then (l, false) else takeR [44] (l, false))).2.2 = true := by
          rw [if_neg h2.1]
          exact hst _ (takeR_bad (q2 l (by rw [t1]; exact hl)))
        rw [expR, if_neg (by simp), expR_stick _ _ hb]
        exact takeR_stick hb
    rw [if_neg h2]
    have hu : ∃ u, u = (if a.length = 0 then (isC 93 s).2 else (isC 44 (isC 93 s).2).2) ∧ Sm u ∧ u.length ≤ s.length ∧ Bk s u ∧ ∀ l, tok s = some l → ∃ lu, tok u = some lu ∧ (if a.length = 0 then ((l, false) : RS) else takeR [44] (l, false)) = (lu, false) := by
      by_cases ha : a.length = 0
      · refine ⟨_, rfl, ?_⟩
        rw [if_pos ha]
        exact ⟨h1s, h1l, bk1, fun l hl => ⟨l, by rw [t1]; exact hl, by rw [if_pos ha]⟩⟩
      · have h44 : (isC 44 (isC 93 s).2).1 = true := by
          cases h : (isC 44 (isC 93 s).2).1
          · exact absurd ⟨ha, h⟩ h2
          · rfl
        refine ⟨_, rfl, ?_⟩
        rw [if_neg ha]
        refine ⟨h1s.suffix (isC_suffix 44 _), by have := (isC_suffix 44 (isC 93 s).2).length_le; omega, bk1.trans (isC_bk m44 _), fun l hl => ?_⟩
        rw [← t1] at hl
        obtain ⟨l', rfl, h3⟩ := isC_fwd m44 h44 hl
        exact ⟨l', h3, by rw [if_neg ha, takeR_ok]⟩
    obtain ⟨u, hue, hus, hul, hub, huf⟩ := hu
    rw [← hue]
    obtain ⟨p1, p2⟩ := hsim u hus
    have hvs := hsuf u
    cases hv : val u with
    | mk o q =>
    rw [hv] at p1 p2 hvs
    cases o with
    | none =>
      simp only [bindV]
      refine ⟨fun v t h => by simp at h, fun t l h hl k => ?_⟩
      cases k with
      | zero => exact key0 l hl
      | succ k =>
        obtain ⟨lu, h3, h4⟩ := huf l hl
        have hb := p2 q lu rfl h3
        rw [← h4] at hb
        rw [expR, if_neg (by simp), expR_stick _ _ hb]
        exact takeR_stick hb
    | some x =>
      simp only [bindV]
      obtain ⟨hbq, hq⟩ := p1 x q rfl
      have hql := hlt u x q hus hv
      obtain ⟨i1, i2⟩ := exp_sim n (a ++ [x]) q (hus.suffix hvs) (by omega)
      have hstep : ∀ l, tok s = some l → ∃ lq, tok q = some lq ∧ ∀ k, expR rv (k + 1) a (l, false) = expR rv k (a ++ [x]) (lq, false) := fun l hl => by
        obtain ⟨lu, h3, h4⟩ := huf l hl
        obtain ⟨lq, h5, h6⟩ := hq lu h3
        refine ⟨lq, h5, fun k => ?_⟩
        rw [expR, if_neg (by simp), h4, h6]
      refine ⟨fun v t h => ?_, fun t l h hl k => ?_⟩
      · obtain ⟨j1, j2, j3, j4, j5⟩ := i1 v t h
        simp only [List.length_append, List.length_cons, List.length_nil] at j2
        refine ⟨(hub.trans hbq).trans j1, by omega, j3, j4, fun l hl => ?_⟩
        obtain ⟨lq, h5, h6⟩ := hstep l hl
        obtain ⟨l', h7, h8⟩ := j5 lq h5
        refine ⟨l', h7, fun k => ?_⟩
        cases k with
        | zero => exact ⟨fun hk => by omega, fun _ => key0 l hl⟩
        | succ k =>
          rw [h6]
          have := h8 k
          simp only [List.length_append, List.length_cons, List.length_nil] at this
          exact ⟨fun hk => this.1 (by omega), fun hk => this.2 (by omega)⟩
      · cases k with
        | zero => exact key0 l hl
        | succ k =>
          obtain ⟨lq, h5, h6⟩ := hstep l hl
          rw [h6]
          exact i2 t lq h h5 k
def elemV (val : List UInt8 → PRV) (w : Bool) (n : Nat) (a : List Val) (ws : List Int) (s : List UInt8) : PRV := bindV (val s) fun x u =>
  if w then takeC 58 u fun t => bindN (pNum t) fun k v => listV val 125 w n (a ++ [x]) (ws ++ [k]) v
  else listV val 125 w n (a ++ [x]) ws u
omit hst hno in
include hrs in
theorem elem_sim (w : Bool) : ∀ (n : Nat) (a : List Val) (ws : List Int) (s : List UInt8), Sm s → s.length ≤ n → ∀ M : Nat,
    (∀ v t, elemV val w n a ws s = (some v, t) → Bk s t ∧ ∀ l, tok s = some l → l.length < M → ∃ l', tok t = some l' ∧ elemR rv w M a ws (l, false) = (v, ([125] :: l', false))) ∧
    (∀ t l, elemV val w n a ws s = (none, t) → tok s = some l → l.length < M → (takeR [125] (elemR rv w M a ws (l, false)).2).2 = true) := by
  intro n
  induction n with
  | zero =>
    intro a ws s hs hn M
    have hv : ∃ t, val s = (none, t) := by
      cases hv : val s with
      | mk o q =>
      cases o with
      | none => exact ⟨q, rfl⟩
      | some x => have := hlt s x q hs hv; omega
    obtain ⟨t, hv⟩ := hv
    refine ⟨fun v t' h => by rw [elemV, hv] at h; simp [bindV] at h, fun t' l h hl hM => ?_⟩
    obtain ⟨M, rfl⟩ : ∃ j, M = j + 1 := ⟨M - 1, by omega⟩
    have hb := (hsim s hs).2 t l hv hl
    have hb2 := wstepR_stick (w := w) (ws := ws) hb
    rw [elemR, if_neg (by simp)]
    split
    · rw [elemR_stick _ _ _ (takeR_stick hb2)]
      exact takeR_stick (takeR_stick hb2)
    · exact takeR_stick hb2
  | succ n ih =>
    intro a ws s hs hn M
    have m125 : (125 : UInt8) ∈ marks := by decide
    have m44 : (44 : UInt8) ∈ marks := by decide
    have m58 : (58 : UInt8) ∈ marks := by decide
    obtain ⟨p1, p2⟩ := hsim s hs
    have hvs := hsuf s
    have hbad : ∀ l : List (List UInt8), l.length < M → (wstepR w ws (rv (l, false)).2).2.2 = true → (takeR [125] (elemR rv w M a ws (l, false)).2).2 = true := fun l hM hb2 => by
      obtain ⟨M, rfl⟩ : ∃ j, M = j + 1 := ⟨M - 1, by omega⟩
      rw [elemR, if_neg (by simp)]
      split
      · rw [elemR_stick _ _ _ (takeR_stick hb2)]
        exact takeR_stick (takeR_stick hb2)
      · exact takeR_stick hb2
    unfold elemV
    cases hv : val s with
    | mk o u =>
    rw [hv] at p1 p2 hvs
    cases o with
    | none =>
      simp only [bindV]
      exact ⟨fun v t h => by simp at h, fun t l h hl hM => hbad l hM (wstepR_stick (p2 u l rfl hl))⟩
    | some x =>
    obtain ⟨hbu, hfu⟩ := p1 x u rfl
    have hul := hlt s x u hs hv
    have hus := hs.suffix hvs
    simp only [bindV]
    have tail : ∀ (ws2 : List Int) (q : List UInt8), Sm q → q.length ≤ u.length → Bk u q → (∀ lu, tok u = some lu → ∀ b, rv (b, false) = (x, (lu, false)) → ∃ lq, tok q = some lq ∧ wstepR w ws (rv (b, false)).2 = (ws2, (lq, false))) →
        (∀ v t, listV val 125 w (n + 1) (a ++ [x]) ws2 q = (some v, t) → Bk s t ∧ ∀ l, tok s = some l → l.length < M → ∃ l', tok t = some l' ∧ elemR rv w M a ws (l, false) = (v, ([125] :: l', false))) ∧
        (∀ t l, listV val 125 w (n + 1) (a ++ [x]) ws2 q = (none, t) → tok s = some l → l.length < M → (takeR [125] (elemR rv w M a ws (l, false)).2).2 = true) := by
      intro ws2 q hq hql hbq hfq
      have hsq : Bk s q := hbu.trans hbq
      have fwd : ∀ l, tok s = some l → ∃ lq, tok q = some lq ∧ wstepR w ws (rv (l, false)).2 = (ws2, (lq, false)) ∧ (rv (l, false)).1 = x ∧ lq.length ≤ l.length := fun l hl => by
        obtain ⟨lu, h3, h4⟩ := hfu l hl
        obtain ⟨lq, h5, h6⟩ := hfq lu h3 l h4
        have h7 := (wstepR_suffix w ws (rv (l, false)).2).length_le
        have h8 := (hrs (l, false)).length_le
        rw [h6] at h7
        exact ⟨lq, h5, h6, by rw [h4], by simp only at h7 h8; omega⟩
      have h1s := hq.suffix (isC_suffix 125 q)
      have h1l := (isC_suffix 125 q).length_le
      rw [listV]
      cases h1 : (isC 125 q).1 with
      | true =>
        simp only [if_true]
        refine ⟨fun v t h => ?_, fun t l h => by simp at h⟩
        simp only [Prod.mk.injEq, Option.some.injEq] at h
        obtain ⟨rfl, rfl⟩ := h
        refine ⟨hsq.trans (isC_bk m125 q), fun l hl hM => ?_⟩
        obtain ⟨M, rfl⟩ : ∃ j, M = j + 1 := ⟨M - 1, by omega⟩
        obtain ⟨lq, h5, h6, h7, _⟩ := fwd l hl
        obtain ⟨l', rfl, h8⟩ := isC_fwd m125 h1 h5
        refine ⟨l', h8, ?_⟩
        rw [elemR, if_neg (by simp), h6, h7]
        rw [if_neg (by simp)]
      | false =>
      simp only [Bool.false_eq_true, if_false]
      obtain ⟨t1, q1⟩ := isC_tokf h1
      have hal : ¬ (a ++ [x]).length = 0 := by simp
      cases h2 : (isC 44 (isC 125 q).2).1 with
      | false =>
        rw [if_pos ⟨hal, rfl⟩]
        refine ⟨fun v t h => by simp at h, fun t l h hl hM => ?_⟩
        obtain ⟨M, rfl⟩ : ∃ j, M = j + 1 := ⟨M - 1, by omega⟩
        obtain ⟨lq, h5, h6, h7, _⟩ := fwd l hl
        obtain ⟨_, q2⟩ := isC_tokf h2
        rw [elemR, if_neg (by simp), h6, if_neg (q2 lq (by rw [t1]; exact h5))]
        exact takeR_bad (q1 lq h5)
      | true =>
        rw [if_neg (fun h => by cases h.2), if_neg hal]
        have hz : Sm (isC 44 (isC 125 q).2).2 := h1s.suffix (isC_suffix 44 _)
        have hzl := (isC_suffix 44 (isC 125 q).2).length_le
        obtain ⟨M', hM'⟩ : ∃ j, M = j + 1 ∨ M = 0 := ⟨M - 1, by omega⟩
        obtain ⟨i1, i2⟩ := ih (a ++ [x]) ws2 (isC 44 (isC 125 q).2).2 hz (by omega) M'
        have hstep : ∀ l, tok s = some l → l.length < M → ∃ lz, tok (isC 44 (isC 125 q).2).2 = some lz ∧ lz.length < M' ∧ elemR rv w M a ws (l, false) = elemR rv w M' (a ++ [x]) ws2 (lz, false) := fun l hl hM => by
          obtain rfl : M = M' + 1 := by omega
          obtain ⟨lq, h5, h6, h7, h9⟩ := fwd l hl
          rw [← t1] at h5
          obtain ⟨lz, rfl, h8⟩ := isC_fwd m44 h2 h5
          simp only [List.length_cons] at h9
          refine ⟨lz, h8, by omega, ?_⟩
          rw [elemR, if_neg (by simp), h6, h7, if_pos (by simp), takeR_ok]
        refine ⟨fun v t h => ?_, fun t l h hl hM => ?_⟩
        · obtain ⟨j1, j2⟩ := i1 v t h
          refine ⟨((hsq.trans (isC_bk m125 q)).trans (isC_bk m44 _)).trans j1, fun l hl hM => ?_⟩
          obtain ⟨lz, h3, h4, h5⟩ := hstep l hl hM
          rw [h5]
          exact j2 lz h3 h4
        · obtain ⟨lz, h3, h4, h5⟩ := hstep l hl hM
          rw [h5]
          exact i2 t lz h h3 h4
    cases w with
    | false =>
      simp only [Bool.false_eq_true, if_false]
      refine tail ws u hus (Nat.le_refl _) (Bk.refl u) fun lu h3 b h4 => ⟨lu, h3, ?_⟩
      rw [h4]
      rfl
    | true =>
      simp only [if_true]
      unfold takeC
      cases h5 : (isC 58 u).1 with
      | false =>
        simp only [Bool.false_eq_true, if_false]
        refine ⟨fun v t h => by simp at h, fun t l h hl hM => hbad l hM ?_⟩
        obtain ⟨lu, h3, h4⟩ := hfu l hl
        rw [h4]
        obtain ⟨_, q2⟩ := isC_tokf h5
        exact readR_stick (takeR_bad (q2 lu h3))
      | true =>
      simp only [if_true]
      have hz := hus.suffix (isC_suffix 58 u)
      have hzl := (isC_suffix 58 u).length_le
      cases hp : pNum (isC 58 u).2 with
      | mk o2 q =>
      have hql := (pNum_suffix (isC 58 u).2).length_le
      have hqs := hz.suffix (pNum_suffix (isC 58 u).2)
      rw [hp] at hql hqs
      simp only at hql hqs
      cases o2 with
      | none =>
        simp only [bindN]
        refine ⟨fun v t h => by simp at h, fun t l h hl hM => hbad l hM ?_⟩
        obtain ⟨lu, h3, h4⟩ := hfu l hl
        obtain ⟨lz, rfl, h6⟩ := isC_fwd m58 h5 h3
        rw [h4]
        unfold wstepR
        simp only [if_true, takeR_ok]
        exact num_bad hp h6
      | some k =>
        simp only [bindN]
        obtain ⟨n1, n2⟩ := num_ok hp
        refine tail (ws ++ [k]) q hqs (by omega) ((isC_bk m58 u).trans n1) fun lu h3 b h4 => ?_
        obtain ⟨lz, rfl, h6⟩ := isC_fwd m58 h5 h3
        obtain ⟨lq, h7, h8⟩ := n2 lz h6
        refine ⟨lq, h7, ?_⟩
        rw [h4]
        unfold wstepR
        simp only [if_true, takeR_ok, h8]
end
theorem ret_sim (s : List UInt8) (v : Val) : SimA s (some v, s) (fun st => (v, st)) :=
  ⟨fun v' t h => by
    simp only [Prod.mk.injEq, Option.some.injEq] at h
    obtain ⟨rfl, rfl⟩ := h
    exact ⟨Bk.refl s, fun l hl => ⟨l, hl, rfl⟩⟩, fun t l h => by simp at h⟩
theorem take_sim {c : UInt8} (hc : c ∈ marks) {s : List UInt8} {k : List UInt8 → PRV} {r' : RS → RV} (hst : StickV r') (hk : SimA (isC c s).2 (k (isC c s).2) r') : SimA s (takeC c s k) (fun st => r' (takeR [c] st)) := by
  unfold takeC
  cases h : (isC c s).1 with
  | false =>
    simp only [Bool.false_eq_true, if_false]
    exact ⟨fun v t h => by simp at h, fun t l h2 hl => hst _ (takeR_bad ((isC_tokf h).2 l hl))⟩
  | true =>
    simp only [if_true]
    refine ⟨fun v t h2 => ?_, fun t l h2 hl => ?_⟩
    · obtain ⟨a, b⟩ := hk.1 v t h2
      refine ⟨(isC_bk hc s).trans a, fun l hl => ?_⟩
      obtain ⟨l', rfl, h3⟩ := isC_fwd hc h hl
      dsimp only
      rw [takeR_ok]
      exact b l' h3
    · obtain ⟨l', rfl, h3⟩ := isC_fwd hc h hl
      simp only [takeR_ok]
      exact hk.2 t l' h2 h3
theorem bind_sim {s : List UInt8} {x : PRV} {k : Val → List UInt8 → PRV} {r : RS → RV} {r' : Val → RS → RV} (hst : ∀ v, StickV (r' v)) (hx : SimA s x r) (hk : ∀ v t, x = (some v, t) → SimA t (k v t) (r' v)) : SimA s (bindV x k) (fun st => r' (r st).1 (r st).2) := by
  obtain ⟨o, u⟩ := x
  cases o with
  | none => exact ⟨fun v t h => by simp [bindV] at h, fun t l h hl => hst _ _ (hx.2 u l rfl hl)⟩
  | some y =>
    obtain ⟨a, b⟩ := hx.1 y u rfl
    obtain ⟨c, d⟩ := hk y u rfl
    refine ⟨fun v t h => ?_, fun t l h hl => ?_⟩
    · obtain ⟨e, g⟩ := c v t h
      refine ⟨a.trans e, fun l hl => ?_⟩
      obtain ⟨l', h1, h2⟩ := b l hl
      dsimp only
      rw [h2]
      exact g l' h1
    · obtain ⟨l', h1, h2⟩ := b l hl
      simp only [h2]
      exact d t l' h h1
theorem sum_sim {p0 p1 : List UInt8 → PRV} {r0 r1 : RS → RV} (h0 : SimV p0 r0) (h1 : SimV p1 r1) {s : List UInt8} (hs : Sm s) :
    SimA s (if (isC 108 s).1 then bindV (p0 (isC 108 s).2) fun x t => (some (.mk 0 [x] []), t) else takeC 114 (isC 108 s).2 fun s => bindV (p1 s) fun x t => (some (.mk 1 [x] []), t)) (sumR r0 r1) := by
  have m108 : (108 : UInt8) ∈ marks := by decide
  have m114 : (114 : UInt8) ∈ marks := by decide
  have s1 := hs.suffix (isC_suffix 108 s)
  have one : ∀ (n : Int) (p : List UInt8 → PRV) (r : RS → RV) (u : List UInt8), SimV p r → Sm u → SimA u (bindV (p u) fun x t => (some (.mk n [x] []), t)) (fun st => (.mk n [(r st).1] [], (r st).2)) := fun n p r u h hu =>
    bind_sim (r := r) (r' := fun v st => (.mk n [v] [], st)) (fun v st h => h) (h u hu) fun v t _ => ret_sim t _
  cases h : (isC 108 s).1 with
  | true =>
    simp only [if_true]
    obtain ⟨a, b⟩ := one 0 p0 r0 _ h0 s1
    have hr : ∀ l', sumR r0 r1 ([108] :: l', false) = (.mk 0 [(r0 (l', false)).1] [], (r0 (l', false)).2) := fun l' => by
      unfold sumR
      rw [if_neg (by simp), takeR_ok, if_neg (by simp)]
    refine ⟨fun v t h2 => ?_, fun t l h2 hl => ?_⟩
    · obtain ⟨c, d⟩ := a v t h2
      refine ⟨(isC_bk m108 s).trans c, fun l hl => ?_⟩
      obtain ⟨l', rfl, h3⟩ := isC_fwd m108 h hl
      rw [hr]
      exact d l' h3
    · obtain ⟨l', rfl, h3⟩ := isC_fwd m108 h hl
      rw [hr]
      exact b t l' h2 h3
  | false =>
    simp only [Bool.false_eq_true, if_false]
    obtain ⟨t1, q1⟩ := isC_tokf h
    unfold takeC
    cases h2 : (isC 114 (isC 108 s).2).1 with
    | true =>
      simp only [if_true]
      obtain ⟨a, b⟩ := one 1 p1 r1 _ h1 (s1.suffix (isC_suffix 114 _))
      have hr : ∀ l', sumR r0 r1 ([114] :: l', false) = (.mk 1 [(r1 (l', false)).1] [], (r1 (l', false)).2) := fun l' => by
        unfold sumR
        rw [if_pos (by simp), takeR_ok, if_neg (by simp)]
      refine ⟨fun v t h3 => ?_, fun t l h3 hl => ?_⟩
      · obtain ⟨c, d⟩ := a v t h3
        refine ⟨((isC_bk m108 s).trans (isC_bk m114 _)).trans c, fun l hl => ?_⟩
        rw [← t1] at hl
        obtain ⟨l', rfl, h4⟩ := isC_fwd m114 h2 hl
        rw [hr]
        exact d l' h4
      · rw [← t1] at hl
        obtain ⟨l', rfl, h4⟩ := isC_fwd m114 h2 hl
        rw [hr]
        exact b t l' h3 h4
    | false =>
      simp only [Bool.false_eq_true, if_false]
      refine ⟨fun v t h => by simp at h, fun t l h3 hl => ?_⟩
      have q2 := (isC_tokf h2).2 l (by rw [t1]; exact hl)
      have hb : (takeR [108] (l, false)).2 = true := takeR_bad (q1 l hl)
      unfold sumR
      rw [if_neg q2, if_pos hb]
      exact hb
theorem getD_shaped {f : Fun} (hf : shapedF f = true) (i : Nat) : shapedF (f.args.getD i fun0) = true := by
  by_cases h : i < f.args.length
  · rw [List.getD_eq_getElem?_getD, List.getElem?_eq_getElem h]
    exact shaped_arg hf h
  · rw [List.getD_eq_getElem?_getD, List.getElem?_eq_none (by omega)]
    rfl
theorem pV_sim : ∀ (N : Nat) (f : Fun), shapedF f = true → SimV (pV N f) (valR N f)
  | 0, f, hf => fun s hs => ⟨fun v t h => by rw [pV] at h; simp at h, fun t l h hl => rfl⟩
  | N + 1, f, hf => fun s hs => by
    have ih := fun i => pV_sim N (f.args.getD i fun0) (getD_shaped hf i)
    have st := fun i => valR_stick N (f.args.getD i fun0)
    have hnn : f.kind = 4 → 0 ≤ f.num := fun h => by have := shaped_num hf; omega
    have hR : valR (N + 1) f = fun s => if f.kind = 0 ∨ f.kind = 1 then (.mk (readR s).1 [] [], (readR s).2)
      else if f.kind = 2 then prodR (valR N (f.args.getD 0 fun0)) (valR N (f.args.getD 1 fun0)) s
      else if f.kind = 3 then sumR (valR N (f.args.getD 0 fun0)) (valR N (f.args.getD 1 fun0)) s
      else if f.kind = 4 then ((expR (valR N (f.args.getD 0 fun0)) f.num.toNat [] (takeR [91] s)).1, takeR [93] (expR (valR N (f.args.getD 0 fun0)) f.num.toNat [] (takeR [91] s)).2)
      else setR (valR N (f.args.getD 0 fun0)) (decide (6 ≤ f.kind)) s := by funext s; rw [valR]
    rw [pV, hR]
    generalize hp0 : pV N (f.args.getD 0 fun0) = p0
    generalize hp1 : pV N (f.args.getD 1 fun0) = p1
    generalize hr0 : valR N (f.args.getD 0 fun0) = r0
    generalize hr1 : valR N (f.args.getD 1 fun0) = r1
    have i0 := ih 0
    have i1 := ih 1
    have t0 := st 0
    have t1 := st 1
    rw [hp0, hr0] at i0
    rw [hp1, hr1] at i1
    rw [hr0] at t0
    rw [hr1] at t1
    have suf0 : ∀ s, (p0 s).2 <:+ s := by rw [← hp0]; exact pV_suffix N _
    have suf1 : ∀ s, (p1 s).2 <:+ s := by rw [← hp1]; exact pV_suffix N _
    have lt0 : ∀ s v t, Sm s → p0 s = (some v, t) → t.length < s.length := by rw [← hp0]; exact pV_lt N _
    have no0 : ∀ (c : UInt8) (s : RS), (c = 93 ∨ c = 125) → s.1.head? = some [c] → (r0 s).2.2 = true := by rw [← hr0]; exact fun c s hc h => valR_no hc N _ s h
    have rs0 : SufR r0 := by rw [← hr0]; exact valR_suffix N _
    by_cases h01 : f.kind = 0 ∨ f.kind = 1
    · simp only [if_pos h01]
      cases hp : pNum s with
      | mk o q =>
      cases o with
      | none => exact ⟨fun v t h => by simp [bindN] at h, fun t l h hl => num_bad hp hl⟩
      | some k =>
        obtain ⟨a, b⟩ := num_ok hp
        refine ⟨fun v t h => ?_, fun t l h => by simp [bindN] at h⟩
        simp only [bindN, Prod.mk.injEq, Option.some.injEq] at h
        obtain ⟨rfl, rfl⟩ := h
        refine ⟨a, fun l hl => ?_⟩
        obtain ⟨l', h1, h2⟩ := b l hl
        exact ⟨l', h1, by dsimp only; rw [h2]⟩
    simp only [if_neg h01]
    by_cases h2 : f.kind = 2
    · simp only [if_pos h2]
      have u1 := hs.suffix (isC_suffix 40 s)
      refine take_sim (r' := fun st => (.mk 0 [(r0 st).1, (r1 (takeR [44] (r0 st).2)).1] [], takeR [41] (r1 (takeR [44] (r0 st).2)).2)) (by decide) (fun st h => takeR_stick (t1 _ (takeR_stick (t0 _ h)))) ?_
      refine bind_sim (r := r0) (r' := fun x st => (.mk 0 [x, (r1 (takeR [44] st)).1] [], takeR [41] (r1 (takeR [44] st)).2)) (fun x st h => takeR_stick (t1 _ (takeR_stick h))) (i0 _ u1) fun x u hx => ?_
      have u2 : Sm u := u1.suffix (by have := suf0 (isC 40 s).2; rw [hx] at this; exact this)
      refine take_sim (r' := fun st => (.mk 0 [x, (r1 st).1] [], takeR [41] (r1 st).2)) (by decide) (fun st h => takeR_stick (t1 _ h)) ?_
      refine bind_sim (r := r1) (r' := fun y st => (.mk 0 [x, y] [], takeR [41] st)) (fun y st h => takeR_stick h) (i1 _ (u2.suffix (isC_suffix 44 u))) fun y q hy => ?_
      exact take_sim (r' := fun st => (.mk 0 [x, y] [], st)) (by decide) (fun st h => h) (ret_sim _ _)
    simp only [if_neg h2]
    by_cases h3 : f.kind = 3
    · simp only [if_pos h3]
      exact sum_sim i0 i1 hs
    simp only [if_neg h3]
    by_cases h4 : f.kind = 4
    · simp only [if_pos h4]
      have hn := hnn h4
      refine take_sim (r' := fun st => ((expR r0 f.num.toNat [] st).1, takeR [93] (expR r0 f.num.toNat [] st).2)) (by decide) (fun st h => by simp only; rw [expR_stick _ _ h]; exact takeR_stick h) ?_
      obtain ⟨a, b⟩ := exp_sim i0 suf0 lt0 t0 no0 ((isC 91 s).2.length + 1) [] (isC 91 s).2 (hs.suffix (isC_suffix 91 s)) (by omega)
      cases hl : listV p0 93 false ((isC 91 s).2.length + 1) [] [] (isC 91 s).2 with
      | mk o q =>
      cases o with
      | none => exact ⟨fun v t h => by simp [bindV] at h, fun t l h hk => b q l hl hk _⟩
      | some v =>
        obtain ⟨c1, c2, c3, c4, c5⟩ := a v q hl
        simp only [bindV]
        by_cases hv : (v.args.length : Int) = f.num
        · rw [if_pos hv]
          refine ⟨fun v' t h => ?_, fun t l h => by simp at h⟩
          simp only [Prod.mk.injEq, Option.some.injEq] at h
          obtain ⟨rfl, rfl⟩ := h
          refine ⟨c1, fun l hk => ?_⟩
          obtain ⟨l', h5, h6⟩ := c5 l hk
          refine ⟨l', h5, ?_⟩
          dsimp only
          rw [(h6 f.num.toNat).1 (by simp; omega), takeR_ok]
        · rw [if_neg hv]
          refine ⟨fun v' t h => by simp at h, fun t l h hk => ?_⟩
          obtain ⟨l', h5, h6⟩ := c5 l hk
          exact (h6 f.num.toNat).2 (by simp; omega)
    simp only [if_neg h4]
    generalize decide (6 ≤ f.kind) = w
    refine take_sim (r' := fun st => if st.1.head? = some [125] then (.mk 0 [] [], takeR [125] st) else ((elemR r0 w (st.1.length + 1) [] [] st).1, takeR [125] (elemR r0 w (st.1.length + 1) [] [] st).2)) (by decide) (fun st h => ?_) ?_
    · simp only
      split
      · exact takeR_stick h
      · rw [elemR_stick _ _ _ h]; exact takeR_stick h
    · have u1 := hs.suffix (isC_suffix 123 s)
      generalize (isC 123 s).2 = z at u1
      have m125 : (125 : UInt8) ∈ marks := by decide
      rw [listV]
      cases h5 : (isC 125 z).1 with
      | true =>
        simp only [if_true]
        refine ⟨fun v t h => ?_, fun t l h => by simp at h⟩
        simp only [Prod.mk.injEq, Option.some.injEq] at h
        obtain ⟨rfl, rfl⟩ := h
        refine ⟨isC_bk m125 z, fun l hl => ?_⟩
        obtain ⟨l', rfl, h6⟩ := isC_fwd m125 h5 hl
        exact ⟨l', h6, by dsimp only; rw [if_pos (by simp), takeR_ok]⟩
      | false =>
        obtain ⟨q0, q1⟩ := isC_tokf h5
        have zl := (isC_suffix 125 z).length_le
        have es := fun M => elem_sim i0 suf0 lt0 rs0 w z.length [] [] (isC 125 z).2 (u1.suffix (isC_suffix 125 z)) zl M
        unfold elemV at es
        simp only [Bool.false_eq_true, if_false, List.length_nil, ne_eq, not_true_eq_false, false_and, if_true]
        refine ⟨fun v t h => ⟨(isC_bk m125 z).trans ((es 0).1 v t h).1, fun l hl => ?_⟩, fun t l h hl => ?_⟩
        · obtain ⟨l', h6, h7⟩ := ((es (l.length + 1)).1 v t h).2 l (by rw [q0]; exact hl) (by omega)
          refine ⟨l', h6, ?_⟩
          dsimp only
          rw [if_neg (q1 l hl), h7, takeR_ok]
        · have := (es (l.length + 1)).2 t l h (by rw [q0]; exact hl) (by omega)
          dsimp only
          rw [if_neg (q1 l hl)]
          exact this
def readT (f : Fun) (s : List UInt8) : Val × Bool := match tok s with
  | none => (.mk 0 [] [], false)
  | some l => ((valR f.nodes f (l, false)).1, !(valR f.nodes f (l, false)).2.2 && decide ((valR f.nodes f (l, false)).2.1.length = 0))
theorem read_same {f : Fun} (hf : shapedF f = true) {s : List UInt8} (hs : Sm s) : (readT f s).2 = (readV f s).2 ∧ ((readV f s).2 = true → (readT f s).1 = (readV f s).1) := by
  obtain ⟨p1, p2⟩ := pV_sim f.nodes f hf s hs
  unfold readV readT
  cases hp : pV f.nodes f s with
  | mk o t =>
  cases o with
  | none =>
    simp only
    cases hl : tok s with
    | none => exact ⟨rfl, fun h => by cases h⟩
    | some l =>
      have := p2 t l hp hl
      simp only [this]
      exact ⟨rfl, fun h => by cases h⟩
  | some v =>
    obtain ⟨a, b⟩ := p1 v t hp
    have ht := tok_drop t
    simp only
    cases hl : tok s with
    | none =>
      have hd : ¬ dropC 32 t = [] := fun e => by
        rw [e, tok_nil] at ht
        obtain ⟨l, h⟩ := a [] ht.symm
        rw [hl] at h
        cases h
      simp only [hd, decide_false]
      exact ⟨trivial, fun h => by cases h⟩
    | some l =>
      obtain ⟨l', h1, h2⟩ := b l hl
      simp only [h2, Bool.not_false, Bool.true_and]
      refine ⟨?_, fun _ => trivial⟩
      congr 1
      rw [h1] at ht
      cases hd : dropC 32 t with
      | nil =>
        rw [hd, tok_nil] at ht
        cases ht
        simp
      | cons c r =>
        rw [hd] at ht
        obtain ⟨q, q', rfl, _⟩ := tok_head (dropC_head hd) ht
        simp
def refV (f : Fun) (n : Int) (s : List UInt8) : Val × Int := if 40000 < s.length then (zeroV, 2) else if (readT f s).2 then rNorm f n (readT f s).1 else (zeroV, 11)
theorem parse_sameV {f : Fun} {n : Int} (h : errF f n = 0) {s : List UInt8} (hs : Sm s) : pParse f n s = refV f n s := by
  have hf := (errF_zero h).1
  obtain ⟨a, b⟩ := read_same hf hs
  unfold pParse refV
  rw [if_pos h, a]
  split
  · rfl
  · split
    · rename_i h1
      rw [b h1]
    · rfl
theorem utf_digit (k : Nat) (h : k ≤ 9) : (Utf8.encode (48 + k : Int)).data.toList = [UInt8.ofNat (48 + k)] := by
  have : k = 0 ∨ k = 1 ∨ k = 2 ∨ k = 3 ∨ k = 4 ∨ k = 5 ∨ k = 6 ∨ k = 7 ∨ k = 8 ∨ k = 9 := by omega
  rcases this with rfl | rfl | rfl | rfl | rfl | rfl | rfl | rfl | rfl | rfl <;> decide
theorem ev_DigitsN : ∀ (N u : Nat), u ≤ N → u < 10000000 → ∀ m : Mem, evCall C0 41 [.int .i64 u] m = some (.ret (.str (Lib.decDigits u)), m)
  | N, u, hN, hu, m => by
    rw [evCall_body C0 (C0_ext _ (by decide)) (by rw [C0_P]; exact Tryz.func41) rfl (by rw [C0_ann]; rfl) (by decide) (by simp [Tryz.f41])]
    have h1 : (u : Int).tmod 10 = (u % 10 : Nat) := by rw [Int.tmod_eq_emod_of_nonneg (by omega)]; omega
    have h2 : (u : Int).tdiv 10 = (u / 10 : Nat) := by rw [Int.tdiv_eq_ediv_of_nonneg (by omega)]; omega
    have hk : u % 10 ≤ 9 := by omega
    have w1 : IntKind.i64.wrap (48 + (u % 10 : Nat)) = 48 + (u % 10 : Nat) := wrap_id _ (by omega)
    have w2 : IntKind.u8.wrap (48 + (u % 10 : Nat)) = 48 + (u % 10 : Nat) := wrap8 _ (by omega)
    have hf := utf_digit (u % 10) hk
    have hm : ((u % 10 : Nat) : Int) = (u : Int) % 10 := by omega
    have hd : ((u / 10 : Nat) : Int) = (u : Int) / 10 := by omega
    by_cases hl : u < 10
    · have hl' : (u : Int) < 10 := by omega
      have h0 : u % 10 = u := by omega
      rw [Lib.decDigits, dif_pos hl]
      rw [h0] at h1 w1 w2 hf
      simp [Tryz.f41, a41, reg41, h1, w1, w2, hl', hf]
    · have hl' : ¬ (u : Int) < 10 := by omega
      obtain ⟨N, rfl⟩ : ∃ k, N = k + 1 := ⟨N - 1, by omega⟩
      have e1 := ev_DigitsN N (u / 10) (by omega) (by omega)
      have hlen := dec_len 6 (u / 10) (by omega)
      have w3 : IntKind.i64.wrap ((u / 10 : Nat) : Int) = (u / 10 : Nat) := wrap_id _ (by omega)
      rw [Lib.decDigits, dif_neg hl]
      generalize u % 10 = a at h1 w1 w2 hf hm
      generalize u / 10 = b at h2 e1 hd hlen w3
      simp [Tryz.f41, a41, reg41, h1, h2, w1, w2, w3, hl', hf, e1]
      try (rw [if_pos (by omega)]; simp [Tryz.f41, a41, reg41, h1, h2, w1, w2, w3, hl', hf, e1])
theorem ev_Digits (k : Int) (h0 : 0 ≤ k) (h1 : k < 10000000) (m : Mem) : evCall C0 41 [.int .i64 k] m = some (.ret (.str (Lib.itoa k)), m) := by
  obtain ⟨n, rfl⟩ : ∃ n : Nat, k = n := ⟨k.toNat, by omega⟩
  rw [ev_DigitsN n n (Nat.le_refl _) (by omega)]
  unfold Lib.itoa
  rw [if_neg (by omega)]
  rfl
theorem digR_ok {s : RS} (h : TkOk s.1) : (digR s).1.length ≤ 1000000 ∧ (∀ b, b ∈ (digR s).1 → isDig b = true) ∧ ∃ c r, (digR s).1 = c :: r := by
  unfold digR
  split
  · rename_i c r q he
    obtain ⟨c', r', e, hl, hd⟩ := h (c :: r) (by rw [he]; exact List.mem_cons_self)
    cases e
    split
    · rename_i hc
      exact ⟨hl, hd hc, c, r, rfl⟩
    · exact ⟨by simp, fun b hb => by simp at hb; subst hb; rfl, 48, [], rfl⟩
  · exact ⟨by simp, fun b hb => by simp at hb; subst hb; rfl, 48, [], rfl⟩
set_option maxHeartbeats 1000000 in
theorem ev_read (id : Nat) (s : RS) (m : Mem) (hl : s.1.length ≤ 1000000) (hk : TkOk s.1) (hbx : m.bx[id]? = some (rd s)) : evCall C0 103 [.ptr id 0] m = some (.ret (.int .i64 (readR s).1), ⟨m.bx.set id (rd (readR s).2), m.rw⟩) := by
  have hid : id < m.bx.length := (List.getElem?_eq_some_iff.1 hbx).1
  rw [evCall_body C0 (C0_ext _ (by decide)) (by rw [C0_P]; exact Tryz.func103) rfl (by rw [C0_ann]; rfl) (by decide) (by simp [Tryz.f103])]
  have e1 := ev_RDigits id s m hl hk hbx
  obtain ⟨h1, h2, c, r, h3⟩ := digR_ok hk
  have e2 := ev_Number (digR s).1 h1 h2
  unfold readR
  cases hd : digR s with
  | mk d q =>
  obtain ⟨l, b⟩ := q
  rw [hd] at e1 e2 h3
  simp only at h3
  subst h3
  simp at e1 e2
  by_cases hr : r.length = 0
  · have hr0 : r = [] := List.eq_nil_of_length_eq_zero hr
    subst hr0
    cases b <;> simp [Tryz.f103, a103, reg103, hid, e1, e2, setCells, leave_set0]
  · have hr1 : (1 : Int) < r.length + 1 := by omega
    have hr2 : 0 < r.length := by omega
    have hc := byte_eq c 48
    simp at hc
    cases b
    · by_cases h48 : c = 48
      · subst h48
        simp [Tryz.f103, a103, reg103, hid, e1, e2, hr1, hr2, setCells, leave_set0]
      · have : ¬ (c.toNat : Int) = 48 := fun h => h48 (hc.1 h)
        simp [Tryz.f103, a103, reg103, hid, e1, e2, hr1, hr2, h48, this, setCells, leave_set0]
    · simp [Tryz.f103, a103, reg103, hid, e1, e2, setCells, leave_set0]
theorem strs_at {l : List (List UInt8)} {i : Nat} (h : i < l.length) : ((strs l).drop i).take 1 = [.str l[i]] := by
  unfold strs
  rw [← List.map_drop, List.drop_eq_getElem_cons h]
  rfl
set_option maxHeartbeats 1000000 in
theorem ev_joined (l : List (List UInt8)) (id : Nat) (hl : sumL l + 2 * l.length ≤ 1000000000) (m : Mem) (hR : m.rw[id]? = some ⟨9, strs l⟩) : evCall C0 71 [.sl id l.length 0 l.length] m = some (.ret (.str (joinC l)), m) := by
  have hid : id < m.rw.length := (List.getElem?_eq_some_iff.1 hR).1
  have hR2 := (List.getElem?_eq_some_iff.1 hR).2
  rw [evCall_body C0 (C0_ext _ (by decide)) (by rw [C0_P]; exact Tryz.func71) rfl (by rw [C0_ann]; rfl) (by decide) (by simp [Tryz.f71])]
  simp [Tryz.f71, a71, reg71, loop71]
  refine loop_in (fun i : Nat => ⟨[(3, .str (joinC (l.take i))), (6, .sl id l.length 0 l.length), (7, .int .i64 l.length), (8, .int .i64 i)], m⟩)
    (fun i => some (.ret (.str (joinC l)), m)) (fun i => l.length - i) (fun i => i ≤ l.length) 0 ?_ ?_ ?_ ?_ ?_
  · simp [joinC]
  · simp
  · simp
  · intro x; simp [Tryz.f71, a71, reg71, loop71]
  · intro i hi hrec
    by_cases hlt : i < l.length
    · have w2 : IntKind.i64.wrap (i + 1) = i + 1 := wrap_id _ (by omega)
      have h3 : i + 1 ≤ l.length := by omega
      have hat := strs_at hlt
      have hj := joinC_take l i
      have hm := mem_sumL (List.getElem_mem hlt)
      have htk : l.take (i + 1) = l.take i ++ [l[i]] := List.take_succ_eq_append_getElem hlt
      by_cases hi0 : i = 0
      · subst hi0
        simp at hat
        have hnx : joinC (l.take 1) = l[0] := by rw [htk]; rfl
        simp [round, Tryz.f71, a71, reg71, loop71, hlt, w2, h3, hat, hid, hR2, endRound_M0, joinC]
        repeat (rw [if_pos (by omega)]; simp [round, Tryz.f71, a71, reg71, loop71, hlt, w2, h3, hat, hid, hR2, endRound_M0, joinC])
        refine hrec 1 _ _ ?_ ?_ ?_ ?_
        · omega
        · omega
        · simp [hnx]
        · simp
      · have hi1 : 0 < i := by omega
        have hnx : joinC (l.take (i + 1)) = joinC (l.take i) ++ ([44, 32] ++ l[i]) := by
          rw [htk]
          exact joinC_snoc _ _ fun h => by
            have := congrArg List.length h
            rw [List.length_take, List.length_nil] at this
            omega
        generalize joinC (l.take i) = J at *
        simp [round, Tryz.f71, a71, reg71, loop71, hlt, w2, h3, hat, hid, hR2, hi1, endRound_M0]
        repeat (rw [if_pos (by omega)]; simp [round, Tryz.f71, a71, reg71, loop71, hlt, w2, h3, hat, hid, hR2, hi1, endRound_M0])
        refine hrec (i + 1) _ _ ?_ ?_ ?_ ?_
        · omega
        · omega
        · simp [hnx]
        · simp
    · clear hrec
      rw [List.take_of_length_le (by omega)]
      simp [round, Tryz.f71, a71, reg71, loop71, hlt]
theorem ev_joinedN (m : Mem) : evCall C0 71 [.nils] m = some (.ret (.str []), m) := by
  rw [evCall_body C0 (C0_ext _ (by decide)) (by rw [C0_P]; exact Tryz.func71) rfl (by rw [C0_ann]; rfl) (by decide) (by simp [Tryz.f71])]
  simp [Tryz.f71, a71, reg71, loop71]
  rw [evCode_loop]
  simp [round, Tryz.f71, a71, reg71, loop71]
theorem endRound_DJ {l : List Nat} {M L L' : List (List A)} {i k : Nat} {x x' y y' : List A} {R J J' : List Row} {tm : List (Nat × A)} (hJ : J'.all (fun r => r.cs.all (closed 0 0)) = true) (hx : x'.all (closed (M.length + L.length) (R.length + J'.length)) = true) (hy : y'.all (closed (M.length + L.length) (R.length + J'.length)) = true) (hL : L.length ≤ L'.length) (hl : l.all (fun t => closed (M.length + L.length) (R.length + J'.length) (lk t tm)) = true) (hc : (L'.take L.length).all (fun cs => cs.all (closed (M.length + L.length) (R.length + J'.length))) = true) :
    endRound (some l) ⟨(M.set i x).set k y ++ L, R ++ J⟩ ⟨tm, ⟨(M.set i x').set k y' ++ L', R ++ J'⟩⟩ = some ⟨prune (some l) tm, ⟨(M.set i x').set k y' ++ L'.take L.length, R ++ J'⟩⟩ := by
  refine endRound_eq (B := (M.set i x').set k y' ++ L'.take L.length) (J := L'.drop L.length) (by simp) (by simp; omega) (by simpa using List.all_eq_true.1 hl) (fun j hj => ?_) (fun j hj => ?_)
  · simp only [List.length_append, List.length_set] at hj ⊢
    by_cases h : j < M.length
    · rw [List.getElem?_append_left (by simpa using h), List.getElem?_append_left (by simpa using h)]
      by_cases hk : k = j
      · subst hk; right; exact ⟨y', by simp [h], hy⟩
      · by_cases hi : i = j
        · subst hi; right; exact ⟨x', by simp [h, hk], hx⟩
        · left; simp [hk, hi]
    · right
      have := all_take (B := (M.set i x').set k y') hc (by simpa using h) (by simpa using hj) hL
      simpa using this
  · by_cases h : j < R.length
    · left; rw [List.getElem?_append_left h, List.getElem?_append_left h]
    · right
      have hi' : j < (R ++ J').length := hj
      simp only [List.length_append] at hj
      refine ⟨(R ++ J')[j], List.getElem?_eq_getElem hi', ?_⟩
      rw [List.getElem_append_right (by omega)]
      exact closed_up (List.all_eq_true.1 hJ _ (List.getElem_mem (l := J') (n := j - R.length) (by omega)))
theorem endRound_DJ0 {l : List Nat} {M L L' : List (List A)} {i k : Nat} {x x' y y' : List A} {R J' : List Row} {tm : List (Nat × A)} (hJ : J'.all (fun r => r.cs.all (closed 0 0)) = true) (hx : x'.all (closed (M.length + L.length) (R.length + J'.length)) = true) (hy : y'.all (closed (M.length + L.length) (R.length + J'.length)) = true) (hL : L.length ≤ L'.length) (hl : l.all (fun t => closed (M.length + L.length) (R.length + J'.length) (lk t tm)) = true) (hc : (L'.take L.length).all (fun cs => cs.all (closed (M.length + L.length) (R.length + J'.length))) = true) :
    endRound (some l) ⟨(M.set i x).set k y ++ L, R⟩ ⟨tm, ⟨(M.set i x').set k y' ++ L', R ++ J'⟩⟩ = some ⟨prune (some l) tm, ⟨(M.set i x').set k y' ++ L'.take L.length, R ++ J'⟩⟩ := by
  have := endRound_DJ (J := []) (x := x) (y := y) (i := i) (k := k) hJ hx hy hL hl hc
  simpa using this
theorem keep_two {M : List (List A)} {i k : Nat} {x x' y y' : List A} {R J : List Row} {b : List (List A)} (hx : x'.all (closed M.length (R.length + J.length)) = true) (hy : y'.all (closed M.length (R.length + J.length)) = true) (hJ : J.all (fun r => r.cs.all (closed 0 0)) = true) :
    leave Tryz.prog true ⟨(M.set i x).set k y, R⟩ (.ret (.tup [])) ⟨(M.set i x').set k y' ++ b, R ++ J⟩ = some (.ret (.tup []), ⟨(M.set i x').set k y', R ++ J⟩) := by
  refine leave_keep _ _ _ _ _ _ (by simp) (fun j hj => ?_) (fun j hj => ?_) (by simp [Res.val])
  · simp only [List.length_set] at hj
    by_cases hk : k = j
    · subst hk; right; exact ⟨y', by simp [hj], by simpa using hy⟩
    · by_cases hi : i = j
      · subst hi; right; exact ⟨x', by simp [hj, hk], by simpa using hx⟩
      · left; simp [hk, hi]
  · by_cases h : j < R.length
    · left; simp only; rw [List.getElem?_append_left h]
    · right
      simp only [List.length_append] at hj
      refine ⟨J[j - R.length], ?_, ?_⟩
      · rw [List.getElem?_append_right (by omega), List.getElem?_eq_getElem]
      · exact closed_up (List.all_eq_true.1 hJ _ (List.getElem_mem (l := J) (n := j - R.length) (by omega)))
theorem keep_two0 {M : List (List A)} {i k : Nat} {x x' y y' : List A} {R : List Row} {b : List (List A)} (hx : x'.all (closed M.length R.length) = true) (hy : y'.all (closed M.length R.length) = true) :
    leave Tryz.prog true ⟨(M.set i x).set k y, R⟩ (.ret (.tup [])) ⟨(M.set i x').set k y' ++ b, R⟩ = some (.ret (.tup []), ⟨(M.set i x').set k y', R⟩) := by
  have := keep_two (J := []) (M := M) (i := i) (k := k) (x := x) (y := y) (R := R) (b := b) (x' := x') (y' := y') (by simpa using hx) (by simpa using hy) rfl
  simpa using this
@[simp] theorem rd_closed (nb nr : Nat) (s : RS) : (rd s).all (closed nb nr) = true := by simp [rd]
def ROk (id : Nat) (f : Fun) (rv : RS → RV) : Prop := ∀ (s : RS) (m : Mem), TkOk s.1 → s.1.length ≤ 1000000 → m.bx[id]? = some (rd s) → evCall C0 80 [.agg f.cells, .ptr id 0] m = some (.ret (.agg (rv s).1.cells), ⟨m.bx.set id (rd (rv s).2), m.rw⟩)
structure ElS where
  more : Bool
  n : Nat
  a : List Val
  ws : List Int
  s : RS
def ElS.out (rv : RS → RV) (w : Bool) (x : ElS) : RV := if x.more then elemR rv w x.n x.a x.ws x.s else (.mk 0 x.a x.ws, x.s)
theorem takeR_len {t : List UInt8} {s : RS} (h : s.1.head? = some t) : (takeR t s).1.length < s.1.length ∧ (takeR t s).2 = s.2 := by
  unfold takeR
  rw [if_pos h]
  obtain ⟨l, b⟩ := s
  cases l with
  | nil => cases h
  | cons u q => exact ⟨by simp, rfl⟩
set_option maxHeartbeats 16000000 in
theorem ev_relems (id iv : Nat) (hne : ¬ id = iv) (f : Fun) (hl1 : f.args.length = 1) (rv : RS → RV) (hsuf : SufR rv) (f0 : 0 < f.args.length) (hval : ROk id f.args[0] rv) (w : Bool) (hw : wtd f.kind = w) (s : RS) (hk : TkOk s.1) (hl : s.1.length ≤ 1000000) (M : List (List A)) (R : List Row) (hid : id < M.length) (hiv : iv < M.length) :
    evCall C0 106 [.agg f.cells, .ptr id 0, .ptr iv 0] ⟨(M.set id (rd s)).set iv [.int .i64 0, .nils, .nils], R⟩ =
      some (.ret (.tup []), ⟨(M.set id (rd (setR rv w s).2)).set iv [.int .i64 0, xA R.length (setR rv w s).1.args, lvW w R.length (setR rv w s).1.args (setR rv w s).1.ws], R ++ lvR w (setR rv w s).1.args (setR rv w s).1.ws⟩) := by
  have hne' : ¬ iv = id := fun h => hne h.symm
  have c1 : ∀ x y z : List A, ((M.set id x).set iv y).set id z = (M.set id z).set iv y := fun x y z => by rw [List.set_comm _ _ hne, List.set_set, List.set_comm _ _ hne']
  have c2 : ∀ x y z : List A, ((M.set id x).set iv y).set iv z = (M.set id x).set iv z := fun x y z => by rw [List.set_set]
  have gid : ∀ x y : List A, ((M.set id x).set iv y)[id]? = some x := fun x y => by simp [hne', hid]
  have giv : ∀ x y : List A, ((M.set id x).set iv y)[iv]? = some y := fun x y => by simp [hiv]
  have gid2 : ∀ (x y : List A) (h : id < ((M.set id x).set iv y).length), ((M.set id x).set iv y)[id]'h = x := fun x y h => by simp [hne']
  have giv2 : ∀ (x y : List A) (h : iv < ((M.set id x).set iv y).length), ((M.set id x).set iv y)[iv]'h = y := fun x y h => by simp
  have hidk : ∀ k, id < M.length + k := fun k => by omega
  have hivk : ∀ k, iv < M.length + k := fun k => by omega
  have b1 := Fun.at_cellsL f.args 0 f0
  have hwt := ev_Weighted f.kind
  rw [hw] at hwt
  simp at b1
  rw [evCall_body C0 (C0_ext _ (by decide)) (by rw [C0_P]; exact Tryz.func106) rfl (by rw [C0_ann]; rfl) (by decide) (by simp [Tryz.f106])]
  have e0 := ev_Take id [123] s ⟨(M.set id (rd s)).set iv [.int .i64 0, .nils, .nils] ++ [f.cells], R⟩ hl (by simp [at_lt, hid, gid, gid2])
  have k1 := hk.suffix (takeR_suffix [123] s)
  have l1 := (takeR_suffix [123] s).length_le
  have e1 := ev_Sees id [125] (takeR [123] s) ⟨(M.set id (rd (takeR [123] s))).set iv [.int .i64 0, .nils, .nils] ++ [f.cells], R⟩ (by omega) (by simp [at_lt, hid, gid, gid2])
  have e2 := ev_Take id [125] (takeR [123] s) ⟨(M.set id (rd (takeR [123] s))).set iv [.int .i64 0, .nils, .nils] ++ [f.cells], R⟩ (by omega) (by simp [at_lt, hid, gid, gid2])
  unfold setR
  generalize takeR [123] s = t at *
  simp [set_lt, hid, c1] at e0 e2
  by_cases h1 : t.1.head? = some [125]
  · simp [h1] at e1
    rw [if_pos h1]
    simp [Tryz.f106, a106, reg106, loop106, draw106, dok106, e0, e1, e2, xA, lvW, lvR, keep_two0]
  simp [h1] at e1
  rw [if_neg h1]
  simp [Tryz.f106, a106, reg106, loop106, draw106, dok106, e0, e1]
  refine loop_in (fun x : ElS => ⟨[(1, .ptr id 0), (2, .ptr iv 0), (3, .ptr M.length 0), (6, .bool x.more)],
      ⟨(M.set id (rd x.s)).set iv [.int .i64 0, xA R.length x.a, lvW w R.length x.a x.ws] ++ [f.cells], R ++ lvR w x.a x.ws⟩⟩)
    (fun x => some (.ret (.tup []), ⟨(M.set id (rd (takeR [125] (x.out rv w).2))).set iv [.int .i64 0, xA R.length (x.out rv w).1.args, lvW w R.length (x.out rv w).1.args (x.out rv w).1.ws], R ++ lvR w (x.out rv w).1.args (x.out rv w).1.ws⟩))
    (fun x => 2 * x.s.1.length + (if x.more then 1 else 0))
    (fun x => TkOk x.s.1 ∧ (x.more = true → x.s.1.length < x.n) ∧ x.s.1.length ≤ 1000000 ∧ (x.more = true → x.a.length + x.s.1.length ≤ 1000000) ∧ (w = true → x.ws.length = x.a.length) ∧ (w = false → x.ws = [])) ⟨true, t.1.length + 1, [], [], t⟩ ?_ ?_ ?_ ?_ ?_
  · simp [xA, lvW, lvR]
  · simp [ElS.out]
  · exact ⟨k1, fun _ => by simp only; omega, by simp only; omega, fun _ => by simp; omega, fun _ => rfl, fun _ => rfl⟩
  · intro x; simp [Tryz.f106, a106, reg106, loop106, draw106, dok106]
  · rintro ⟨more, n, a, ws, t⟩ ⟨ht, hn, htl, hal, hwt2, hwf⟩ hrec
    simp only at ht hn htl hal hwt2 hwf ⊢
    obtain ⟨tl, tb⟩ := t
    simp only at ht hn htl hal
    have hkeep : ∀ (x y x' y' : List A) (J : List Row) (b : List (List A)), x'.all (closed M.length (R.length + J.length)) = true → y'.all (closed M.length (R.length + J.length)) = true → J.all (fun r => r.cs.all (closed 0 0)) = true → leave Tryz.prog true ⟨(M.set id x).set iv y, R⟩ (.ret (.tup [])) ⟨(M.set id x').set iv y' ++ b, R ++ J⟩ = some (.ret (.tup []), ⟨(M.set id x').set iv y', R ++ J⟩) := fun x y x' y' J b hx hy hJ => keep_two hx hy hJ
    cases hgo : (more && !tb) with
    | false =>
      clear hrec
      have ho : ElS.out rv w ⟨more, n, a, ws, (tl, tb)⟩ = (.mk 0 a ws, (tl, tb)) := by
        unfold ElS.out
        cases more with
        | false => rfl
        | true =>
          have : tb = true := by simpa using hgo
          subst this
          exact elemR_stick _ _ _ rfl
      rw [ho]
      have e3 := ev_Take id [125] (tl, tb) ⟨(M.set id (rd (tl, tb))).set iv [.int .i64 0, xA R.length a, lvW w R.length a ws] ++ [f.cells], R ++ lvR w a ws⟩ htl (by simp [at_lt, hid, gid, gid2])
      simp [set_lt, hid, hl1, c1] at e3
      cases a with
      | nil =>
        simp [xA, lvW, lvR] at e3
        cases more with
        | false => simp [round, Tryz.f106, a106, reg106, loop106, draw106, dok106, hid, hiv, hidk, hivk, at_lt, set_lt, app_at, app_set, app_at0, app_set0, c1, c2, gid, giv, gid2, giv2, b1, hl1, hwt, xA, lvW, lvR, e3, keep_two0]
        | true =>
          have : tb = true := by simpa using hgo
          subst this
          simp [round, Tryz.f106, a106, reg106, loop106, draw106, dok106, hid, hiv, hidk, hivk, at_lt, set_lt, app_at, app_set, app_at0, app_set0, c1, c2, gid, giv, gid2, giv2, b1, hl1, hwt, xA, lvW, lvR, e3, keep_two0]
      | cons x r =>
        cases w with
        | false =>
          simp [xA, lvW, lvR] at e3
          cases more with
          | false => simp [round, Tryz.f106, a106, reg106, loop106, draw106, dok106, hid, hiv, hidk, hivk, at_lt, set_lt, app_at, app_set, app_at0, app_set0, c1, c2, gid, giv, gid2, giv2, b1, hl1, hwt, xA, lvW, lvR, e3, keep_two]
          | true =>
            have : tb = true := by simpa using hgo
            subst this
            simp [round, Tryz.f106, a106, reg106, loop106, draw106, dok106, hid, hiv, hidk, hivk, at_lt, set_lt, app_at, app_set, app_at0, app_set0, c1, c2, gid, giv, gid2, giv2, b1, hl1, hwt, xA, lvW, lvR, e3, keep_two]
        | true =>
          simp [xA, lvW, lvR] at e3
          cases more with
          | false => simp [round, Tryz.f106, a106, reg106, loop106, draw106, dok106, hid, hiv, hidk, hivk, at_lt, set_lt, app_at, app_set, app_at0, app_set0, c1, c2, gid, giv, gid2, giv2, b1, hl1, hwt, xA, lvW, lvR, e3, keep_two]
          | true =>
            have : tb = true := by simpa using hgo
            subst this
            simp [round, Tryz.f106, a106, reg106, loop106, draw106, dok106, hid, hiv, hidk, hivk, at_lt, set_lt, app_at, app_set, app_at0, app_set0, c1, c2, gid, giv, gid2, giv2, b1, hl1, hwt, xA, lvW, lvR, e3, keep_two]
    | true =>
    rw [Bool.and_eq_true, Bool.not_eq_true'] at hgo
    obtain ⟨rfl, rfl⟩ := hgo
    have hn := hn rfl
    obtain ⟨n, rfl⟩ : ∃ k, n = k + 1 := ⟨n - 1, by omega⟩
    have hal := hal rfl
    have hvs := (hsuf (tl, false)).length_le
    have hvk : TkOk (rv (tl, false)).2.1 := ht.suffix (hsuf (tl, false))
    have hws := (wstepR_suffix w ws (rv (tl, false)).2)
    have hwk : TkOk (wstepR w ws (rv (tl, false)).2).2.1 := hvk.suffix hws
    have hwl := hws.length_le
    have ho : ElS.out rv w ⟨true, n + 1, a, ws, (tl, false)⟩ = ElS.out rv w ⟨decide ((wstepR w ws (rv (tl, false)).2).2.1.head? = some [44]), n, a ++ [(rv (tl, false)).1], (wstepR w ws (rv (tl, false)).2).1, if (wstepR w ws (rv (tl, false)).2).2.1.head? = some [44] then takeR [44] (wstepR w ws (rv (tl, false)).2).2 else (wstepR w ws (rv (tl, false)).2).2⟩ := by
      unfold ElS.out
      rw [if_pos rfl, elemR, if_neg (by simp)]
      by_cases h : (wstepR w ws (rv (tl, false)).2).2.1.head? = some [44]
      · simp [h]
      · simp [h]
    have e2 := hval (tl, false) ⟨(M.set id (rd (tl, false))).set iv [.int .i64 0, xA R.length a, lvW w R.length a ws] ++ [f.cells], R ++ lvR w a ws⟩ ht htl (by simp [at_lt, hid, gid, gid2])
    rw [ho]
    simp only at hvs
    generalize (rv (tl, false)).1 = x at *
    generalize (rv (tl, false)).2 = u at *
    have hsz : (a.length + 1) * 56 ≤ 70368744177664 ∧ a.length + 1 ≤ 70368744177664 ∧ (a.length + 1) * 8 ≤ 70368744177664 := by omega
    have hca : Val.cellsL (a ++ [x]) = Val.cellsL a ++ x.cells := by rw [Val.cellsL_append]; simp [Val.cellsL]
    have hxa : xA R.length (a ++ [x]) = .sl R.length ((a.length + 1) * 3) 0 (a.length + 1) := by simp [xA]
    cases w with
    | false =>
      have hwe : ws = [] := hwf rfl
      subst hwe
      have hlr : lvR false (a ++ [x]) [] = [⟨28, Val.cellsL a ++ x.cells⟩] := by simp [lvR, hca]
      have hwu : wstepR false [] u = ([], u) := rfl
      rw [hwu] at hwk hwl ⊢
      simp only at hwk hwl ⊢
      have e5 := ev_Sees id [44] u ⟨(M.set id (rd u)).set iv [.int .i64 0, xA R.length (a ++ [x]), .nils] ++ [f.cells], R ++ lvR false (a ++ [x]) []⟩ (by omega) (by simp [at_lt, hid, gid, gid2])
      have e6 := ev_Take id [44] u ⟨(M.set id (rd u)).set iv [.int .i64 0, xA R.length (a ++ [x]), .nils] ++ [f.cells], R ++ lvR false (a ++ [x]) []⟩ (by omega) (by simp [at_lt, hid, gid, gid2])
      rw [hxa, hlr] at e5 e6
      simp [set_lt, hid, hl1, c1] at e5 e6
      cases a with
      | nil =>
        simp [set_lt, hid, hl1, c1, xA, lvW, lvR] at e2 e5 e6
        by_cases h44 : u.1.head? = some [44]
        · have hlt := takeR_len h44
          simp [h44] at e5
          rw [if_pos h44]
          simp [round, Tryz.f106, a106, reg106, loop106, draw106, dok106, hid, hiv, hidk, hivk, at_lt, set_lt, app_at, app_set, app_at0, app_set0, c1, c2, gid, giv, gid2, giv2, b1, hl1, hwt, xA, lvW, lvR, e2, e5, e6, endRound_DJ, endRound_DJ0, h44]
          refine hrec ⟨true, n, [x], [], takeR [44] u⟩ _ _ ?_ ?_ ?_ ?_
          · simp; omega
          · exact ⟨hwk.suffix (takeR_suffix _ _), fun _ => by simp only; omega, by simp only; omega, fun _ => by simp; omega, (fun h => by cases h), fun _ => rfl⟩
          · simp [hl1, xA, lvW, lvR, Val.cellsL, Val.cellsL_append]
          · simp [h44, xA, lvW, lvR]
        · simp [h44] at e5
          rw [if_neg h44]
          simp [round, Tryz.f106, a106, reg106, loop106, draw106, dok106, hid, hiv, hidk, hivk, at_lt, set_lt, app_at, app_set, app_at0, app_set0, c1, c2, gid, giv, gid2, giv2, b1, hl1, hwt, xA, lvW, lvR, e2, e5, endRound_DJ, endRound_DJ0, h44]
          refine hrec ⟨false, n, [x], [], u⟩ _ _ ?_ ?_ ?_ ?_
          · simp; omega
          · exact ⟨hwk, (fun h => by cases h), by simp only; omega, (fun h => by cases h), (fun h => by cases h), fun _ => rfl⟩
          · simp [hl1, xA, lvW, lvR, Val.cellsL, Val.cellsL_append]
          · simp [h44, xA, lvW, lvR]
      | cons b r =>
        have hi1 : (0 : Int) ≤ (r.length : Int) + 1 := by omega
        have hi2 : (r.length : Int) < (r.length : Int) + 1 := by omega
        have hall : List.take ((r.length + 1) * 3) (Val.cellsL (b :: r)) = Val.cellsL (b :: r) := List.take_of_length_le (by simp)
        have ht1 : ∀ l : List A, List.take ((r.length + 1) * 3) (Val.cellsL (b :: r) ++ l) = Val.cellsL (b :: r) := fun l => List.take_left' (by simp)
        have hi3 : (r.length + 1) * 3 + 3 = (r.length + 1 + 1) * 3 := by omega
        have hd2 : ∀ c1 c2 c3 : A, List.drop ((r.length + 1 + 1) * 3) (Val.cellsL (b :: r) ++ [c1, c2, c3]) = [] := fun c1 c2 c3 => List.drop_eq_nil_of_le (by simp; omega)
        have hd1 : ∀ c1 c2 c3 : A, List.drop ((r.length + 1) * 3 + 3) (Val.cellsL (b :: r) ++ [c1, c2, c3]) = [] := fun c1 c2 c3 => List.drop_eq_nil_of_le (by simp)
        simp [set_lt, hid, hl1, c1, xA, lvW, lvR] at e2 e5 e6 hsz
        by_cases h44 : u.1.head? = some [44]
        · have hlt := takeR_len h44
          simp [h44] at e5
          rw [if_pos h44]
          simp [round, Tryz.f106, a106, reg106, loop106, draw106, dok106, hid, hiv, hidk, hivk, at_lt, set_lt, app_at, app_set, app_at0, app_set0, c1, c2, gid, giv, gid2, giv2, b1, hl1, hwt, xA, lvW, lvR, e2, e5, e6, endRound_DJ, endRound_DJ0, h44, hi1, hi2, hall, ht1, hd1, hd2, hi3, hsz]
          refine hrec ⟨true, n, b :: r ++ [x], [], takeR [44] u⟩ _ _ ?_ ?_ ?_ ?_
          · simp; omega
          · exact ⟨hwk.suffix (takeR_suffix _ _), fun _ => by simp only; omega, by simp only; omega, fun _ => by simp at hal ⊢; omega, (fun h => by cases h), fun _ => rfl⟩
          · simp [hl1, xA, lvW, lvR, Val.cellsL, Val.cellsL_append]
          · simp [h44, xA, lvW, lvR]
        · simp [h44] at e5
          rw [if_neg h44]
          simp [round, Tryz.f106, a106, reg106, loop106, draw106, dok106, hid, hiv, hidk, hivk, at_lt, set_lt, app_at, app_set, app_at0, app_set0, c1, c2, gid, giv, gid2, giv2, b1, hl1, hwt, xA, lvW, lvR, e2, e5, endRound_DJ, endRound_DJ0, h44, hi1, hi2, hall, ht1, hd1, hd2, hi3, hsz]
          refine hrec ⟨false, n, b :: r ++ [x], [], u⟩ _ _ ?_ ?_ ?_ ?_
          · simp; omega
          · exact ⟨hwk, (fun h => by cases h), by simp only; omega, (fun h => by cases h), (fun h => by cases h), fun _ => rfl⟩
          · simp [hl1, xA, lvW, lvR, Val.cellsL, Val.cellsL_append]
          · simp [h44, xA, lvW, lvR]
    | true =>
      have hwa := hwt2 rfl
      have hlr : ∀ k, lvR true (a ++ [x]) (ws ++ [k]) = [⟨28, Val.cellsL a ++ x.cells⟩, ⟨3, ints ws ++ [.int .i64 k]⟩] := fun k => by simp [lvR, hca, ints_append, ints]
      have hlw : ∀ k, lvW true R.length (a ++ [x]) (ws ++ [k]) = .sl (R.length + 1) (ws.length + 1) 0 (ws.length + 1) := fun k => by simp [lvW]
      have t1 := takeR_suffix [58] u
      have t1l := t1.length_le
      have tk1 : TkOk (takeR [58] u).1 := hvk.suffix t1
      have e3 := ev_Take id [58] u ⟨(M.set id (rd u)).set iv [.int .i64 0, xA R.length (a ++ [x]), lvW true R.length a ws] ++ [f.cells], R ++ (⟨28, Val.cellsL (a ++ [x])⟩ :: wR ws)⟩ (by omega) (by simp [at_lt, hid, gid, gid2])
      have e4 := ev_read id (takeR [58] u) ⟨(M.set id (rd (takeR [58] u))).set iv [.int .i64 0, xA R.length (a ++ [x]), lvW true R.length a ws] ++ [f.cells], R ++ (⟨28, Val.cellsL (a ++ [x])⟩ :: wR ws)⟩ (by omega) tk1 (by simp [at_lt, hid, gid, gid2])
      have hwu : wstepR true ws u = (ws ++ [(readR (takeR [58] u)).1], (readR (takeR [58] u)).2) := rfl
      rw [hwu] at hwk hwl ⊢
      simp only at hwk hwl ⊢
      rw [hxa, hca] at e3 e4
      simp [set_lt, hid, hl1, c1] at e3 e4
      generalize takeR [58] u = u1 at *
      generalize (readR u1).1 = k at *
      generalize (readR u1).2 = q at *
      have e5 := ev_Sees id [44] q ⟨(M.set id (rd q)).set iv [.int .i64 0, xA R.length (a ++ [x]), lvW true R.length (a ++ [x]) (ws ++ [k])] ++ [f.cells], R ++ lvR true (a ++ [x]) (ws ++ [k])⟩ (by omega) (by simp [at_lt, hid, gid, gid2])
      have e6 := ev_Take id [44] q ⟨(M.set id (rd q)).set iv [.int .i64 0, xA R.length (a ++ [x]), lvW true R.length (a ++ [x]) (ws ++ [k])] ++ [f.cells], R ++ lvR true (a ++ [x]) (ws ++ [k])⟩ (by omega) (by simp [at_lt, hid, gid, gid2])
      rw [hxa, hlr, hlw] at e5 e6
      simp [set_lt, hid, hl1, c1] at e5 e6
      cases a with
      | nil =>
        have hw0 : ws = [] := List.eq_nil_of_length_eq_zero hwa
        subst hw0
        have hi0 : ints ([] : List Int) = [] := rfl
        simp [set_lt, hid, hl1, c1, xA, lvW, lvR, wR, hi0] at e2 e3 e4 e5 e6
        by_cases h44 : q.1.head? = some [44]
        · have hlt := takeR_len h44
          simp [h44] at e5
          rw [if_pos h44]
          simp [round, Tryz.f106, a106, reg106, loop106, draw106, dok106, hid, hiv, hidk, hivk, at_lt, set_lt, app_at, app_set, app_at0, app_set0, c1, c2, gid, giv, gid2, giv2, b1, hl1, hwt, xA, lvW, lvR, e2, e3, e4, e5, e6, endRound_DJ, endRound_DJ0, h44]
          refine hrec ⟨true, n, [x], [k], takeR [44] q⟩ _ _ ?_ ?_ ?_ ?_
          · simp; omega
          · exact ⟨hwk.suffix (takeR_suffix _ _), fun _ => by simp only; omega, by simp only; omega, fun _ => by simp; omega, fun _ => rfl, (fun h => by cases h)⟩
          · simp [hl1, xA, lvW, lvR, Val.cellsL, Val.cellsL_append, ints_append, ints]
          · simp [h44, xA, lvW, lvR]
        · simp [h44] at e5
          rw [if_neg h44]
          simp [round, Tryz.f106, a106, reg106, loop106, draw106, dok106, hid, hiv, hidk, hivk, at_lt, set_lt, app_at, app_set, app_at0, app_set0, c1, c2, gid, giv, gid2, giv2, b1, hl1, hwt, xA, lvW, lvR, e2, e3, e4, e5, endRound_DJ, endRound_DJ0, h44]
          refine hrec ⟨false, n, [x], [k], q⟩ _ _ ?_ ?_ ?_ ?_
          · simp; omega
          · exact ⟨hwk, (fun h => by cases h), by simp only; omega, (fun h => by cases h), fun _ => rfl, (fun h => by cases h)⟩
          · simp [hl1, xA, lvW, lvR, Val.cellsL, Val.cellsL_append, ints_append, ints]
          · simp [h44, xA, lvW, lvR]
      | cons b r =>
        have hi1 : (0 : Int) ≤ (r.length : Int) + 1 := by omega
        have hi2 : (r.length : Int) < (r.length : Int) + 1 := by omega
        have hall : List.take ((r.length + 1) * 3) (Val.cellsL (b :: r)) = Val.cellsL (b :: r) := List.take_of_length_le (by simp)
        have ht1 : ∀ l : List A, List.take ((r.length + 1) * 3) (Val.cellsL (b :: r) ++ l) = Val.cellsL (b :: r) := fun l => List.take_left' (by simp)
        have hi3 : (r.length + 1) * 3 + 3 = (r.length + 1 + 1) * 3 := by omega
        have hd2 : ∀ c1 c2 c3 : A, List.drop ((r.length + 1 + 1) * 3) (Val.cellsL (b :: r) ++ [c1, c2, c3]) = [] := fun c1 c2 c3 => List.drop_eq_nil_of_le (by simp; omega)
        have hd1 : ∀ c1 c2 c3 : A, List.drop ((r.length + 1) * 3 + 3) (Val.cellsL (b :: r) ++ [c1, c2, c3]) = [] := fun c1 c2 c3 => List.drop_eq_nil_of_le (by simp)
        have hw1 : ¬ ws.length = 0 := by rw [hwa]; simp
        have hw2 : ¬ ws = [] := fun h => hw1 (by rw [h]; rfl)
        simp at hsz hwa
        have hszw : (ws.length + 1) * 8 ≤ 70368744177664 ∧ ws.length + 1 ≤ 70368744177664 := by omega
        simp [set_lt, hid, hl1, c1, xA, lvW, lvR, wR, hw1, hw2] at e2 e3 e4 e5 e6
        by_cases h44 : q.1.head? = some [44]
        · have hlt := takeR_len h44
          simp [h44] at e5
          rw [if_pos h44]
          simp [round, Tryz.f106, a106, reg106, loop106, draw106, dok106, hid, hiv, hidk, hivk, at_lt, set_lt, app_at, app_set, app_at0, app_set0, c1, c2, gid, giv, gid2, giv2, b1, hl1, hwt, xA, lvW, lvR, e2, e3, e4, e5, e6, endRound_DJ, endRound_DJ0, h44, hi1, hi2, hall, ht1, hd1, hd2, hi3, hsz, hszw]
          refine hrec ⟨true, n, b :: r ++ [x], ws ++ [k], takeR [44] q⟩ _ _ ?_ ?_ ?_ ?_
          · simp; omega
          · exact ⟨hwk.suffix (takeR_suffix _ _), fun _ => by simp only; omega, by simp only; omega, fun _ => by simp at hal ⊢; omega, fun _ => by simp; omega, (fun h => by cases h)⟩
          · simp [hl1, xA, lvW, lvR, Val.cellsL, Val.cellsL_append, ints_append, ints]
          · simp [h44, xA, lvW, lvR]
        · simp [h44] at e5
          rw [if_neg h44]
          simp [round, Tryz.f106, a106, reg106, loop106, draw106, dok106, hid, hiv, hidk, hivk, at_lt, set_lt, app_at, app_set, app_at0, app_set0, c1, c2, gid, giv, gid2, giv2, b1, hl1, hwt, xA, lvW, lvR, e2, e3, e4, e5, endRound_DJ, endRound_DJ0, h44, hi1, hi2, hall, ht1, hd1, hd2, hi3, hsz, hszw]
          refine hrec ⟨false, n, b :: r ++ [x], ws ++ [k], q⟩ _ _ ?_ ?_ ?_ ?_
          · simp; omega
          · exact ⟨hwk, (fun h => by cases h), by simp only; omega, (fun h => by cases h), fun _ => by simp; omega, (fun h => by cases h)⟩
          · simp [hl1, xA, lvW, lvR, Val.cellsL, Val.cellsL_append, ints_append, ints]
          · simp [h44, xA, lvW, lvR]
theorem take_at {id : Nat} {M : List (List A)} (hid : id < M.length) (t : List UInt8) {s : RS} (hl : s.1.length ≤ 1000000) (bx : List (List A)) (R : List Row) :
    evCall C0 104 [.ptr id 0, .str t] ⟨M.set id (rd s) ++ bx, R⟩ = some (.ret (.tup []), ⟨M.set id (rd (takeR t s)) ++ bx, R⟩) := by
  have h := ev_Take id t s ⟨M.set id (rd s) ++ bx, R⟩ hl (by simp [at_lt, hid])
  simpa [set_lt, hid] using h
theorem sees_at {id : Nat} {M : List (List A)} (hid : id < M.length) (t : List UInt8) {s : RS} (hl : s.1.length ≤ 1000000) (bx : List (List A)) (R : List Row) :
    evCall C0 105 [.ptr id 0, .str t] ⟨M.set id (rd s) ++ bx, R⟩ = some (.ret (.bool (decide (s.1.head? = some t))), ⟨M.set id (rd s) ++ bx, R⟩) :=
  ev_Sees id t s ⟨M.set id (rd s) ++ bx, R⟩ hl (by simp [at_lt, hid])
theorem val_at {id : Nat} {M : List (List A)} (hid : id < M.length) {f : Fun} {rv : RS → RV} (h : ROk id f rv) {s : RS} (hk : TkOk s.1) (hl : s.1.length ≤ 1000000) (bx : List (List A)) (R : List Row) :
    evCall C0 80 [.agg f.cells, .ptr id 0] ⟨M.set id (rd s) ++ bx, R⟩ = some (.ret (.agg (rv s).1.cells), ⟨M.set id (rd (rv s).2) ++ bx, R⟩) := by
  have h := h s ⟨M.set id (rd s) ++ bx, R⟩ hk hl (by simp [at_lt, hid])
  simpa [set_lt, hid] using h
theorem expR_mk (rv : RS → RV) : ∀ (k : Nat) (a : List Val) (s : RS), (expR rv k a s).1 = .mk 0 (expR rv k a s).1.args []
  | 0, a, s => rfl
  | k + 1, a, s => by
    rw [expR]
    split
    · rfl
    · exact expR_mk rv k _ _
theorem elemR_mk (rv : RS → RV) (w : Bool) : ∀ (n : Nat) (a : List Val) (ws : List Int) (s : RS), (w = false → ws = []) → (w = true → ws.length = a.length) → (elemR rv w n a ws s).1.num = 0 ∧ (w = false → (elemR rv w n a ws s).1.ws = []) ∧ (w = true → (elemR rv w n a ws s).1.ws.length = (elemR rv w n a ws s).1.args.length)
  | 0, a, ws, s, h1, h2 => ⟨rfl, h1, h2⟩
  | n + 1, a, ws, s, h1, h2 => by
    rw [elemR]
    have k1 : w = false → (wstepR w ws (rv s).2).1 = [] := fun h => by unfold wstepR; rw [if_neg (by rw [h]; simp)]; exact h1 h
    have k2 : w = true → (wstepR w ws (rv s).2).1.length = (a ++ [(rv s).1]).length := fun h => by unfold wstepR; rw [if_pos h]; simp [h2 h]
    split
    · exact ⟨rfl, h1, h2⟩
    split
    · exact elemR_mk rv w n _ _ _ k1 k2
    · exact ⟨rfl, k1, k2⟩
theorem setR_mk (rv : RS → RV) (w : Bool) (s : RS) : (setR rv w s).1.num = 0 ∧ (w = false → (setR rv w s).1.ws = []) ∧ (w = true → (setR rv w s).1.ws.length = (setR rv w s).1.args.length) := by
  unfold setR
  split
  · exact ⟨rfl, fun _ => rfl, fun _ => rfl⟩
  · exact elemR_mk rv w _ _ _ _ (fun _ => rfl) (fun _ => rfl)
section
variable {id N : Nat}
set_option maxHeartbeats 4000000 in
theorem rvalue_leaf {f : Fun} (hk : f.kind = 0 ∨ f.kind = 1) : ROk id f (valR (N + 1) f) := by
  intro s m ht hl hbx
  have hid : id < m.bx.length := (List.getElem?_eq_some_iff.1 hbx).1
  have hg : m.bx[id] = rd s := (List.getElem?_eq_some_iff.1 hbx).2
  have hset : m.bx.set id (rd s) = m.bx := by rw [← hg]; exact List.set_getElem_self hid
  have hidk : ∀ k, id < m.bx.length + k := fun k => by omega
  rw [valR, if_pos hk]
  have e1 := fun bx R => ev_read id s ⟨m.bx ++ bx, R⟩ hl ht (by simp [at_lt, hid, hg])
  simp [set_lt, hid] at e1
  rw [evCall_body C0 (C0_ext _ (by decide)) (by rw [C0_P]; exact Tryz.func80) rfl (by rw [C0_ann]; rfl) (by decide) (by simp [Tryz.f80])]
  rcases hk with h | h
  · simp [Tryz.f80, a80, reg80, loop80, draw80, dok80, hid, hidk, at_lt, set_lt, leave_set, leave_setb, h, e1]
  · simp [Tryz.f80, a80, reg80, loop80, draw80, dok80, hid, hidk, at_lt, set_lt, leave_set, leave_setb, h, e1]
set_option maxHeartbeats 8000000 in
theorem rvalue_prod {f : Fun} (hf : shapedF f = true) (hk : f.kind = 2) (hl2 : f.args.length = 2) (ih : ∀ g, g ∈ f.args → ROk id g (valR N g)) : ROk id f (valR (N + 1) f) := by
  intro s m ht hl hbx
  have hid : id < m.bx.length := (List.getElem?_eq_some_iff.1 hbx).1
  have hg : m.bx[id] = rd s := (List.getElem?_eq_some_iff.1 hbx).2
  have hset : m.bx.set id (rd s) = m.bx := by rw [← hg]; exact List.set_getElem_self hid
  have hidk : ∀ k, id < m.bx.length + k := fun k => by omega
  have f0 : 0 < f.args.length := by omega
  have f1 : 1 < f.args.length := by omega
  have b1 := Fun.at_cellsL f.args 0 f0
  have b2 := Fun.at_cellsL f.args 1 f1
  simp at b1 b2
  have g0 : f.args.getD 0 fun0 = f.args[0] := by rw [List.getD_eq_getElem?_getD, List.getElem?_eq_getElem f0]; rfl
  have g1 : f.args.getD 1 fun0 = f.args[1] := by rw [List.getD_eq_getElem?_getD, List.getElem?_eq_getElem f1]; rfl
  rw [valR, if_neg (by omega), if_pos hk, g0, g1]
  have i0 := ih f.args[0] (List.getElem_mem f0)
  have i1 := ih f.args[1] (List.getElem_mem f1)
  have v0 := valR_suffix N f.args[0]
  have v1 := valR_suffix N f.args[1]
  generalize valR N f.args[0] = r0 at *
  generalize valR N f.args[1] = r1 at *
  unfold prodR
  have p1 := takeR_suffix [40] s
  have e1 := take_at hid [40] hl
  rw [hset] at e1
  have q1 := p1.length_le
  have k1 := ht.suffix p1
  generalize takeR [40] s = s1 at *
  have e2 := val_at hid i0 k1 (by omega)
  have p2 := v0 s1
  have q2 := p2.length_le
  have k2 := k1.suffix p2
  generalize (r0 s1).1 = x at *
  generalize (r0 s1).2 = s2 at *
  have e3 := take_at hid [44] (s := s2) (by omega)
  have p3 := takeR_suffix [44] s2
  have q3 := p3.length_le
  have k3 := k2.suffix p3
  generalize takeR [44] s2 = s3 at *
  have e4 := val_at hid i1 k3 (by omega)
  have p4 := v1 s3
  have q4 := p4.length_le
  have k4 := k3.suffix p4
  generalize (r1 s3).1 = y at *
  generalize (r1 s3).2 = s4 at *
  have e5 := take_at hid [41] (s := s4) (by omega)
  generalize takeR [41] s4 = s5 at *
  simp at e2 e4
  rw [evCall_body C0 (C0_ext _ (by decide)) (by rw [C0_P]; exact Tryz.func80) rfl (by rw [C0_ann]; rfl) (by decide) (by simp [Tryz.f80])]
  simp [Tryz.f80, a80, reg80, loop80, draw80, dok80, hid, hidk, at_lt, set_lt, leave_set, leave_setb, hk, hl2, b1, b2, e1, e2, e3, e4, e5, Val.cellsL]
set_option maxHeartbeats 8000000 in
theorem rvalue_sum {f : Fun} (hf : shapedF f = true) (hk : f.kind = 3) (hl2 : f.args.length = 2) (ih : ∀ g, g ∈ f.args → ROk id g (valR N g)) : ROk id f (valR (N + 1) f) := by
  intro s m ht hl hbx
  have hid : id < m.bx.length := (List.getElem?_eq_some_iff.1 hbx).1
  have hg : m.bx[id] = rd s := (List.getElem?_eq_some_iff.1 hbx).2
  have hset : m.bx.set id (rd s) = m.bx := by rw [← hg]; exact List.set_getElem_self hid
  have hidk : ∀ k, id < m.bx.length + k := fun k => by omega
  have f0 : 0 < f.args.length := by omega
  have f1 : 1 < f.args.length := by omega
  have b1 := Fun.at_cellsL f.args 0 f0
  have b2 := Fun.at_cellsL f.args 1 f1
  simp at b1 b2
  have g0 : f.args.getD 0 fun0 = f.args[0] := by rw [List.getD_eq_getElem?_getD, List.getElem?_eq_getElem f0]; rfl
  have g1 : f.args.getD 1 fun0 = f.args[1] := by rw [List.getD_eq_getElem?_getD, List.getElem?_eq_getElem f1]; rfl
  rw [valR, if_neg (by omega), if_neg (by omega), if_pos hk, g0, g1]
  have i0 := ih f.args[0] (List.getElem_mem f0)
  have i1 := ih f.args[1] (List.getElem_mem f1)
  generalize valR N f.args[0] = r0 at *
  generalize valR N f.args[1] = r1 at *
  unfold sumR
  have e1 := sees_at hid [114] hl
  rw [hset] at e1
  have w2 : IntKind.i64.wrap 2 = 2 := by decide
  rw [evCall_body C0 (C0_ext _ (by decide)) (by rw [C0_P]; exact Tryz.func80) rfl (by rw [C0_ann]; rfl) (by decide) (by simp [Tryz.f80])]
  by_cases h1 : s.1.head? = some [114]
  · rw [if_pos h1]
    simp [h1] at e1
    have p2 := takeR_suffix [114] s
    have e2 := take_at hid [114] hl
    rw [hset] at e2
    have q2 := p2.length_le
    have k2 := ht.suffix p2
    generalize takeR [114] s = s1 at *
    obtain ⟨l1, b⟩ := s1
    cases b with
    | true =>
      simp at e2
      simp [Tryz.f80, a80, reg80, loop80, draw80, dok80, hid, hidk, at_lt, set_lt, leave_set, leave_setb, hk, hl2, b1, b2, e1, e2, w2, Val.cellsL]
    | false =>
      have e3 := val_at hid i1 k2 (by omega)
      generalize (r1 (l1, false)).1 = x at *
      generalize (r1 (l1, false)).2 = s2 at *
      simp at e2 e3
      simp [Tryz.f80, a80, reg80, loop80, draw80, dok80, hid, hidk, at_lt, set_lt, leave_set, leave_setb, hk, hl2, b1, b2, e1, e2, e3, w2, Val.cellsL]
  · rw [if_neg h1]
    simp [h1] at e1
    have p2 := takeR_suffix [108] s
    have e2 := take_at hid [108] hl
    rw [hset] at e2
    have q2 := p2.length_le
    have k2 := ht.suffix p2
    generalize takeR [108] s = s1 at *
    obtain ⟨l1, b⟩ := s1
    cases b with
    | true =>
      simp at e2
      simp [Tryz.f80, a80, reg80, loop80, draw80, dok80, hid, hidk, at_lt, set_lt, leave_set, leave_setb, hk, hl2, b1, b2, e1, e2, w2, Val.cellsL]
    | false =>
      have e3 := val_at hid i0 k2 (by omega)
      generalize (r0 (l1, false)).1 = x at *
      generalize (r0 (l1, false)).2 = s2 at *
      simp at e2 e3
      simp [Tryz.f80, a80, reg80, loop80, draw80, dok80, hid, hidk, at_lt, set_lt, leave_set, leave_setb, hk, hl2, b1, b2, e1, e2, e3, w2, Val.cellsL]
set_option maxHeartbeats 8000000 in
theorem rvalue_set {f : Fun} (hf : shapedF f = true) (hk : 5 ≤ f.kind) (hl2 : f.args.length = 1) (ih : ∀ g, g ∈ f.args → ROk id g (valR N g)) : ROk id f (valR (N + 1) f) := by
  intro s m ht hl hbx
  have hid : id < m.bx.length := (List.getElem?_eq_some_iff.1 hbx).1
  have hg : m.bx[id] = rd s := (List.getElem?_eq_some_iff.1 hbx).2
  have hset : m.bx.set id (rd s) = m.bx := by rw [← hg]; exact List.set_getElem_self hid
  have hidk : ∀ k, id < m.bx.length + k := fun k => by omega
  have f0 : 0 < f.args.length := by omega
  have g0 : f.args.getD 0 fun0 = f.args[0] := by rw [List.getD_eq_getElem?_getD, List.getElem?_eq_getElem f0]; rfl
  have n4 : ¬ f.kind = 0 ∧ ¬ f.kind = 1 ∧ ¬ f.kind = 2 ∧ ¬ f.kind = 3 ∧ ¬ f.kind = 4 := by omega
  have hwk : wtd f.kind = decide (6 ≤ f.kind) := by
    have := shaped_kind hf
    unfold wtd
    rw [Bool.eq_iff_iff]
    simp
    omega
  rw [valR, if_neg (by omega), if_neg (by omega), if_neg (by omega), if_neg (by omega), g0]
  have i0 := ih f.args[0] (List.getElem_mem f0)
  have v0 := valR_suffix N f.args[0]
  generalize valR N f.args[0] = r0 at *
  generalize decide (6 ≤ f.kind) = w at *
  have e1 := ev_relems id (m.bx.length + 2) (by omega) f hl2 r0 v0 f0 i0 w hwk s ht hl (m.bx ++ [f.cells, [.int .i64 0, .nils, .nils], [.int .i64 0, .nils, .nils]]) m.rw (by simp; omega) (by simp)
  have hy := setR_mk r0 w s
  generalize (setR r0 w s).1 = y at *
  generalize (setR r0 w s).2 = s2 at *
  obtain ⟨hy0, hyf, hyt⟩ := hy
  have e1' : ∀ z : List (List A), ((m.bx ++ z).set id (rd s)) = m.bx ++ z := fun z => by rw [set_lt _ _ hid, hset]
  rw [e1'] at e1
  simp [set_lt, hid, hl2] at e1
  rw [evCall_body C0 (C0_ext _ (by decide)) (by rw [C0_P]; exact Tryz.func80) rfl (by rw [C0_ann]; rfl) (by decide) (by simp [Tryz.f80])]
  have hyc : y = .mk 0 y.args y.ws := by rw [← hy0]; exact y.eta
  cases ha : y.args with
  | nil =>
    have hw0 : y.ws = [] := by
      cases w
      · exact hyf rfl
      · exact List.eq_nil_of_length_eq_zero (by rw [hyt rfl, ha]; rfl)
    rw [ha, hw0] at hyc
    simp [ha, xA, lvW, lvR] at e1
    rw [hyc]
    simp [Tryz.f80, a80, reg80, loop80, draw80, dok80, hid, hidk, at_lt, set_lt, leave_set, leave_setb, n4, hl2, e1]
  | cons b r =>
    have hall : List.take ((r.length + 1) * 3) (Val.cellsL (b :: r)) = Val.cellsL (b :: r) := List.take_of_length_le (by simp)
    cases w with
    | false =>
      rw [ha, hyf rfl] at hyc
      simp [ha, xA, lvW, lvR] at e1
      rw [hyc]
      simp [Tryz.f80, a80, reg80, loop80, draw80, dok80, hid, hidk, at_lt, set_lt, app_at, app_set, app_at0, app_set0, leave_set, leave_setb, n4, hl2, e1, hall]
    | true =>
      have hwl := hyt rfl
      rw [ha] at hyc hwl
      have hallw : List.take y.ws.length (ints y.ws) = ints y.ws := take_ints y.ws
      simp [ha, xA, lvW, lvR] at e1
      generalize y.ws = u at *
      rw [hyc]
      simp [Tryz.f80, a80, reg80, loop80, draw80, dok80, hid, hidk, at_lt, set_lt, app_at, app_set, app_at0, app_set0, leave_set, leave_setb, n4, hl2, e1, hall]
set_option maxHeartbeats 8000000 in
theorem rvalue_exp {f : Fun} (hf : shapedF f = true) (hk : f.kind = 4) (hl2 : f.args.length = 1) (ih : ∀ g, g ∈ f.args → ROk id g (valR N g)) : ROk id f (valR (N + 1) f) := by
  intro s m ht hl hbx
  have hid : id < m.bx.length := (List.getElem?_eq_some_iff.1 hbx).1
  have hg : m.bx[id] = rd s := (List.getElem?_eq_some_iff.1 hbx).2
  have hset : m.bx.set id (rd s) = m.bx := by rw [← hg]; exact List.set_getElem_self hid
  have hidk : ∀ k, id < m.bx.length + k := fun k => by omega
  have f0 : 0 < f.args.length := by omega
  have b1 := Fun.at_cellsL f.args 0 f0
  simp at b1
  have g0 : f.args.getD 0 fun0 = f.args[0] := by rw [List.getD_eq_getElem?_getD, List.getElem?_eq_getElem f0]; rfl
  have hnum := (shaped_num hf).2.2.1 hk
  obtain ⟨K, hK⟩ : ∃ K : Nat, f.num = K := ⟨f.num.toNat, by omega⟩
  rw [valR, if_neg (by omega), if_neg (by omega), if_neg (by omega), if_pos hk, g0, hK, Int.toNat_natCast]
  have i0 := ih f.args[0] (List.getElem_mem f0)
  have v0 := valR_suffix N f.args[0]
  generalize valR N f.args[0] = r0 at *
  have p1 := takeR_suffix [91] s
  have e1 := take_at hid [91] hl
  rw [hset] at e1
  have q1 := p1.length_le
  have k1 := ht.suffix p1
  generalize takeR [91] s = s1 at *
  rw [evCall_body C0 (C0_ext _ (by decide)) (by rw [C0_P]; exact Tryz.func80) rfl (by rw [C0_ann]; rfl) (by decide) (by simp [Tryz.f80])]
  simp [Tryz.f80, a80, reg80, loop80, draw80, dok80, hid, hidk, at_lt, set_lt, hk, hK, hl2, e1]
  rw [loop_mp (fun x : List Val × RS => ⟨[(1, .ptr id 0), (2, .ptr m.bx.length 0), (4, .ptr (m.bx.length + 1) 0), (5, .ptr (m.bx.length + 2) 0), (7, .int .i64 x.1.length)], ⟨m.bx.set id (rd x.2) ++ [f.cells, [.int .i64 0, .nils, .nils], [.int .i64 0, xA m.rw.length x.1, .nils]], m.rw ++ xR x.1⟩⟩)
    (fun x => some (.normal, ⟨[(1, .ptr id 0), (2, .ptr m.bx.length 0), (4, .ptr (m.bx.length + 1) 0), (5, .ptr (m.bx.length + 2) 0), (7, .int .i64 (expR r0 (K - x.1.length) x.1 x.2).1.args.length), (84, .bool false)], ⟨m.bx.set id (rd (expR r0 (K - x.1.length) x.1 x.2).2) ++ [f.cells, [.int .i64 0, .nils, .nils], [.int .i64 0, xA m.rw.length (expR r0 (K - x.1.length) x.1 x.2).1.args, .nils]], m.rw ++ xR (expR r0 (K - x.1.length) x.1 x.2).1.args⟩⟩))
    (fun x => K - x.1.length) (fun x => TkOk x.2.1 ∧ x.2.1.length ≤ 1000000 ∧ x.1.length ≤ K) ([], s1) ?_ rfl ?_ ?_ ?_]
  · have hm := expR_mk r0 (K - 0) [] s1
    have p2 := expR_suffix v0 (K - 0) [] s1
    have q2 := p2.length_le
    have e9 := take_at hid [93] (s := (expR r0 (K - 0) [] s1).2) (by omega)
    simp only [List.length_nil, Nat.sub_zero] at hm e9 ⊢
    generalize (expR r0 K [] s1).1 = y at *
    generalize (expR r0 K [] s1).2 = s2 at *
    cases ha : y.args with
    | nil =>
      rw [ha] at hm
      rw [hm]
      simp [Tryz.f80, a80, reg80, loop80, draw80, dok80, hid, hidk, at_lt, set_lt, leave_set, leave_setb, hk, hK, hl2, e9, xA, xR]
    | cons b r =>
      have hall : List.take ((r.length + 1) * 3) (Val.cellsL (b :: r)) = Val.cellsL (b :: r) := List.take_of_length_le (by simp)
      rw [ha] at hm
      rw [hm]
      simp [Tryz.f80, a80, reg80, loop80, draw80, dok80, hid, hidk, at_lt, set_lt, app_at, app_set, app_at0, app_set0, leave_set, leave_setb, hk, hK, hl2, e9, xA, xR, hall]
  · simp [Tryz.f80, a80, reg80, loop80, draw80, dok80, xA, xR, hk, hK, hl2]
  · exact ⟨k1, by simp only; omega, by simp⟩
  · intro x; simp [Tryz.f80, a80, reg80, loop80, draw80, dok80]
  · rintro ⟨a, t⟩ ⟨hta, htl, hak⟩ hrec
    simp only at hta htl hak ⊢
    obtain ⟨tl, tb⟩ := t
    by_cases hgo : a.length < K ∧ tb = false
    case neg =>
      clear hrec
      have ho : expR r0 (K - a.length) a (tl, tb) = (.mk 0 a [], (tl, tb)) := by
        cases htb : tb with
        | true => exact expR_stick _ _ rfl
        | false =>
          have : K - a.length = 0 := by
            have h9 : ¬ a.length < K := fun h => hgo ⟨h, htb⟩
            omega
          rw [this]
          rfl
      rw [ho]
      by_cases h1 : a.length < K
      · have htb : tb = true := by
          cases h : tb
          · exact absurd ⟨h1, h⟩ hgo
          · rfl
        subst htb
        simp [round, Tryz.f80, a80, reg80, loop80, draw80, dok80, hid, hidk, at_lt, set_lt, hk, hK, hl2, h1]
      · simp [round, Tryz.f80, a80, reg80, loop80, draw80, dok80, hid, hidk, at_lt, set_lt, hk, hK, hl2, h1]
    case pos =>
      obtain ⟨h1, rfl⟩ := hgo
      have w2 : IntKind.i64.wrap (a.length + 1) = a.length + 1 := wrap_id _ (by omega)
      obtain ⟨j, hj⟩ : ∃ j, K - a.length = j + 1 := ⟨K - a.length - 1, by omega⟩
      rw [hj, expR, if_neg (by simp)]
      have hjj : K - (a.length + 1) = j := by omega
      cases a with
      | nil =>
        simp at h1 hjj
        simp only [List.length_nil, if_true]
        have e2 := val_at hid i0 (s := (tl, false)) hta htl
        have q2 := (v0 (tl, false)).length_le
        have k2 : TkOk (r0 (tl, false)).2.1 := hta.suffix (v0 (tl, false))
        generalize (r0 (tl, false)).1 = x at *
        generalize (r0 (tl, false)).2 = u at *
        simp only at q2 htl
        simp at e2
        simp [round, Tryz.f80, a80, reg80, loop80, draw80, dok80, hid, hidk, at_lt, set_lt, app_at, app_set, app_at0, app_set0, hk, hK, hl2, h1, b1, e2, xA, xR, endRound_SJ, endRound_SJ0]
        refine hrec ([x], u) _ _ ?_ ?_ ?_ ?_
        · simp; omega
        · exact ⟨k2, by simp only; omega, by simp; omega⟩
        · simp [xA, xR, Val.cellsL, hk, hK, hl2]
        · simp [hjj, xA, xR, hk, hK, hl2]
      | cons b r =>
        simp at h1 hjj w2
        have hsz : (r.length + 1 + 1) * 56 ≤ 70368744177664 ∧ r.length + 1 + 1 ≤ 70368744177664 := by omega
        have hi1 : (0 : Int) ≤ (r.length : Int) + 1 := by omega
        have hi2 : (r.length : Int) < (r.length : Int) + 1 := by omega
        have hi3 : (r.length + 1) * 3 + 3 = (r.length + 1 + 1) * 3 := by omega
        have ht1 : ∀ l : List A, List.take ((r.length + 1) * 3) (Val.cellsL (b :: r) ++ l) = Val.cellsL (b :: r) := fun l => List.take_left' (by simp)
        have hd1 : ∀ c1 c2 c3 : A, List.drop ((r.length + 1) * 3 + 3) (Val.cellsL (b :: r) ++ [c1, c2, c3]) = [] := fun c1 c2 c3 => List.drop_eq_nil_of_le (by simp)
        have hd2 : ∀ c1 c2 c3 : A, List.drop ((r.length + 1 + 1) * 3) (Val.cellsL (b :: r) ++ [c1, c2, c3]) = [] := fun c1 c2 c3 => List.drop_eq_nil_of_le (by simp; omega)
        have hall : List.take ((r.length + 1) * 3) (Val.cellsL (b :: r)) = Val.cellsL (b :: r) := List.take_of_length_le (by simp)
        have hr0 : (0 : Int) < (r.length : Int) + 1 := by omega
        have h1' : (r.length : Int) + 1 < K := by omega
        have e4 := take_at hid [44] (s := (tl, false)) htl
        have p4 := takeR_suffix [44] (tl, false)
        have q4 := p4.length_le
        have k4 := hta.suffix p4
        simp only [List.length_cons, Nat.succ_ne_zero, if_false, Nat.add_eq_zero_iff, reduceCtorEq, and_false]
        generalize takeR [44] (tl, false) = u4 at *
        simp only at q4 htl
        have e2 := val_at hid i0 (s := u4) k4 (by omega)
        have q2 := (v0 u4).length_le
        have k2 : TkOk (r0 u4).2.1 := k4.suffix (v0 u4)
        generalize (r0 u4).1 = x at *
        generalize (r0 u4).2 = u at *
        simp at e2 e4
        simp [round, Tryz.f80, a80, reg80, loop80, draw80, dok80, hid, hidk, at_lt, set_lt, app_at, app_set, app_at0, app_set0, hk, hK, hl2, h1, h1', hr0, hi1, hi2, hi3, ht1, hd1, hd2, hall, w2, hsz, b1, e2, e4, xA, xR, endRound_SJ, endRound_SJ0]
        refine hrec (b :: r ++ [x], u) _ _ ?_ ?_ ?_ ?_
        · simp; omega
        · exact ⟨k2, by simp only; omega, by simp; omega⟩
        · simp [xA, xR, Val.cellsL, Val.cellsL_append, hk, hK, hl2]
        · simp [hjj, xA, xR, hk, hK, hl2]
end
theorem ev_rvalue (id : Nat) : ∀ (N : Nat) (f : Fun), f.nodes ≤ N → shapedF f = true → ROk id f (valR N f) := by
  intro N
  induction N with
  | zero => intro f hN; have := f.nodes_pos; omega
  | succ N ih =>
  intro f hN hf
  have H : ∀ g, g ∈ f.args → ROk id g (valR N g) := fun g hg => by
    obtain ⟨i, hi, rfl⟩ := List.getElem_of_mem hg
    exact ih _ (by have := Fun.nodes_arg hg; omega) (shaped_arg hf hi)
  rcases shaped_kind hf with ⟨h, hl⟩ | ⟨h, hl⟩ | ⟨h, hl⟩ | ⟨h, hl⟩ | ⟨h, hl⟩ | ⟨h, hl⟩ | ⟨h, hl⟩ | ⟨h, hl⟩
  · exact rvalue_leaf (.inl h)
  · exact rvalue_leaf (.inr h)
  · exact rvalue_prod hf h hl H
  · exact rvalue_sum hf h hl H
  · exact rvalue_exp hf h hl H
  · exact rvalue_set hf (by omega) hl H
  · exact rvalue_set hf (by omega) hl H
  · exact rvalue_set hf (by omega) hl H
theorem setCells_strs {l : List (List UInt8)} {i : Nat} (h : i < l.length) (x : List UInt8) : setCells (strs l) i [.str x] = strs (l.set i x) := by
  unfold setCells strs
  rw [List.set_eq_take_append_cons_drop, if_pos h]
  simp [List.map_take, List.map_drop]
theorem endRound_SR {l : List Nat} {B L L' : List (List A)} {R : List Row} {id : Nat} {r r' : Row} {tm : List (Nat × A)} (hr : r'.cs.all (closed 0 0) = true) (hL : L.length ≤ L'.length) (hl : l.all (fun t => closed (B.length + L.length) R.length (lk t tm)) = true) (hc : (L'.take L.length).all (fun cs => cs.all (closed (B.length + L.length) R.length)) = true) :
    endRound (some l) ⟨B ++ L, R.set id r⟩ ⟨tm, ⟨B ++ L', R.set id r'⟩⟩ = some ⟨prune (some l) tm, ⟨B ++ L'.take L.length, R.set id r'⟩⟩ := by
  refine endRound_eq (B := B ++ L'.take L.length) (J := L'.drop L.length) (by simp) (by simp; omega) (by simpa using List.all_eq_true.1 hl) (fun j hj => ?_) (fun j hj => ?_)
  · simp only [List.length_append] at hj ⊢
    by_cases h : j < B.length
    · left; rw [List.getElem?_append_left h, List.getElem?_append_left h]
    · right
      have := all_take (B := B) hc (by simpa using h) (by simpa using hj) hL
      simpa using this
  · simp only [List.length_set] at hj
    by_cases h : id = j
    · subst h
      right
      exact ⟨r', by simp [hj], closed_up hr⟩
    · left
      simp [h]
theorem keep_row {bx b : List (List A)} {R : List Row} {id : Nat} {r' : Row} {t : List UInt8} (hr : r'.cs.all (closed 0 0) = true) :
    leave Tryz.prog true ⟨bx, R⟩ (.ret (.str t)) ⟨bx ++ b, R.set id r'⟩ = some (.ret (.str t), ⟨bx, R.set id r'⟩) := by
  refine leave_keep0 _ ⟨bx, R⟩ b (R.set id r') _ (fun j hj => ?_) (by simp [Res.val])
  simp only [List.length_set] at hj
  by_cases h : id = j
  · subst h
    right
    exact ⟨r', by simp [hj], closed_up hr⟩
  · left
    simp [h]
theorem keep_same {bx b : List (List A)} {R : List Row} {t : List UInt8} :
    leave Tryz.prog true ⟨bx, R⟩ (.ret (.str t)) ⟨bx ++ b, R⟩ = some (.ret (.str t), ⟨bx, R⟩) :=
  leave_keep0 _ ⟨bx, R⟩ b R _ (RowsOk.refl _ _) (by simp [Res.val])
theorem keep_m {m : Mem} {b : List (List A)} {t : List UInt8} : leave Tryz.prog true m (.ret (.str t)) ⟨m.bx ++ b, m.rw⟩ = some (.ret (.str t), m) := keep_same (bx := m.bx) (R := m.rw)
theorem weigh_steps (kind : Int) (ts : List (List UInt8)) (ws : List Int) (hw : wtd kind = false → ws = []) (hw1 : wtd kind = true → ws.length = ts.length) (h5 : 5 ≤ kind) (h7 : kind ≤ 7) : ∃ D : Nat → List (List UInt8), D 0 = ts ∧ D ws.length = elemsT kind ts ws ∧ (∀ i, i ≤ ws.length → (D i).length = ts.length) ∧
    ∀ (i : Nat) (h : i < ws.length), ∃ h' : i < ts.length, ((strs (D i)).drop i).take 1 = [.str ts[i]] ∧ setCells (strs (D i)) i [.str (ts[i] ++ ([32, 58, 32] ++ Lib.itoa ws[i]))] = strs (D (i + 1)) := by
  cases hk : wtd kind with
  | false =>
    have hk5 : ¬ 6 ≤ kind := fun h => by unfold wtd at hk; simp at hk; omega
    rw [hw hk]
    refine ⟨fun _ => ts, rfl, ?_, fun _ _ => rfl, fun i h => by simp at h⟩
    unfold elemsT
    rw [if_neg hk5]
  | true =>
    have hk6 : 6 ≤ kind := by unfold wtd at hk; simp at hk; omega
    have hl := hw1 hk
    have hwl := wtx_length ts ws
    refine ⟨fun i => (wtx ts ws).take i ++ ts.drop i, by simp, ?_, fun i h => by simp; omega, fun i h => ⟨by omega, ?_⟩⟩
    · unfold elemsT
      dsimp only
      rw [if_pos hk6, List.take_of_length_le (by omega), List.drop_eq_nil_of_le (by omega), List.append_nil]
    · have hi : i < ((wtx ts ws).take i ++ ts.drop i).length := by simp; omega
      have hti : i < ts.length := by omega
      have hge : ((wtx ts ws).take i ++ ts.drop i)[i] = ts[i] := by
        rw [List.getElem_append_right (by simp; omega)]
        simp
        congr 1
        omega
      refine ⟨by rw [strs_at hi, hge], ?_⟩
      rw [setCells_strs hi]
      congr 1
      have hx := wtx_at ts ws i hti h
      dsimp only
      rw [List.take_succ_eq_append_getElem (by omega), hx, List.set_append_right _ _ (by simp; omega)]
      have h0 : i - ((wtx ts ws).take i).length = 0 := by simp; omega
      rw [h0, List.drop_eq_getElem_cons hti, List.set_cons_zero, List.append_assoc]
      rfl
set_option maxHeartbeats 4000000 in
theorem ev_AroundR (kind : Int) (v : Val) (ts : List (List UInt8)) (id : Nat) (bx : List (List A)) (R : List Row) (hR : R[id]? = some ⟨9, strs ts⟩) (ht0 : 0 < ts.length) (h2 : 2 ≤ kind) (h7 : kind ≤ 7) (h3 : kind = 3 → v.num = 0 ∨ v.num = 1) (hw : wtd kind = false → v.ws = []) (hw1 : wtd kind = true → v.ws.length = ts.length) (hwr : ∀ x, x ∈ v.ws → 0 ≤ x ∧ x < 10000000) (hs : sumL ts + 20 * ts.length ≤ 100000000) :
    ∃ r' : Row, r'.cs.all (closed 0 0) = true ∧ evCall C0 42 [.int .i64 kind, .agg v.cells, .sl id ts.length 0 ts.length] ⟨bx, R⟩ = some (.ret (.str (aroundV kind v.num ts v.ws)), ⟨bx, R.set id r'⟩) := by
  have hid : id < R.length := (List.getElem?_eq_some_iff.1 hR).1
  have hR2 := (List.getElem?_eq_some_iff.1 hR).2
  have hset : R.set id ⟨9, strs ts⟩ = R := by rw [← hR2]; exact List.set_getElem_self hid
  have hjl := joinC_len ts
  by_cases k5 : kind < 5
  · refine ⟨⟨9, strs ts⟩, by simp, ?_⟩
    rw [hset]
    have ej := fun b => ev_joined ts id (by omega) ⟨bx ++ b, R⟩ hR
    unfold aroundV
    rw [evCall_body C0 (C0_ext _ (by decide)) (by rw [C0_P]; exact Tryz.func42) rfl (by rw [C0_ann]; rfl) (by decide) (by simp [Tryz.f42])]
    by_cases k2 : kind = 2
    · rw [if_pos k2]
      subst k2
      simp [Tryz.f42, a42, reg42, loop42, draw42, dok42, ej, hid, keep_same]
      repeat (rw [if_pos (by omega)]; simp [Tryz.f42, a42, reg42, loop42, draw42, dok42, ej, hid, keep_same])
    by_cases k3 : kind = 3
    · rw [if_neg k2, if_pos k3]
      subst k3
      obtain ⟨t, tr, rfl⟩ : ∃ t tr, ts = t :: tr := by
        cases ts with
        | nil => simp at ht0
        | cons t tr => exact ⟨t, tr, rfl⟩
      have w2 : IntKind.i64.wrap 2 = 2 := by decide
      have hm := mem_sumL (l := t :: tr) List.mem_cons_self
      simp at hR2
      rcases h3 rfl with h | h
      · simp [Tryz.f42, a42, reg42, loop42, draw42, dok42, hid, hR2, h, keep_same, w2]
        repeat (rw [if_pos (by omega)]; simp [Tryz.f42, a42, reg42, loop42, draw42, dok42, hid, hR2, h, keep_same, w2])
      · simp [Tryz.f42, a42, reg42, loop42, draw42, dok42, hid, hR2, h, keep_same, w2]
        repeat (rw [if_pos (by omega)]; simp [Tryz.f42, a42, reg42, loop42, draw42, dok42, hid, hR2, h, keep_same, w2])
    have k4 : kind = 4 := by omega
    rw [if_neg k2, if_neg k3, if_pos k4]
    subst k4
    simp [Tryz.f42, a42, reg42, loop42, draw42, dok42, ej, hid, keep_same]
    repeat (rw [if_pos (by omega)]; simp [Tryz.f42, a42, reg42, loop42, draw42, dok42, ej, hid, keep_same])
  · have n4 : ¬ kind = 2 ∧ ¬ kind = 3 ∧ ¬ kind = 4 := by omega
    obtain ⟨D, hD0, hDn, hDl, hDs⟩ := weigh_steps kind ts v.ws hw hw1 (by omega) h7
    refine ⟨⟨9, strs (elemsT kind ts v.ws)⟩, by simp, ?_⟩
    have hel : (elemsT kind ts v.ws).length = ts.length := by rw [← hDn]; exact hDl _ (Nat.le_refl _)
    have hes : sumL (elemsT kind ts v.ws) ≤ sumL ts + 10 * ts.length := by
      unfold elemsT
      split
      · exact wtx_sum _ _ hwr
      · omega
    have hjl2 := joinC_len (elemsT kind ts v.ws)
    have ej := fun b => ev_joined (elemsT kind ts v.ws) id (by omega) ⟨bx ++ b, R.set id ⟨9, strs (elemsT kind ts v.ws)⟩⟩ (by simp [hid])
    rw [hel] at ej
    unfold aroundV
    rw [if_neg n4.1, if_neg n4.2.1, if_neg n4.2.2]
    rw [evCall_body C0 (C0_ext _ (by decide)) (by rw [C0_P]; exact Tryz.func42) rfl (by rw [C0_ann]; rfl) (by decide) (by simp [Tryz.f42])]
    simp [Tryz.f42, a42, reg42, loop42, draw42, dok42, n4]
    refine loop_in (fun i : Nat => ⟨[(2, .sl id ts.length 0 ts.length), (4, .ptr bx.length 0), (34, .int .i64 v.ws.length), (35, .int .i64 i)], ⟨bx ++ [v.cells], R.set id ⟨9, strs (D i)⟩⟩⟩)
      (fun i => some (.ret (.str (123 :: (joinC (elemsT kind ts v.ws) ++ [125]))), ⟨bx, R.set id ⟨9, strs (elemsT kind ts v.ws)⟩⟩)) (fun i => v.ws.length - i) (fun i => i ≤ v.ws.length) 0 ?_ ?_ ?_ ?_ ?_
    · simp [hD0, hset]
    · simp
    · simp
    · intro x; simp [Tryz.f42, a42, reg42, loop42, draw42, dok42]
    · intro i hi hrec
      by_cases hlt : i < v.ws.length
      · obtain ⟨hti, d1, d2⟩ := hDs i hlt
        have w2 : IntKind.i64.wrap (i + 1) = i + 1 := wrap_id _ (by omega)
        have hwx := hwr _ (List.getElem_mem hlt)
        have hat := ints_at hlt
        have hdg := ev_Digits v.ws[i] hwx.1 hwx.2
        have hdl := itoa_len hwx.1 hwx.2
        have hm := mem_sumL (List.getElem_mem hti)
        have hDi := hDl i (by omega)
        have hst := strs_length (D i)
        rw [hDi] at hst
        generalize strs (D i) = S at *
        generalize ts[i] = T at *
        generalize Lib.itoa v.ws[i] = W at *
        simp [setCells] at d2
        simp [round, Tryz.f42, a42, reg42, loop42, draw42, dok42, hlt, hti, w2, hid, hat, hdg, d1, d2, hst, show i + 1 ≤ ts.length by omega, show i + 1 ≤ v.ws.length by omega, endRound_SR]
        repeat (rw [if_pos (by omega)]; simp [round, Tryz.f42, a42, reg42, loop42, draw42, dok42, hlt, hti, w2, hid, hat, hdg, d1, d2, hst, show i + 1 ≤ ts.length by omega, show i + 1 ≤ v.ws.length by omega, endRound_SR])
        refine hrec (i + 1) _ _ ?_ ?_ ?_ ?_
        · omega
        · omega
        · simp
        · simp
      · clear hrec
        obtain rfl : i = v.ws.length := by omega
        rw [hDn]
        simp [round, Tryz.f42, a42, reg42, loop42, draw42, dok42, ej, keep_row]
        repeat (rw [if_pos (by omega)]; simp [round, Tryz.f42, a42, reg42, loop42, draw42, dok42, ej, keep_row])
theorem ev_AroundN (kind : Int) (n : Int) (hk : kind = 5 ∨ kind = 6) (m : Mem) : evCall C0 42 [.int .i64 kind, .agg (Val.mk n [] []).cells, .nils] m = some (.ret (.str [123, 125]), m) := by
  have ej := ev_joinedN
  rw [evCall_body C0 (C0_ext _ (by decide)) (by rw [C0_P]; exact Tryz.func42) rfl (by rw [C0_ann]; rfl) (by decide) (by simp [Tryz.f42])]
  have n4 : ¬ kind = 2 ∧ ¬ kind = 3 ∧ ¬ kind = 4 := by omega
  simp [Tryz.f42, a42, reg42, loop42, draw42, dok42, n4]
  rw [evCode_loop]
  simp [round, Tryz.f42, a42, reg42, loop42, draw42, dok42, ej, keep_m]
theorem map_id {n : Int} {v : Val} {f : Fun} (hf : shapedF f = true) (h : okV exN n v f = true) : mapV idV v f = v := by
  have h1 := norm_map n v f hf (ok_loose n v f h)
  rw [norm_id n v f h] at h1
  exact (Option.some.inj h1).symm
def fsum (F : Val → Bool) : List (Val × Int) → Int
  | [] => 0
  | p :: r => (if F p.1 then p.2 else 0) + fsum F r
theorem fsum_ins (F : Val → Bool) (a : Val) (w : Int) : ∀ o : List (Val × Int), fsum F (insP a w o) = fsum F o + (if F a then w else 0)
  | [] => by simp [insP, fsum]
  | x :: r => by
    rw [insP]
    split
    · rename_i h
      rw [cmpV_zero] at h
      subst h
      simp only [fsum]
      split <;> omega
    · split
      · simp only [fsum]; omega
      · simp only [fsum, fsum_ins F a w r]; omega
theorem fsum_merge (F : Val → Bool) : ∀ l o : List (Val × Int), fsum F (mergeF o l) = fsum F l + fsum F o
  | [], o => by simp [mergeF, fsum]
  | p :: r, o => by
    rw [show mergeF o (p :: r) = mergeF (insP p.1 p.2 o) r from rfl, fsum_merge F r, fsum_ins, fsum]
    omega
theorem wtP_map (φ : Val → Val) (u : Val) : ∀ l : List (Val × Int), wtP u (l.map fun p => (φ p.1, p.2)) = fsum (fun x => decide (cmpV (φ x) u = 0)) l
  | [] => rfl
  | p :: r => by
    rw [List.map_cons, wtP, fsum, wtP_map φ u r]
    simp
theorem merge_twice (φ : Val → Val) (l : List (Val × Int)) : mergeF [] ((mergeF [] l).map fun p => (φ p.1, p.2)) = mergeF [] (l.map fun p => (φ p.1, p.2)) :=
  lists_eq (mergeF_sorted _ _ List.Pairwise.nil) (mergeF_sorted _ _ List.Pairwise.nil)
    (fun v => by
      rw [mergeF_has, mergeF_has]
      simp only [List.not_mem_nil, false_and, exists_false, or_false, List.mem_map]
      constructor
      · rintro ⟨_, ⟨p, hp, rfl⟩, rfl⟩
        obtain ⟨q, hq, he⟩ := (mergeF_has p.1 l []).1 ⟨p, hp, rfl⟩ |>.resolve_right (by rintro ⟨_, h, _⟩; cases h)
        exact ⟨_, ⟨q, hq, rfl⟩, by simp only [he]⟩
      · rintro ⟨_, ⟨p, hp, rfl⟩, rfl⟩
        obtain ⟨q, hq, he⟩ := (mergeF_has p.1 l []).2 (.inl ⟨p, hp, rfl⟩)
        exact ⟨_, ⟨q, hq, rfl⟩, by simp only [he]⟩)
    (fun v => by
      rw [wtP_merge, wtP_merge, wtP_map, wtP_map, fsum_merge]
      simp [fsum, wtP])
theorem ins_scale (g : Int) (u : Val) (w : Int) : ∀ o : List (Val × Int), insP u (g * w) (o.map fun p => (p.1, g * p.2)) = (insP u w o).map fun p => (p.1, g * p.2)
  | [] => by simp [insP]
  | x :: r => by
    rw [List.map_cons, insP, insP]
    simp only
    split
    · simp [Int.mul_add]
    · split
      · simp
      · rw [ins_scale g u w r]; simp
theorem merge_scale (g : Int) : ∀ l o : List (Val × Int), mergeF (o.map fun p => (p.1, g * p.2)) (l.map fun p => (p.1, g * p.2)) = (mergeF o l).map fun p => (p.1, g * p.2)
  | [], o => rfl
  | p :: r, o => by
    rw [List.map_cons, show mergeF o (p :: r) = mergeF (insP p.1 p.2 o) r from rfl, ← merge_scale g r]
    show mergeF (insP p.1 (g * p.2) (o.map fun p => (p.1, g * p.2))) _ = _
    rw [ins_scale]
theorem gcd_scale (g : Nat) : ∀ (l : List Int) (a : Nat), gcdF (g * a) (l.map fun w => (g : Int) * w) = g * gcdF a l
  | [], a => rfl
  | w :: r, a => by
    have : ((g : Int) * w).natAbs = g * w.natAbs := by rw [Int.natAbs_mul]; rfl
    show gcdF (Nat.gcd (g * a) ((g : Int) * w).natAbs) _ = g * gcdF (Nat.gcd a w.natAbs) r
    rw [this, Nat.gcd_mul_left, gcd_scale g r]
theorem div_scale {g : Nat} (hg : 0 < g) (l : List Int) : divG (l.map fun w => (g : Int) * w) = divG l := by
  unfold divG
  rw [List.map_map]
  have h : gcdN (l.map fun w => (g : Int) * w) = g * gcdN l := by
    have := gcd_scale g l 0
    rwa [Nat.mul_zero] at this
  rw [h]
  apply List.map_congr_left
  intro w _
  show ((g : Int) * w).tdiv ((g * gcdN l : Nat) : Int) = _
  rw [Int.natCast_mul]
  exact Int.mul_tdiv_mul_of_pos _ _ (by omega)
theorem zip_map_fst (φ : Val → Val) : ∀ (xs : List Val) (w : List Int), (xs.map φ).zip w = (xs.zip w).map fun p => (φ p.1, p.2)
  | [], w => by simp
  | x :: r, [] => by simp
  | x :: r, k :: q => by simp [zip_map_fst φ r q]
theorem zip_fst_snd : ∀ l : List (Val × Int), (l.map (·.1)).zip (l.map (·.2)) = l
  | [] => rfl
  | p :: r => by simp [zip_fst_snd r]
theorem wsOf_map (φ : Val → Val) (kind : Int) (xs : List Val) (w : List Int) : wsOf kind (xs.map φ) w = wsOf kind xs w := by
  unfold wsOf
  split
  · rfl
  · simp
theorem merge_map (φ : Val → Val) {kind : Int} {xs : List Val} {w : List Int} (hk : setsK kind = true) (hw : wtd kind = true → w.length = xs.length ∧ ∀ x, x ∈ w → 1 ≤ x) (h7 : kind = 7 → 0 < xs.length) :
    mergeV kind 0 ((mergeV kind 0 xs w).args.map φ) (mergeV kind 0 xs w).ws = mergeV kind 0 (xs.map φ) w := by
  have hR : mergeP kind (xs.map φ) w = mergeF [] ((mergeP kind xs w).map fun p => (φ p.1, p.2)) := by
    unfold mergeP
    rw [wsOf_map, zip_map_fst, merge_twice]
  have hwl : wtd kind = true → (xs.zip (wsOf kind xs w)).map (·.2) = w := fun h => by
    have : wsOf kind xs w = w := by unfold wsOf; rw [if_pos h]
    rw [this]
    exact zip_snd_map (hw h).1
  have hpos : wtd kind = true → ∀ p, p ∈ mergeP kind xs w → 1 ≤ p.2 := fun h => mergeF_pos _ _ (fun p hp => (hw h).2 _ (by rw [← hwl h]; exact List.mem_map_of_mem hp)) (fun p hp => by cases hp)
  cases hwt : wtd kind
  · have h5 : kind = 5 := by unfold setsK at hk; rw [hwt, Bool.or_false] at hk; simpa using hk
    have hz : ∀ p, p ∈ mergeP kind xs w → p.2 = 0 := fun p hp => by
      have h0 : ∀ l o : List (Val × Int), (∀ p, p ∈ l → p.2 = 0) → (∀ p, p ∈ o → p.2 = 0) → ∀ p, p ∈ mergeF o l → p.2 = 0 := by
        have hi : ∀ (u : Val) (o : List (Val × Int)), (∀ p, p ∈ o → p.2 = 0) → ∀ p, p ∈ insP u 0 o → p.2 = 0 := by
          intro u o
          induction o with
          | nil => intro _ p hp; rw [insP, List.mem_singleton] at hp; rw [hp]
          | cons x r ih =>
            intro ho p hp
            rw [insP] at hp
            split at hp
            · rcases List.mem_cons.1 hp with rfl | hp
              · have := ho x List.mem_cons_self; simp [this]
              · exact ho p (List.mem_cons_of_mem _ hp)
            · split at hp
              · rcases List.mem_cons.1 hp with rfl | hp
                · rfl
                · exact ho p hp
              · rcases List.mem_cons.1 hp with rfl | hp
                · exact ho _ List.mem_cons_self
                · exact ih (fun q hq => ho q (List.mem_cons_of_mem _ hq)) p hp
        intro l
        induction l with
        | nil => intro o _ ho p hp; exact ho p hp
        | cons x r ih =>
          intro o hl ho p hp
          have hx := hl x List.mem_cons_self
          refine ih (insP x.1 x.2 o) (fun q hq => hl q (List.mem_cons_of_mem _ hq)) ?_ p hp
          rw [hx]
          exact hi x.1 o ho
      refine h0 _ _ (fun q hq => ?_) (fun q hq => by cases hq) p hp
      have := (zip_fst hq).2
      unfold wsOf at this
      rw [hwt] at this
      simp at this
      exact this.2.symm
    have hL : mergeP kind ((mergeV kind 0 xs w).args.map φ) (mergeV kind 0 xs w).ws = mergeF [] ((mergeP kind xs w).map fun p => (φ p.1, p.2)) := by
      show mergeF [] ((((mergeP kind xs w).map (·.1)).map φ).zip (wsOf kind (((mergeP kind xs w).map (·.1)).map φ) _)) = _
      rw [wsOf_map, zip_map_fst]
      congr 2
      have : ∀ (q : List Int), wsOf kind ((mergeP kind xs w).map (·.1)) q = (mergeP kind xs w).map (·.2) := fun q => by
        unfold wsOf
        rw [hwt]
        simp only [Bool.false_eq_true, if_false, List.map_map]
        apply List.map_congr_left
        intro p hp
        rw [hz p hp]
        rfl
      rw [this, zip_fst_snd]
    show Val.mk 0 ((mergeP kind ((mergeV kind 0 xs w).args.map φ) (mergeV kind 0 xs w).ws).map (·.1)) _ = Val.mk 0 ((mergeP kind (xs.map φ) w).map (·.1)) _
    rw [hL, ← hR]
  · by_cases h7' : kind = 7
    · have hg : 0 < gcdN ((mergeP kind xs w).map (·.2)) := by
        refine gcdN_pos (fun h => ?_) fun x hx => by
          obtain ⟨p, hp, rfl⟩ := List.mem_map.1 hx
          exact hpos hwt p hp
        have h1 := h7 h7'
        have h2 : mergeP kind xs w ≠ [] := mergeF_ne _ _ (.inr fun h => by
          have := congrArg List.length h
          rw [List.length_zip] at this
          have hws : wsOf kind xs w = w := by unfold wsOf; rw [if_pos hwt]
          rw [hws, (hw hwt).1] at this
          simp at this
          rw [this] at h1
          simp at h1)
        exact h2 (List.map_eq_nil_iff.1 h)
      generalize hgv : gcdN ((mergeP kind xs w).map (·.2)) = g at hg
      have hdv : ∀ p, p ∈ mergeP kind xs w → (g : Int) * p.2.tdiv g = p.2 := fun p hp => by
        have h1 := (gcdF_dvd ((mergeP kind xs w).map (·.2)) 0).2 _ (List.mem_map_of_mem hp)
        rw [show gcdF 0 ((mergeP kind xs w).map (·.2)) = g from hgv] at h1
        have h2 := hpos hwt p hp
        obtain ⟨c, hc⟩ := h1
        have h3 : p.2 = (g : Int) * (c : Int) := by
          have : p.2 = (p.2.natAbs : Int) := by omega
          rw [this, hc, Int.natCast_mul]
        rw [h3, Int.mul_tdiv_cancel_left _ (by omega)]
      have hws : (mergeV kind 0 xs w).ws = (mergeP kind xs w).map fun p => p.2.tdiv g := by
        show (if kind = 7 then divG ((mergeP kind xs w).map (·.2)) else _) = _
        rw [if_pos h7']
        unfold divG
        rw [hgv, List.map_map]
        rfl
      generalize hQ : ((mergeP kind xs w).map fun p => (p.1, p.2.tdiv g)) = Q
      have hPQ : mergeP kind xs w = Q.map fun p => (p.1, (g : Int) * p.2) := by
        rw [← hQ, List.map_map]
        conv => lhs; rw [← List.map_id (mergeP kind xs w)]
        apply List.map_congr_left
        intro p hp
        simp only [Function.comp_apply, hdv p hp]
        rfl
      have hL : mergeP kind ((mergeV kind 0 xs w).args.map φ) (mergeV kind 0 xs w).ws = mergeF [] (Q.map fun p => (φ p.1, p.2)) := by
        show mergeF [] ((((mergeP kind xs w).map (·.1)).map φ).zip (wsOf kind (((mergeP kind xs w).map (·.1)).map φ) _)) = _
        rw [wsOf_map, zip_map_fst, hws]
        congr 2
        have : wsOf kind ((mergeP kind xs w).map (·.1)) ((mergeP kind xs w).map fun p => p.2.tdiv g) = (mergeP kind xs w).map fun p => p.2.tdiv g := by unfold wsOf; rw [if_pos hwt]
        rw [this]
        have h1 : (mergeP kind xs w).map (·.1) = Q.map (·.1) := by rw [← hQ, List.map_map]; rfl
        have h2 : ((mergeP kind xs w).map fun p => p.2.tdiv g) = Q.map (·.2) := by rw [← hQ, List.map_map]; rfl
        rw [h1, h2, zip_fst_snd]
      have hRR : mergeP kind (xs.map φ) w = (mergeF [] (Q.map fun p => (φ p.1, p.2))).map fun p => (p.1, (g : Int) * p.2) := by
        rw [hR, hPQ, ← merge_scale, List.map_map, List.map_map]
        rfl
      show Val.mk 0 ((mergeP kind ((mergeV kind 0 xs w).args.map φ) (mergeV kind 0 xs w).ws).map (·.1)) (if kind = 7 then divG ((mergeP kind ((mergeV kind 0 xs w).args.map φ) (mergeV kind 0 xs w).ws).map (·.2)) else _) = Val.mk 0 ((mergeP kind (xs.map φ) w).map (·.1)) (if kind = 7 then divG ((mergeP kind (xs.map φ) w).map (·.2)) else _)
      rw [if_pos h7', if_pos h7', hL, hRR, List.map_map, List.map_map]
      congr 1
      rw [← div_scale hg ((mergeF [] (Q.map fun p => (φ p.1, p.2))).map (·.2)), List.map_map]
      rfl
    · have hws : (mergeV kind 0 xs w).ws = (mergeP kind xs w).map (·.2) := by
        show (if kind = 7 then _ else if wtd kind then _ else _) = _
        rw [if_neg h7', if_pos hwt]
      have hL : mergeP kind ((mergeV kind 0 xs w).args.map φ) (mergeV kind 0 xs w).ws = mergeF [] ((mergeP kind xs w).map fun p => (φ p.1, p.2)) := by
        show mergeF [] ((((mergeP kind xs w).map (·.1)).map φ).zip (wsOf kind (((mergeP kind xs w).map (·.1)).map φ) _)) = _
        rw [wsOf_map, zip_map_fst, hws]
        congr 2
        have : wsOf kind ((mergeP kind xs w).map (·.1)) ((mergeP kind xs w).map (·.2)) = (mergeP kind xs w).map (·.2) := by unfold wsOf; rw [if_pos hwt]
        rw [this, zip_fst_snd]
      show Val.mk 0 ((mergeP kind ((mergeV kind 0 xs w).args.map φ) (mergeV kind 0 xs w).ws).map (·.1)) (if kind = 7 then _ else if wtd kind then (mergeP kind ((mergeV kind 0 xs w).args.map φ) (mergeV kind 0 xs w).ws).map (·.2) else _) = Val.mk 0 ((mergeP kind (xs.map φ) w).map (·.1)) (if kind = 7 then _ else if wtd kind then (mergeP kind (xs.map φ) w).map (·.2) else _)
      rw [if_neg h7', if_neg h7', if_pos hwt, if_pos hwt, hL, ← hR]
theorem mapL_const {t : Int → Val} {c : Fun} : ∀ (l : List Val) (g : Nat → Fun) (i : Nat), (∀ j, g j = c) → mapL t l g i = l.map fun x => mapV t x c
  | [], g, i, _ => by rw [mapL]; rfl
  | v :: r, g, i, h => by rw [mapL, h, mapL_const r g (i + 1) h, List.map_cons]
mutual
theorem map_map {ex : Fun → List Val → List Int → Bool} {n : Int} (to : Int → Int) (t : Int → Val) : ∀ (v : Val) (f : Fun), shapedF f = true → okV ex n v f = true → mapV t (mapV (fun x => idV (to x)) v f) f = mapV (fun x => t (to x)) v f
  | .mk k l w, f, hf, h => by
    rw [okV, Bool.and_eq_true, Bool.and_eq_true] at h
    obtain ⟨⟨hh, _⟩, hl⟩ := h
    rw [mapV, mapV]
    by_cases h0 : f.kind = 0
    · rw [if_pos h0, if_pos h0]
      unfold idV
      rw [mapV, if_pos h0]
    rw [if_neg h0, if_neg h0]
    by_cases h1 : f.kind = 1
    · rw [if_pos h1, if_pos h1, mapV, if_neg h0, if_pos h1]
    rw [if_neg h1, if_neg h1]
    have ih := mapL_map to t l (argF f k) 0 (argF_shaped hf h0 h1 hh) hl
    by_cases h2 : f.kind = 2
    · rw [if_pos h2, if_pos h2, mapV, if_neg h0, if_neg h1, if_pos h2]
      have : argF f 0 = argF f k := by funext i; unfold argF; rw [if_pos h2, if_pos h2]
      rw [this, ih]
    rw [if_neg h2, if_neg h2]
    by_cases h3 : f.kind = 3
    · rw [if_pos h3, if_pos h3, mapV, if_neg h0, if_neg h1, if_neg h2, if_pos h3, ih]
    rw [if_neg h3, if_neg h3]
    have hg : ∀ N j, argF f N j = f.args.getD 0 fun0 := fun N j => by unfold argF; rw [if_neg h2, if_neg h3]
    by_cases h4 : f.kind = 4
    · rw [if_pos h4, if_pos h4, mapV, if_neg h0, if_neg h1, if_neg h2, if_neg h3, if_pos h4]
      have : argF f 0 = argF f k := by funext i; rw [hg, hg]
      rw [this, ih]
    rw [if_neg h4, if_neg h4]
    have hset : setsK f.kind = true := by
      have := shaped_kind hf
      unfold setsK wtd
      simp
      omega
    have hss := (head_sets hset).1 hh
    have hml := mapL_length (fun x => idV (to x)) l (argF f k) 0
    have hw : wtd f.kind = true → w.length = (mapL (fun x => idV (to x)) l (argF f k) 0).length ∧ ∀ x, x ∈ w → 1 ≤ x := fun h => by
      rw [if_pos h] at hss
      have h2 := (weighI_iff w 0 (by omega)).1 hss.2.1
      exact ⟨by omega, h2.1⟩
    have h7 : f.kind = 7 → 0 < (mapL (fun x => idV (to x)) l (argF f k) 0).length := fun h => by
      have hw7 : wtd f.kind = true := by rw [h]; rfl
      rw [if_pos hw7] at hss
      have := hss.2.2.2
      omega
    have key := merge_map (fun x => mapV t x (f.args.getD 0 fun0)) hset hw h7
    rw [← mapL_const (mapL (fun x => idV (to x)) l (argF f k) 0) _ 0 (hg k), ih] at key
    rw [← key, mapV_eq, if_neg h0, if_neg h1, if_neg h2, if_neg h3, if_neg h4, mapL_const _ _ _ (hg _)]
theorem mapL_map {ex : Fun → List Val → List Int → Bool} {n : Int} (to : Int → Int) (t : Int → Val) : ∀ (l : List Val) (g : Nat → Fun) (i : Nat), (∀ j, j < l.length → shapedF (g (i + j)) = true) → okL ex n l g i = true → mapL t (mapL (fun x => idV (to x)) l g i) g i = mapL (fun x => t (to x)) l g i
  | [], g, i, _, _ => by rw [mapL, mapL, mapL]
  | v :: r, g, i, hs, h => by
    rw [okL, Bool.and_eq_true] at h
    rw [mapL, mapL, mapL, map_map to t v (g i) (hs 0 (by simp)) h.1, mapL_map to t r g (i + 1) (fun j hj => by have := hs (j + 1) (by simpa using hj); rwa [show i + (j + 1) = i + 1 + j by omega] at this) h.2]
end
section
variable {g : FuncId} {caps : List A}
end
section
variable {f : Fun} {n : Int} {v : Val}
end
theorem endRound_J0 {l : List Nat} {M L L' : List (List A)} {R J' : List Row} {tm : List (Nat × A)} (hJ : J'.all (fun r => r.cs.all (closed 0 0)) = true) (hL : L.length ≤ L'.length) (hl : l.all (fun t => closed (M.length + L.length) (R.length + J'.length) (lk t tm)) = true) (hc : (L'.take L.length).all (fun cs => cs.all (closed (M.length + L.length) (R.length + J'.length))) = true) :
    endRound (some l) ⟨M ++ L, R⟩ ⟨tm, ⟨M ++ L', R ++ J'⟩⟩ = some ⟨prune (some l) tm, ⟨M ++ L'.take L.length, R ++ J'⟩⟩ := by
  have := endRound_J (J := []) hJ hL hl hc
  simpa using this
end AE
end Go.Proofs.YthoomlenmgdebaaGreatDoor
