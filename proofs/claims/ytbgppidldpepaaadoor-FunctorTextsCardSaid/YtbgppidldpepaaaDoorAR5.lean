/- Both parsers of functors agree: plain laws. -/
import Derived.Test.YtbgppidldpepaaaDoorAR4
set_option linter.unusedVariables false
set_option linter.unusedSimpArgs false
namespace Go.Proofs.YtbgppidldpepaaaDoor
namespace AE
open Go

/-! ### Trees that are the same but for great numbers -/
def simN (n n' : Int) : Prop := n = n' ∨ (16 < n ∧ 16 < n')
mutual
def simF : Fun → Fun → Prop
  | .mk k n l, .mk k' n' l' => k = k' ∧ simN n n' ∧ simL l l'
def simL : List Fun → List Fun → Prop
  | [], [] => True
  | f :: r, g :: q => simF f g ∧ simL r q
  | _, _ => False
end
mutual
theorem simF_symm : ∀ f g : Fun, simF f g → simF g f
  | .mk k n l, .mk k' n' l', h => by
    rw [simF] at h ⊢
    refine ⟨h.1.symm, ?_, simL_symm l l' h.2.2⟩
    rcases h.2.1 with h1 | h1
    · exact .inl h1.symm
    · exact .inr ⟨h1.2, h1.1⟩
theorem simL_symm : ∀ f g : List Fun, simL f g → simL g f
  | [], [], _ => by rw [simL]; trivial
  | f :: r, g :: q, h => by
    rw [simL] at h ⊢
    exact ⟨simF_symm f g h.1, simL_symm r q h.2⟩
  | [], _ :: _, h => by simp [simL] at h
  | _ :: _, [], h => by simp [simL] at h
end
theorem mostF_le (k : Int) : mostF k ≤ 16 := by unfold mostF; split <;> (try split) <;> omega
mutual
theorem simF_eq : ∀ f g : Fun, simF f g → shapedF f = true → f = g
  | .mk k n l, .mk k' n' l', h, hs => by
    rw [simF] at h
    rw [shapedF] at hs
    simp only [Bool.and_eq_true, decide_eq_true_eq] at hs
    have h1 := mostF_le k
    obtain ⟨rfl, h2, h3⟩ := h
    have h4 := simL_eq l l' h3 hs.2
    rcases h2 with rfl | h2
    · rw [h4]
    · omega
theorem simL_eq : ∀ f g : List Fun, simL f g → shapedL f = true → f = g
  | [], [], _, _ => rfl
  | f :: r, g :: q, h, hs => by
    rw [simL] at h
    rw [shapedL] at hs
    simp only [Bool.and_eq_true] at hs
    rw [simF_eq f g h.1 hs.1, simL_eq r q h.2 hs.2]
  | [], _ :: _, h, _ => by simp [simL] at h
  | _ :: _, [], h, _ => by simp [simL] at h
end
theorem simF_ok {f g : Fun} (h : simF f g) : okF f = okF g := by
  cases h1 : okF f with
  | true => rw [← simF_eq f g h (okF_shaped h1), h1]
  | false =>
    cases h2 : okF g with
    | false => rfl
    | true =>
      rw [← simF_eq g f (simF_symm f g h) (okF_shaped h2), h2] at h1
      cases h1
theorem simF_one {k n n' : Int} {f g : Fun} (hn : simN n n') (h : simF f g) : simF (.mk k n [f]) (.mk k n' [g]) := by
  rw [simF, simL, simL]
  exact ⟨rfl, hn, h, trivial⟩
theorem simF_two {k : Int} {f g f' g' : Fun} (h : simF f f') (h' : simF g g') : simF (.mk k 0 [f, g]) (.mk k 0 [f', g']) := by
  rw [simF, simL, simL, simL]
  exact ⟨rfl, .inl rfl, h, h', trivial⟩

/-! ### Tokens of what is left -/
theorem tok_drop : ∀ s, tok (dropC 32 s) = tok s
  | [] => rfl
  | c :: r => by
    by_cases h : c = 32
    · subst h
      rw [dropC_same, tok_drop r, tok_cons, if_pos rfl]
    · rw [dropC_ne h]
theorem mark_no {c : UInt8} (h : c ∈ marks) : ¬ c = 32 ∧ isDig c = false := by
  simp [marks] at h
  rcases h with rfl | rfl | rfl | rfl | rfl | rfl | rfl | rfl | rfl <;> exact ⟨by decide, rfl⟩
theorem tok_mark {c : UInt8} (h : c ∈ marks) (r : List UInt8) : tok (c :: r) = (tok r).map ([c] :: ·) := by
  have := mark_no h
  rw [tok_cons, if_neg this.1, this.2, if_pos h]
  simp
theorem isC_tok {c : UInt8} (hc : c ∈ marks) {u : List UInt8} (h : (isC c u).1 = true) : tok u = (tok (isC c u).2).map ([c] :: ·) := by
  unfold isC at h ⊢
  rw [← tok_drop u]
  cases hd : dropC 32 u with
  | nil => rw [hd] at h; cases h
  | cons b r =>
    rw [hd] at h
    simp only at h ⊢
    split at h
    · rename_i hb
      subst hb
      rw [if_pos rfl]
      exact tok_mark hc r
    · cases h
theorem tok_head {c : UInt8} {r : List UInt8} {l : List (List UInt8)} (h32 : ¬ c = 32) (h : tok (c :: r) = some l) : ∃ t q, l = (c :: t) :: q ∧ (isDig c = false → t = []) := by
  rw [tok_cons, if_neg h32] at h
  split at h
  · rename_i hd
    obtain ⟨q, _, rfl⟩ := Option.map_eq_some_iff.1 h
    exact ⟨_, q, rfl, fun hf => by rw [hd] at hf; cases hf⟩
  · split at h
    · obtain ⟨q, _, rfl⟩ := Option.map_eq_some_iff.1 h
      exact ⟨[], q, rfl, fun _ => rfl⟩
    · cases h
theorem dropC_head {c : UInt8} : ∀ {s r : List UInt8} {b : UInt8}, dropC c s = b :: r → ¬ b = c
  | [], r, b, h => by cases h
  | x :: s, r, b, h => by
    by_cases hx : x = c
    · subst hx
      rw [dropC_same] at h
      exact dropC_head h
    · rw [dropC_ne hx] at h
      cases h
      exact hx
theorem isC_tokf {c : UInt8} {u : List UInt8} (h : (isC c u).1 = false) : tok (isC c u).2 = tok u ∧ ∀ l, tok u = some l → l.head? ≠ some [c] := by
  unfold isC at h ⊢
  rw [← tok_drop u]
  cases hd : dropC 32 u with
  | nil =>
    simp only
    refine ⟨trivial, fun l hl => ?_⟩
    rw [tok_nil] at hl
    cases hl
    simp
  | cons b r =>
    rw [hd] at h
    simp only at h ⊢
    split at h
    · cases h
    · rename_i hb
      rw [if_neg hb]
      refine ⟨rfl, fun l hl => ?_⟩
      obtain ⟨t, q, rfl, _⟩ := tok_head (dropC_head hd) hl
      simp
      intro e
      exact absurd e hb
theorem valD_zero : ∀ s : List UInt8, valD 0 (dropC 48 s) = valD 0 s
  | [] => rfl
  | c :: r => by
    by_cases h : c = 48
    · subst h
      rw [dropC_same, valD_zero r, valD_cons]
      rfl
    · rw [dropC_ne h]
theorem num_sim (ds : List UInt8) : simN (atoiF (dropC 48 ds)) (numR ds) := by
  have hv := valD_zero ds
  unfold atoiF numR
  rw [hv]
  by_cases hd : dropC 48 ds = []
  · rw [if_pos hd]
    rw [hd, valD_nil] at hv
    rw [← hv]
    exact .inl rfl
  · rw [if_neg hd]
    split
    · exact .inl rfl
    · exact .inr ⟨by omega, by omega⟩
theorem numF_tok {u v : List UInt8} {k : Int} (h : numF u = (some k, v)) : ∃ c ds, isDig c = true ∧ tok u = (tok v).map ((c :: ds) :: ·) ∧ simN k (numR (c :: ds)) := by
  unfold numF at h
  simp only at h
  rw [← tok_drop u]
  split at h
  · cases h
  · rename_i h0
    simp only [Prod.mk.injEq, Option.some.injEq] at h
    cases hd : dropC 32 u with
    | nil => rw [hd] at h0; exact absurd rfl h0
    | cons c r =>
      rw [hd] at h h0
      cases hc : isDig c with
      | false => rw [digN_cons hc] at h0; exact absurd rfl h0
      | true =>
        have hn := digN_consT hc r
        rw [hn, List.take_succ_cons, List.drop_succ_cons] at h
        refine ⟨c, r.take (digN r), hc, ?_, ?_⟩
        · rw [tok_cons, if_neg (dropC_head hd), hc, if_pos rfl, h.2]
        · rw [← h.1]
          exact num_sim _
theorem numF_bad {u v : List UInt8} {l : List (List UInt8)} (h : numF u = (none, v)) (hl : tok u = some l) (b : Bool) : (digR (l, b)).2.2 = true := by
  unfold numF at h
  simp only at h
  rw [← tok_drop u] at hl
  split at h
  · rename_i h0
    cases hd : dropC 32 u with
    | nil =>
      rw [hd, tok_nil] at hl
      cases hl
      rfl
    | cons c r =>
      rw [hd] at hl h0
      cases hc : isDig c with
      | true => rw [digN_consT hc] at h0; omega
      | false =>
        obtain ⟨t, q, rfl, _⟩ := tok_head (dropC_head hd) hl
        simp [digR, hc]
  · cases h

/-! ### What is bad stays bad -/
def Stick (r : RS → Fun × RS) : Prop := ∀ s, s.2 = true → (r s).2.2 = true
theorem takeR_stick {t : List UInt8} {s : RS} (h : s.2 = true) : (takeR t s).2 = true := by
  unfold takeR
  split
  · exact h
  · rfl
theorem takeR_bad {t : List UInt8} {l : List (List UInt8)} {b : Bool} (h : l.head? ≠ some t) : (takeR t (l, b)).2 = true := by
  unfold takeR
  rw [if_neg h]
theorem takeR_ok {t : List UInt8} {l : List (List UInt8)} {b : Bool} : takeR t (t :: l, b) = (l, b) := by
  unfold takeR
  rw [if_pos (by rfl)]
  rfl
theorem digR_stick {s : RS} (h : s.2 = true) : (digR s).2.2 = true := by
  unfold digR
  split
  · split
    · exact h
    · rfl
  · rfl
section
variable {fn : RS → Fun × RS} (hst : Stick fn)
include hst
theorem inR_stick {s : RS} (h : s.2 = true) : (inR fn s).2.2 = true := by
  unfold inR
  exact takeR_stick (hst _ (takeR_stick h))
theorem atomR_stick : Stick (atomR fn) := by
  have _ := hst
  intro s h
  unfold atomR
  rw [if_pos h]
  exact h
theorem opR_stick : Stick (opR fn) := by
  intro s h
  have h1 := atomR_stick hst s h
  unfold opR
  simp only
  split
  · exact digR_stick (takeR_stick h1)
  · exact h1
end
theorem funR_stick : ∀ n, Stick (funR n)
  | 0 => fun s h => h
  | n + 1 => fun s h => by
    have h1 := opR_stick (funR_stick n) s h
    rw [funR]
    try simp only
    split
    · exact opR_stick (funR_stick n) _ (takeR_stick h1)
    · split
      · exact opR_stick (funR_stick n) _ (takeR_stick h1)
      · exact h1

/-! ### The two parsers, step by step -/
structure Sim (p : List UInt8 → PR) (r : RS → Fun × RS) (n : Nat) : Prop where
  ok : ∀ s f t l', s.length < n → p s = (some f, t) → tok t = some l' → ∃ l f', tok s = some l ∧ r (l, false) = (f', (l', false)) ∧ simF f f'
  bad : ∀ s t l, s.length < n → p s = (none, t) → tok s = some l → (r (l, false)).2.2 = true
  fwd : ∀ s f t l, s.length < n → p s = (some f, t) → tok s = some l → ∃ l', tok t = some l'

section
variable {all : List UInt8 → PR} {fn : RS → Fun × RS} {n : Nat} (hst : Stick fn) (H : Sim all fn n)
include hst H
/-- What stands behind an open bracket. -/
theorem close_ok {k : Fun → Fun} {r t : List UInt8} {f : Fun} {l' : List (List UInt8)} (hr : r.length < n) (h : closeF k (all r) = (some f, t)) (ht : tok t = some l') : ∃ l g g', tok r = some l ∧ f = k g ∧ simF g g' ∧ inR fn ([40] :: l, false) = (g', (l', false)) := by
  have _ := hst
  unfold closeF at h
  split at h
  · rename_i g u hal
    split at h
    · rename_i hc
      simp only [Prod.mk.injEq, Option.some.injEq] at h
      have hu := isC_tok (c := 41) (by decide) hc
      rw [h.2, ht] at hu
      obtain ⟨l, g', h1, h2, h3⟩ := H.ok r g u _ hr hal hu
      refine ⟨l, g, g', h1, h.1.symm, h3, ?_⟩
      unfold inR
      rw [takeR_ok, h2, takeR_ok]
    · cases h
  · cases h
theorem close_bad {k : Fun → Fun} {r t : List UInt8} {l : List (List UInt8)} (hr : r.length < n) (h : closeF k (all r) = (none, t)) (hl : tok r = some l) : (inR fn ([40] :: l, false)).2.2 = true := by
  have _ := hst
  unfold inR
  rw [takeR_ok]
  unfold closeF at h
  split at h
  · rename_i g u hal
    split at h
    · cases h
    · rename_i hc
      have hc' : (isC 41 u).1 = false := by simpa using hc
      obtain ⟨lu, hu⟩ := H.fwd r g u l hr hal hl
      obtain ⟨l2, g', h1, h2, h3⟩ := H.ok r g u lu hr hal hu
      rw [hl] at h1
      cases h1
      rw [h2]
      exact takeR_bad ((isC_tokf hc').2 lu hu)
  · rename_i u hal
    exact takeR_stick (H.bad r u l hr hal hl)
theorem close_fwd {k : Fun → Fun} {r t : List UInt8} {f : Fun} {l : List (List UInt8)} (hr : r.length < n) (h : closeF k (all r) = (some f, t)) (hl : tok r = some l) : ∃ l', tok t = some l' := by
  have _ := hst
  unfold closeF at h
  split at h
  · rename_i g u hal
    split at h
    · rename_i hc
      simp only [Prod.mk.injEq, Option.some.injEq] at h
      obtain ⟨lu, hu⟩ := H.fwd r g u l hr hal hl
      rw [isC_tok (c := 41) (by decide) hc, h.2] at hu
      obtain ⟨q, h1, _⟩ := Option.map_eq_some_iff.1 hu
      exact ⟨q, h1⟩
    · cases h
  · cases h
end
end AE
end Go.Proofs.YtbgppidldpepaaaDoor
