/- Both parsers of functors agree. -/
import Derived.Test.YtbgppidldpepaaaDoorAR6
set_option linter.unusedVariables false
set_option linter.unusedSimpArgs false
namespace Go.Proofs.YtbgppidldpepaaaDoor
namespace AE
open Go

theorem two_sim {all : List UInt8 → PR} {fn : RS → Fun × RS} {n : Nat} (hst : Stick fn) (H : Sim all fn n) {c : UInt8} {k : Int} (hc : c ∈ marks) {s u : List UInt8} {g : Fun} (hs : s.length < n + 1) (he : pPower all s = (some g, u)) (h1 : (isC c u).1 = true) (hul : (isC c u).2.length < n + 1) :
    (∀ f t l', pSecond all k g (isC c u).2 = (some f, t) → tok t = some l' → ∃ l g' lu f', tok s = some l ∧ opR fn (l, false) = (g', ([c] :: lu, false)) ∧ twoR fn k g' (lu, false) = (f', (l', false)) ∧ simF f f') ∧
    (∀ t l, pSecond all k g (isC c u).2 = (none, t) → tok s = some l → ∃ g' lu, opR fn (l, false) = (g', ([c] :: lu, false)) ∧ (twoR fn k g' (lu, false)).2.2 = true) ∧
    (∀ f t l, pSecond all k g (isC c u).2 = (some f, t) → tok s = some l → ∃ l', tok t = some l') := by
  have HP := power_sim hst H
  have hu := isC_tok hc h1
  refine ⟨fun f t l' h ht => ?_, fun t l h hl => ?_, fun f t l h hl => ?_⟩
  · unfold pSecond at h
    split at h
    · cases h
    · rename_i g2 v hv
      simp only [Prod.mk.injEq, Option.some.injEq] at h
      rw [← h.2] at ht
      obtain ⟨l2, f2, e1, e2, e3⟩ := HP.ok _ g2 v l' hul hv ht
      rw [e1] at hu
      obtain ⟨l, g', e4, e5, e6⟩ := HP.ok s g u _ hs he hu
      refine ⟨l, g', l2, .mk k 0 [g', f2], e4, e5, ?_, ?_⟩
      · unfold twoR
        rw [e2]
      · rw [← h.1]
        exact simF_two e6 e3
  · obtain ⟨lu, hlu⟩ := HP.fwd s g u l hs he hl
    obtain ⟨l2, g', e4, e5, e6⟩ := HP.ok s g u lu hs he hlu
    rw [hl] at e4
    cases e4
    rw [hlu] at hu
    obtain ⟨q, e7, rfl⟩ := Option.map_eq_some_iff.1 hu.symm
    refine ⟨g', q, e5, ?_⟩
    unfold pSecond at h
    split at h
    · rename_i v hv
      exact HP.bad _ v q hul hv e7
    · cases h
  · obtain ⟨lu, hlu⟩ := HP.fwd s g u l hs he hl
    rw [hlu] at hu
    obtain ⟨q, e7, _⟩ := Option.map_eq_some_iff.1 hu.symm
    unfold pSecond at h
    split at h
    · cases h
    · rename_i g2 v hv
      simp only [Prod.mk.injEq, Option.some.injEq] at h
      rw [← h.2]
      exact HP.fwd _ g2 v q hul hv e7

theorem all_sim : ∀ n, Sim (pAll n) (funR n) n
  | 0 => ⟨fun s f t l' hs => absurd hs (by omega), fun s t l hs => absurd hs (by omega), fun s f t l hs => absurd hs (by omega)⟩
  | n + 1 => by
    have H := all_sim n
    have hst := funR_stick n
    have HP := power_sim hst H
    have key : ∀ s, s.length < n + 1 → (∀ f t l', pAll (n + 1) s = (some f, t) → tok t = some l' → ∃ l f', tok s = some l ∧ funR (n + 1) (l, false) = (f', (l', false)) ∧ simF f f') ∧
        (∀ t l, pAll (n + 1) s = (none, t) → tok s = some l → (funR (n + 1) (l, false)).2.2 = true) ∧
        (∀ f t l, pAll (n + 1) s = (some f, t) → tok s = some l → ∃ l', tok t = some l') := by
      intro s hs
      rw [pAll]
      cases he : pPower (pAll n) s with
      | mk o u =>
      cases o with
      | none =>
        refine ⟨fun f t l' h => (by cases h), fun t l h hl => ?_, fun f t l h => (by cases h)⟩
        have h1 := HP.bad s u l hs he hl
        rw [funR]
        try simp only
        split
        · exact opR_stick hst _ (takeR_stick h1)
        · split
          · exact opR_stick hst _ (takeR_stick h1)
          · exact h1
      | some g =>
      have hul := (pPower_suffix (pAll_suffix n) s).length_le
      rw [he] at hul
      have hul' : u.length ≤ s.length := hul
      have h2l := (isC_suffix 42 u).length_le
      have h3l := (isC_suffix 43 (isC 42 u).2).length_le
      simp only
      cases h42 : (isC 42 u).1 with
      | true =>
        simp only [if_true]
        obtain ⟨k1, k2, k3⟩ := two_sim (k := 2) hst H (c := 42) (by decide) hs he h42 (by omega)
        refine ⟨fun f t l' h ht => ?_, fun t l h hl => ?_, k3⟩
        · obtain ⟨l, g', lu, f', e1, e2, e3, e4⟩ := k1 f t l' h ht
          refine ⟨l, f', e1, ?_, e4⟩
          rw [funR]
          simp only [e2]
          rw [if_pos (by rfl), takeR_ok, e3]
        · obtain ⟨g', lu, e2, e3⟩ := k2 t l h hl
          rw [funR]
          simp only [e2]
          rw [if_pos (by rfl), takeR_ok]
          exact e3
      | false =>
        simp only [Bool.false_eq_true, if_false]
        have n42 := isC_tokf h42
        cases h43 : (isC 43 (isC 42 u).2).1 with
        | true =>
          simp only [if_true]
          have hc : (isC 43 u).1 = true ∧ (isC 43 u).2 = (isC 43 (isC 42 u).2).2 := by
            have hdd : dropC 32 u = dropC 32 (isC 42 u).2 := by
              unfold isC at h42 ⊢
              cases hd : dropC 32 u with
              | nil => rfl
              | cons b r =>
                rw [hd] at h42
                simp only at h42 ⊢
                split at h42
                · cases h42
                · rename_i hb
                  rw [if_neg hb, dropC_ne (dropC_head hd)]
            rw [isC_eq 43 hdd]
            exact ⟨h43, rfl⟩
          rw [← hc.2]
          obtain ⟨k1, k2, k3⟩ := two_sim (k := 3) hst H (c := 43) (by decide) hs he hc.1 (by rw [hc.2]; omega)
          refine ⟨fun f t l' h ht => ?_, fun t l h hl => ?_, k3⟩
          · obtain ⟨l, g', lu, f', e1, e2, e3, e4⟩ := k1 f t l' h ht
            refine ⟨l, f', e1, ?_, e4⟩
            rw [funR]
            simp only [e2]
            rw [if_neg (by simp), if_pos (by rfl), takeR_ok, e3]
          · obtain ⟨g', lu, e2, e3⟩ := k2 t l h hl
            rw [funR]
            simp only [e2]
            rw [if_neg (by simp), if_pos (by rfl), takeR_ok]
            exact e3
        | false =>
          simp only [Bool.false_eq_true, if_false]
          have n43 := isC_tokf h43
          refine ⟨fun f t l' h ht => ?_, fun t l h => (by cases h), fun f t l h hl => ?_⟩
          · simp only [Prod.mk.injEq, Option.some.injEq] at h
            rw [← h.2] at ht
            have hu : tok u = some l' := by rw [← n42.1, ← n43.1]; exact ht
            obtain ⟨l, f', e1, e2, e3⟩ := HP.ok s g u l' hs he hu
            refine ⟨l, f', e1, ?_, by rw [← h.1]; exact e3⟩
            rw [funR]
            simp only [e2]
            rw [if_neg (n42.2 l' hu), if_neg (n43.2 l' (by rw [n42.1]; exact hu))]
          · simp only [Prod.mk.injEq, Option.some.injEq] at h
            obtain ⟨lu, hlu⟩ := HP.fwd s g u l hs he hl
            rw [← h.2]
            exact ⟨lu, by rw [n43.1, n42.1]; exact hlu⟩
    exact ⟨fun s f t l' hs => (key s hs).1 f t l', fun s t l hs => (key s hs).2.1 t l, fun s f t l hs => (key s hs).2.2 f t l⟩

/-! ### Fuel -/
theorem kindR_some {s : RS} (h : 0 ≤ kindR s) : s.1.tail.length < s.1.length := by
  unfold kindR at h
  split at h
  · rename_i e; exact tail_lt e
  · split at h
    · rename_i e; exact tail_lt e
    · split at h
      · rename_i e; exact tail_lt e
      · omega
theorem inR_congr {fn fn' : RS → Fun × RS} {s : RS} (h : fn (takeR [40] s) = fn' (takeR [40] s)) : inR fn s = inR fn' s := by
  unfold inR
  rw [h]
theorem atomR_congr {fn fn' : RS → Fun × RS} {s : RS} (h : ∀ q : RS, q.1.length < s.1.length → fn q = fn' q) : atomR fn s = atomR fn' s := by
  unfold atomR
  split
  · rfl
  · split
    · rfl
    · split
      · rename_i hk
        have h1 := kindR_some hk
        have h2 := (takeR_suffix [40] (s.1.tail, s.2)).length_le
        simp only at h2
        rw [inR_congr (h _ (by omega))]
      · split
        · rename_i e
          rw [inR_congr (h _ (takeR_lt e))]
        · rfl
theorem opR_congr {fn fn' : RS → Fun × RS} {s : RS} (h : ∀ q : RS, q.1.length < s.1.length → fn q = fn' q) : opR fn s = opR fn' s := by
  unfold opR
  rw [atomR_congr h]
theorem funR_fuel : ∀ (n m : Nat) (s : RS), s.1.length < n → s.1.length < m → funR n s = funR m s
  | 0, m, s, h, _ => by omega
  | n + 1, 0, s, _, h => by omega
  | n + 1, m + 1, s, h1, h2 => by
    have hq : ∀ q : RS, q.1.length < s.1.length → funR n q = funR m q := fun q hq => funR_fuel n m q (by omega) (by omega)
    rw [funR, funR, opR_congr hq]
    have hx := (opR_suffix (funR_suffix m) s).length_le
    generalize opR (funR m) s = x at hx ⊢
    have h42 := (takeR_suffix [42] x.2).length_le
    have h43 := (takeR_suffix [43] x.2).length_le
    try simp only
    unfold twoR
    rw [opR_congr (s := takeR [42] x.2) (fun q hq' => hq q (by omega)), opR_congr (s := takeR [43] x.2) (fun q hq' => hq q (by omega))]

/-! ### How many nodes -/
def Cst (r : RS → Fun × RS) : Prop := ∀ s : RS, (r s).1.nodes + 2 * (r s).2.1.length ≤ 1 + 2 * s.1.length
theorem one_nodes (k n : Int) : (Fun.mk k n []).nodes = 1 := by rw [Fun.nodes_eq]; simp [Fun.nodesL]
theorem two_nodes (k n : Int) (f : Fun) : (Fun.mk k n [f]).nodes = 1 + f.nodes := by rw [Fun.nodes_eq]; simp [Fun.nodesL]
theorem three_nodes (k n : Int) (f g : Fun) : (Fun.mk k n [f, g]).nodes = 1 + f.nodes + g.nodes := by rw [Fun.nodes_eq]; simp [Fun.nodesL]; omega
section
variable {fn : RS → Fun × RS} (hc : Cst fn)
include hc
theorem inR_cst (s : RS) : (inR fn s).1.nodes + 2 * (inR fn s).2.1.length ≤ 1 + 2 * (takeR [40] s).1.length := by
  have h1 := hc (takeR [40] s)
  have h2 := (takeR_suffix [41] (fn (takeR [40] s)).2).length_le
  unfold inR
  simp only
  omega
theorem atomR_cst : Cst (atomR fn) := by
  intro s
  unfold atomR
  split
  · simp only [one_nodes]; omega
  · split
    · have := (takeR_suffix [88] s).length_le
      simp only [one_nodes]; omega
    · split
      · rename_i hk
        have h1 := kindR_some hk
        have h2 := (takeR_suffix [40] (s.1.tail, s.2)).length_le
        have h3 := inR_cst hc (s.1.tail, s.2)
        simp only [two_nodes] at h2 ⊢
        omega
      · split
        · rename_i e
          have h1 := takeR_lt e
          have h3 := inR_cst hc s
          omega
        · have := (digR_suffix s).length_le
          simp only [one_nodes]; omega
theorem opR_cst : Cst (opR fn) := by
  intro s
  have h1 := atomR_cst hc s
  unfold opR
  simp only
  split
  · rename_i e
    have h2 := takeR_lt e
    have h3 := (digR_suffix (takeR [94] (atomR fn s).2)).length_le
    simp only [two_nodes]
    omega
  · exact h1
end
theorem funR_cst : ∀ n, Cst (funR n)
  | 0 => fun s => by rw [funR]; simp only [one_nodes]; omega
  | n + 1 => fun s => by
    have h1 := opR_cst (funR_cst n) s
    rw [funR]
    try simp only
    split
    · rename_i e
      have h2 := takeR_lt e
      have h3 := opR_cst (funR_cst n) (takeR [42] (opR (funR n) s).2)
      unfold twoR
      simp only [three_nodes]
      omega
    · split
      · rename_i e
        have h2 := takeR_lt e
        have h3 := opR_cst (funR_cst n) (takeR [43] (opR (funR n) s).2)
        unfold twoR
        simp only [three_nodes]
        omega
      · exact h1

/-- Both parsers answer the same. -/
theorem parse_same (s : List UInt8) (hs : s.length ≤ 1000000) : parseF (s.length + 1) s = refF s := by
  unfold parseF refF
  by_cases hl : 40000 < s.length
  · rw [if_pos hl, if_pos hl]
  rw [if_neg hl, if_neg hl]
  have H := all_sim (s.length + 1)
  have hsl : s.length < s.length + 1 := by omega
  cases hp : pAll (s.length + 1) s with
  | mk o t =>
  cases htk : tok s with
  | none =>
    cases o with
    | none => rfl
    | some f =>
      simp only
      by_cases hd : dropC 32 t = []
      · exfalso
        have ht : tok t = some [] := by rw [← tok_drop, hd, tok_nil]
        obtain ⟨l, f', h1, _⟩ := H.ok s f t [] hsl hp ht
        rw [htk] at h1
        cases h1
      · rw [if_neg hd]
  | some l =>
  have hll := (tok_ok s.length s l (Nat.le_refl _) hs htk).2
  have hfu : funR (l.length + 1) (l, false) = funR (s.length + 1) (l, false) := funR_fuel _ _ _ (by simp) (by simp; omega)
  simp only [hfu]
  cases o with
  | none =>
    have := H.bad s t l hsl hp htk
    simp [this]
  | some f =>
    obtain ⟨lt, hlt⟩ := H.fwd s f t l hsl hp htk
    obtain ⟨l2, f', h1, h2, h3⟩ := H.ok s f t lt hsl hp hlt
    rw [htk] at h1
    cases h1
    simp only [h2]
    by_cases hd : dropC 32 t = []
    · have ht : tok t = some [] := by rw [← tok_drop, hd, tok_nil]
      rw [hlt] at ht
      cases ht
      have hok := simF_ok h3
      rw [if_pos hd, isF_okF, ← hok]
      cases hf : okF f with
      | true =>
        have := simF_eq f f' h3 (okF_shaped hf)
        simp [this]
      | false => simp
    · have hne : lt ≠ [] := by
        rintro rfl
        apply hd
        rw [← tok_drop] at hlt
        cases hdt : dropC 32 t with
        | nil => rfl
        | cons c r =>
          rw [hdt] at hlt
          obtain ⟨q1, q2, q3, _⟩ := tok_head (dropC_head hdt) hlt
          cases q3
      rw [if_neg hd]
      simp [hne]
theorem ref_nodes (s : List UInt8) (hs : s.length ≤ 1000000) (l : List (List UInt8)) (h : tok s = some l) : (funR (l.length + 1) (l, false)).1.nodes ≤ 1000000000 := by
  have h1 := funR_cst (l.length + 1) (l, false)
  have h2 := (tok_ok s.length s l (Nat.le_refl _) hs h).2
  simp only at h1
  omega
end AE
end Go.Proofs.YtbgppidldpepaaaDoor
