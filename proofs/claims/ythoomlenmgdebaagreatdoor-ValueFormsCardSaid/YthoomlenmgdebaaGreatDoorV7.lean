/- Values: mapped; the normal form as a map; merging in any order; plain laws. -/
import Derived.Test.YthoomlenmgdebaaGreatDoorV6
set_option linter.unusedVariables false
set_option linter.unusedSimpArgs false
namespace Go.Proofs.YthoomlenmgdebaaGreatDoor
namespace AE
open Go

mutual
/-- A value whose states are replaced by others. -/
def mapV (t : Int → Val) : Val → Fun → Val
  | .mk k l w, f => if f.kind = 0 then t k else if f.kind = 1 then .mk k [] [] else if f.kind = 2 then .mk 0 (mapL t l (argF f k) 0) [] else if f.kind = 3 then .mk k (mapL t l (argF f k) 0) [] else if f.kind = 4 then .mk 0 (mapL t l (argF f k) 0) [] else mergeV f.kind 0 (mapL t l (argF f k) 0) w
def mapL (t : Int → Val) : List Val → (Nat → Fun) → Nat → List Val
  | [], _, _ => []
  | v :: r, g, i => mapV t v (g i) :: mapL t r g (i + 1)
end
def idV (x : Int) : Val := .mk x [] []
theorem mapV_eq (t : Int → Val) (v : Val) (f : Fun) : mapV t v f = if f.kind = 0 then t v.num else if f.kind = 1 then .mk v.num [] [] else if f.kind = 2 then .mk 0 (mapL t v.args (argF f v.num) 0) [] else if f.kind = 3 then .mk v.num (mapL t v.args (argF f v.num) 0) [] else if f.kind = 4 then .mk 0 (mapL t v.args (argF f v.num) 0) [] else mergeV f.kind 0 (mapL t v.args (argF f v.num) 0) v.ws := by cases v; rw [mapV]; rfl
theorem mapL_length (t : Int → Val) : ∀ (l : List Val) (g : Nat → Fun) (i : Nat), (mapL t l g i).length = l.length
  | [], g, i => by rw [mapL]
  | v :: r, g, i => by rw [mapL, List.length_cons, List.length_cons, mapL_length t r g (i + 1)]
theorem mapL_drop {t : Int → Val} {l : List Val} {i : Nat} (h : i < l.length) (g : Nat → Fun) : mapL t (l.drop i) g i = mapV t l[i] (g i) :: mapL t (l.drop (i + 1)) g (i + 1) := by rw [List.drop_eq_getElem_cons h, mapL]
/-- What the head of a node says. -/
theorem head_num {n : Int} {f : Fun} {k : Int} {m : Nat} {w : List Int} (h : headL n f k m w = true) : (f.kind ≠ 0 → f.kind ≠ 1 → f.kind ≠ 3 → k = 0) ∧ (wtd f.kind = false → w = []) ∧ ((f.kind = 0 ∨ f.kind = 1) → m = 0) := by
  unfold headL at h
  simp only [Bool.and_eq_true, decide_eq_true_eq] at h
  obtain ⟨⟨h1, h2⟩, h3⟩ := h
  refine ⟨fun a b c => ?_, fun a => ?_, fun a => ?_⟩
  · rw [if_neg a, if_neg b, if_neg c] at h2
    omega
  · rw [a] at h3
    simpa using h3
  · rw [if_pos a] at h1
    simpa using h1
mutual
theorem norm_map (n : Int) : ∀ (v : Val) (f : Fun), shapedF f = true → okV exL n v f = true → normV n v f = some (mapV idV v f)
  | .mk k l w, f, hf, h => by
    rw [okV, Bool.and_eq_true, Bool.and_eq_true] at h
    obtain ⟨⟨hh, _⟩, hl⟩ := h
    obtain ⟨n1, n2, n3⟩ := head_num hh
    have hk := shaped_kind hf
    rw [normV, if_pos hh, mapV]
    by_cases h0 : f.kind = 0
    · have : l = [] := List.eq_nil_of_length_eq_zero (n3 (.inl h0))
      subst this
      rw [normL, n2 (by rw [h0]; rfl)]
      simp [h0, setsK, wtd, idV]
    by_cases h1 : f.kind = 1
    · have : l = [] := List.eq_nil_of_length_eq_zero (n3 (.inr h1))
      subst this
      rw [normL, n2 (by rw [h1]; rfl)]
      simp [h1, setsK, wtd]
    rw [normL_map n l _ 0 (argF_shaped hf h0 h1 hh) hl, if_neg h0, if_neg h1, Option.map_some]
    by_cases h2 : f.kind = 2
    · rw [n1 h0 h1 (by omega), n2 (by rw [h2]; rfl)]
      simp [h2, setsK, wtd]
    by_cases h3 : f.kind = 3
    · rw [n2 (by rw [h3]; rfl)]
      simp [h3, setsK, wtd]
    by_cases h4 : f.kind = 4
    · rw [n1 h0 h1 h3, n2 (by rw [h4]; rfl)]
      simp [h4, setsK, wtd]
    rw [if_neg h2, if_neg h3, if_neg h4, n1 h0 h1 h3, if_pos]
    unfold setsK wtd
    simp only [Bool.or_eq_true, decide_eq_true_eq]
    omega
theorem normL_map (n : Int) : ∀ (l : List Val) (g : Nat → Fun) (i : Nat), (∀ j, j < l.length → shapedF (g (i + j)) = true) → okL exL n l g i = true → normL n l g i = some (mapL idV l g i)
  | [], g, i, _, h => by rw [normL, mapL]
  | v :: r, g, i, hg, h => by
    rw [okL, Bool.and_eq_true] at h
    rw [normL, mapL, norm_map n v (g i) (hg 0 (by simp)) h.1, normL_map n r g (i + 1) (fun j hj => by have := hg (j + 1) (by simpa using hj); rwa [show i + (j + 1) = i + 1 + j by omega] at this) h.2]
    rfl
theorem argF_shaped {n : Int} {f : Fun} {k : Int} {m : Nat} {w : List Int} (hf : shapedF f = true) (h0 : ¬ f.kind = 0) (h1 : ¬ f.kind = 1) (hh : headL n f k m w = true) : ∀ j, j < m → shapedF (argF f k (0 + j)) = true := by
  intro j hj
  have hk := shaped_kind hf
  rw [Nat.zero_add]
  unfold argF
  unfold headL at hh
  simp only [Bool.and_eq_true, decide_eq_true_eq] at hh
  obtain ⟨⟨g1, g2⟩, _⟩ := hh
  rw [if_neg (by omega)] at g1
  split
  · rename_i h2
    rw [if_pos h2] at g1
    simp only [decide_eq_true_eq] at g1
    rw [List.getD_eq_getElem?_getD, List.getElem?_eq_getElem (by omega)]
    exact shaped_arg hf (by omega)
  · rename_i h2
    rw [if_neg h2] at g1
    split
    · rename_i h3
      rw [if_pos h3] at g1
      simp only [decide_eq_true_eq] at g1
      rw [List.getD_eq_getElem?_getD, List.getElem?_eq_getElem (by omega)]
      exact shaped_arg hf (by omega)
    · rw [List.getD_eq_getElem?_getD, List.getElem?_eq_getElem (by omega)]
      exact shaped_arg hf (by omega)
end
mutual
theorem norm_none (n : Int) : ∀ (v : Val) (f : Fun), okV exL n v f = false → normV n v f = none
  | .mk k l w, f, h => by
    rw [okV] at h
    rw [normV]
    split
    · rename_i hh
      rw [hh] at h
      have h' : okL exL n l (argF f k) 0 = false := by simpa [exL] using h
      rw [normL_none n l _ _ h', Option.map_none]
    · rfl
theorem normL_none (n : Int) : ∀ (l : List Val) (g : Nat → Fun) (i : Nat), okL exL n l g i = false → normL n l g i = none
  | [], g, i, h => by rw [okL] at h; cases h
  | v :: r, g, i, h => by
    rw [okL] at h
    rw [normL]
    cases h1 : okV exL n v (g i)
    · rw [norm_none n v _ h1]
      rfl
    · rw [h1, Bool.true_and] at h
      rw [normL_none n r _ _ h]
      cases normV n v (g i) <;> rfl
end

/-! ### Merging in any order -/
/-- The weights of an element together. -/
def wtP (u : Val) : List (Val × Int) → Int
  | [] => 0
  | p :: r => (if cmpV p.1 u = 0 then p.2 else 0) + wtP u r
theorem wtP_ins (u a : Val) (w : Int) : ∀ o : List (Val × Int), wtP u (insP a w o) = wtP u o + (if cmpV a u = 0 then w else 0)
  | [] => by simp [insP, wtP]
  | x :: r => by
    rw [insP]
    split
    · rename_i h
      rw [cmpV_zero] at h
      subst h
      simp only [wtP]
      split <;> omega
    · split
      · simp only [wtP]; omega
      · simp only [wtP, wtP_ins u a w r]; omega
theorem wtP_merge (u : Val) : ∀ l o : List (Val × Int), wtP u (mergeF o l) = wtP u l + wtP u o
  | [], o => by simp [mergeF, wtP]
  | p :: r, o => by
    rw [show mergeF o (p :: r) = mergeF (insP p.1 p.2 o) r from rfl, wtP_merge u r, wtP_ins, wtP]
    omega
theorem wtP_perm (u : Val) {l r : List (Val × Int)} (h : l.Perm r) : wtP u l = wtP u r := by
  induction h with
  | nil => rfl
  | cons x _ ih => rw [wtP, wtP, ih]
  | swap x y l => rw [wtP, wtP, wtP, wtP]; omega
  | trans _ _ ih1 ih2 => rw [ih1, ih2]
theorem insP_has {u : Val} {w : Int} : ∀ {o : List (Val × Int)} (v : Val), (∃ p, p ∈ insP u w o ∧ p.1 = v) ↔ v = u ∨ ∃ p, p ∈ o ∧ p.1 = v
  | [], v => by
    rw [insP]
    simp
    exact eq_comm
  | x :: r, v => by
    rw [insP]
    split
    · rename_i h
      rw [cmpV_zero] at h
      subst h
      simp only [List.mem_cons, exists_eq_or_imp]
      constructor
      · exact fun h => .inr h
      · rintro (h | h)
        · exact .inl h.symm
        · exact h
    · split
      · simp only [List.mem_cons, exists_eq_or_imp]
        constructor
        · rintro (h | h)
          · exact .inl h.symm
          · exact .inr h
        · rintro (h | h)
          · exact .inl h.symm
          · exact .inr h
      · simp only [List.mem_cons, exists_eq_or_imp, insP_has v]
        constructor
        · rintro (h | h | h)
          · exact .inr (.inl h)
          · exact .inl h
          · exact .inr (.inr h)
        · rintro (h | h | h)
          · exact .inr (.inl h)
          · exact .inl h
          · exact .inr (.inr h)
theorem mergeF_has (v : Val) : ∀ l o : List (Val × Int), (∃ p, p ∈ mergeF o l ∧ p.1 = v) ↔ (∃ p, p ∈ l ∧ p.1 = v) ∨ ∃ p, p ∈ o ∧ p.1 = v
  | [], o => by simp [mergeF]
  | x :: r, o => by
    rw [show mergeF o (x :: r) = mergeF (insP x.1 x.2 o) r from rfl, mergeF_has v r, insP_has]
    simp only [List.mem_cons, exists_eq_or_imp]
    constructor
    · rintro (h | h | h)
      · exact .inl (.inr h)
      · exact .inl (.inl h.symm)
      · exact .inr h
    · rintro ((h | h) | h)
      · exact .inr (.inl h.symm)
      · exact .inl h
      · exact .inr (.inr h)
theorem wtP_none {u : Val} : ∀ {l : List (Val × Int)}, (∀ p, p ∈ l → cmpV p.1 u ≠ 0) → wtP u l = 0
  | [], _ => rfl
  | p :: r, h => by rw [wtP, if_neg (h p List.mem_cons_self), wtP_none fun q hq => h q (List.mem_cons_of_mem _ hq)]; rfl
theorem lists_eq : ∀ {l r : List (Val × Int)}, l.Pairwise LtP → r.Pairwise LtP → (∀ v, (∃ p, p ∈ l ∧ p.1 = v) ↔ ∃ p, p ∈ r ∧ p.1 = v) → (∀ v, wtP v l = wtP v r) → l = r
  | [], [], _, _, _, _ => rfl
  | [], y :: r, _, _, h, _ => by obtain ⟨p, hp, _⟩ := (h y.1).2 ⟨y, List.mem_cons_self, rfl⟩; cases hp
  | x :: l, [], _, _, h, _ => by obtain ⟨p, hp, _⟩ := (h x.1).1 ⟨x, List.mem_cons_self, rfl⟩; cases hp
  | x :: l, y :: r, hl, hr, h, hw => by
    rw [List.pairwise_cons] at hl hr
    have e : x.1 = y.1 := by
      obtain ⟨p, hp, e1⟩ := (h x.1).1 ⟨x, List.mem_cons_self, rfl⟩
      rcases List.mem_cons.1 hp with rfl | hp
      · exact e1.symm
      · obtain ⟨q, hq, e2⟩ := (h y.1).2 ⟨y, List.mem_cons_self, rfl⟩
        rcases List.mem_cons.1 hq with rfl | hq
        · exact e2
        · have h1 := hr.1 p hp
          have h2 := hl.1 q hq
          unfold LtP at h1 h2
          rw [e1] at h1
          rw [e2] at h2
          have := cmpV_anti x.1 y.1
          omega
    have nl : ∀ p, p ∈ l → cmpV p.1 x.1 ≠ 0 := fun p hp => by
      have := hl.1 p hp
      unfold LtP at this
      have := cmpV_anti x.1 p.1
      omega
    have nr : ∀ p, p ∈ r → cmpV p.1 x.1 ≠ 0 := fun p hp => by
      have := hr.1 p hp
      unfold LtP at this
      rw [← e] at this
      have := cmpV_anti x.1 p.1
      omega
    have e2 : x.2 = y.2 := by
      have := hw x.1
      rw [wtP, wtP, wtP_none nl, wtP_none nr, ← e, cmpV_self] at this
      simpa using this
    have hxy : x = y := Prod.ext e e2
    subst hxy
    rw [lists_eq hl.2 hr.2 (fun v => ?_) fun v => ?_]
    · constructor
      · rintro ⟨p, hp, rfl⟩
        obtain ⟨q, hq, e3⟩ := (h p.1).1 ⟨p, List.mem_cons_of_mem _ hp, rfl⟩
        rcases List.mem_cons.1 hq with rfl | hq
        · exact absurd ((cmpV_zero _ _).2 e3.symm) (nl p hp)
        · exact ⟨q, hq, e3⟩
      · rintro ⟨p, hp, rfl⟩
        obtain ⟨q, hq, e3⟩ := (h p.1).2 ⟨p, List.mem_cons_of_mem _ hp, rfl⟩
        rcases List.mem_cons.1 hq with rfl | hq
        · exact absurd ((cmpV_zero _ _).2 e3.symm) (nr p hp)
        · exact ⟨q, hq, e3⟩
    · have := hw v
      rw [wtP, wtP] at this
      omega
/-- The order of what is merged does not count. -/
theorem merge_perm {l r : List (Val × Int)} (h : l.Perm r) : mergeF [] l = mergeF [] r :=
  lists_eq (mergeF_sorted _ _ List.Pairwise.nil) (mergeF_sorted _ _ List.Pairwise.nil)
    (fun v => by rw [mergeF_has, mergeF_has]; simp only [h.mem_iff]) (fun v => by rw [wtP_merge, wtP_merge, wtP_perm v h])
end AE
end Go.Proofs.YthoomlenmgdebaaGreatDoor
