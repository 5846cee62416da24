/- Values: mapped; the normal form as a map; merging in any order; plain laws. -/
import Derived.Test.YtejfmdoejokcaaaGreatDoorGF
set_option linter.unusedVariables false
set_option linter.unusedSimpArgs false
namespace Go.Proofs.YtejfmdoejokcaaaGreatDoor
namespace AE
open Go
mutual
def mapV (t : Int → Val) : Val → Fun → Val
  | .mk k l w, f => if f.kind = 0 then t k else if f.kind = 1 then .mk k [] [] else if f.kind = 2 then .mk 0 (mapL t l (argF f k) 0) [] else if f.kind = 3 then .mk k (mapL t l (argF f k) 0) [] else if f.kind = 4 then .mk 0 (mapL t l (argF f k) 0) [] else mergeV f.kind 0 (mapL t l (argF f k) 0) w
def mapL (t : Int → Val) : List Val → (Nat → Fun) → Nat → List Val
  | [], _, _ => []
  | v :: r, g, i => mapV t v (g i) :: mapL t r g (i + 1)
end
def idV (x : Int) : Val := .mk x [] []
theorem mapV_eq (t : Int → Val) (v : Val) (f : Fun) : mapV t v f = if f.kind = 0 then t v.num else if f.kind = 1 then .mk v.num [] [] else if f.kind = 2 then .mk 0 (mapL t v.args (argF f v.num) 0) [] else if f.kind = 3 then .mk v.num (mapL t v.args (argF f v.num) 0) [] else if f.kind = 4 then .mk 0 (mapL t v.args (argF f v.num) 0) [] else mergeV f.kind 0 (mapL t v.args (argF f v.num) 0) v.ws := by cases v; rw [mapV]; rfl
theorem mapL_length (t : Int → Val) : ∀ (l : List Val) (g : Nat → Fun) (i : Nat), (mapL t l g i).length = l.length
  | [], g, i => by rw [mapL]
  | v :: r, g, i => by rw [mapL, List.length_cons, List.length_cons, mapL_length t r g (i + 1)]
theorem mapL_drop {t : Int → Val} {l : List Val} {i : Nat} (h : i < l.length) (g : Nat → Fun) : mapL t (l.drop i) g i = mapV t l[i] (g i) :: mapL t (l.drop (i + 1)) g (i + 1) := by rw [List.drop_eq_getElem_cons h, mapL]
theorem head_num {n : Int} {f : Fun} {k : Int} {m : Nat} {w : List Int} (h : headL n f k m w = true) : (f.kind ≠ 0 → f.kind ≠ 1 → f.kind ≠ 3 → k = 0) ∧ (wtd f.kind = false → w = []) ∧ ((f.kind = 0 ∨ f.kind = 1) → m = 0) := by
  unfold headL at h
  simp only [Bool.and_eq_true, decide_eq_true_eq] at h
  obtain ⟨⟨h1, h2⟩, h3⟩ := h
  refine ⟨fun a b c => ?_, fun a => ?_, fun a => ?_⟩
  · rw [if_neg a, if_neg b, if_neg c] at h2
    omega
  · rw [a] at h3
    simpa using h3
  · rw [if_pos a] at h1
    simpa using h1
def wtP (u : Val) : List (Val × Int) → Int
  | [] => 0
  | p :: r => (if cmpV p.1 u = 0 then p.2 else 0) + wtP u r
theorem wtP_ins (u a : Val) (w : Int) : ∀ o : List (Val × Int), wtP u (insP a w o) = wtP u o + (if cmpV a u = 0 then w else 0)
  | [] => by simp [insP, wtP]
  | x :: r => by
    rw [insP]
    split
    · rename_i h
      rw [cmpV_zero] at h
      subst h
      simp only [wtP]
      split <;> omega
    · split
      · simp only [wtP]; omega
      · simp only [wtP, wtP_ins u a w r]; omega
theorem wtP_merge (u : Val) : ∀ l o : List (Val × Int), wtP u (mergeF o l) = wtP u l + wtP u o
  | [], o => by simp [mergeF, wtP]
  | p :: r, o => by
    rw [show mergeF o (p :: r) = mergeF (insP p.1 p.2 o) r from rfl, wtP_merge u r, wtP_ins, wtP]
    omega
theorem wtP_perm (u : Val) {l r : List (Val × Int)} (h : l.Perm r) : wtP u l = wtP u r := by
  induction h with
  | nil => rfl
  | cons x _ ih => rw [wtP, wtP, ih]
  | swap x y l => rw [wtP, wtP, wtP, wtP]; omega
  | trans _ _ ih1 ih2 => rw [ih1, ih2]
theorem insP_has {u : Val} {w : Int} : ∀ {o : List (Val × Int)} (v : Val), (∃ p, p ∈ insP u w o ∧ p.1 = v) ↔ v = u ∨ ∃ p, p ∈ o ∧ p.1 = v
  | [], v => by
    rw [insP]
    simp
    exact eq_comm
  | x :: r, v => by
    rw [insP]
    split
    · rename_i h
      rw [cmpV_zero] at h
      subst h
      simp only [List.mem_cons, exists_eq_or_imp]
      constructor
      · exact fun h => .inr h
      · rintro (h | h)
        · exact .inl h.symm
        · exact h
    · split
      · simp only [List.mem_cons, exists_eq_or_imp]
        constructor
        · rintro (h | h)
          · exact .inl h.symm
          · exact .inr h
        · rintro (h | h)
          · exact .inl h.symm
          · exact .inr h
      · simp only [List.mem_cons, exists_eq_or_imp, insP_has v]
        constructor
        · rintro (h | h | h)
          · exact .inr (.inl h)
          · exact .inl h
          · exact .inr (.inr h)
        · rintro (h | h | h)
          · exact .inr (.inl h)
          · exact .inl h
          · exact .inr (.inr h)
theorem mergeF_has (v : Val) : ∀ l o : List (Val × Int), (∃ p, p ∈ mergeF o l ∧ p.1 = v) ↔ (∃ p, p ∈ l ∧ p.1 = v) ∨ ∃ p, p ∈ o ∧ p.1 = v
  | [], o => by simp [mergeF]
  | x :: r, o => by
    rw [show mergeF o (x :: r) = mergeF (insP x.1 x.2 o) r from rfl, mergeF_has v r, insP_has]
    simp only [List.mem_cons, exists_eq_or_imp]
    constructor
    · rintro (h | h | h)
      · exact .inl (.inr h)
      · exact .inl (.inl h.symm)
      · exact .inr h
    · rintro ((h | h) | h)
      · exact .inr (.inl h.symm)
      · exact .inl h
      · exact .inr (.inr h)
theorem wtP_none {u : Val} : ∀ {l : List (Val × Int)}, (∀ p, p ∈ l → cmpV p.1 u ≠ 0) → wtP u l = 0
  | [], _ => rfl
  | p :: r, h => by rw [wtP, if_neg (h p List.mem_cons_self), wtP_none fun q hq => h q (List.mem_cons_of_mem _ hq)]; rfl
theorem lists_eq : ∀ {l r : List (Val × Int)}, l.Pairwise LtP → r.Pairwise LtP → (∀ v, (∃ p, p ∈ l ∧ p.1 = v) ↔ ∃ p, p ∈ r ∧ p.1 = v) → (∀ v, wtP v l = wtP v r) → l = r
  | [], [], _, _, _, _ => rfl
  | [], y :: r, _, _, h, _ => by obtain ⟨p, hp, _⟩ := (h y.1).2 ⟨y, List.mem_cons_self, rfl⟩; cases hp
  | x :: l, [], _, _, h, _ => by obtain ⟨p, hp, _⟩ := (h x.1).1 ⟨x, List.mem_cons_self, rfl⟩; cases hp
  | x :: l, y :: r, hl, hr, h, hw => by
    rw [List.pairwise_cons] at hl hr
    have e : x.1 = y.1 := by
      obtain ⟨p, hp, e1⟩ := (h x.1).1 ⟨x, List.mem_cons_self, rfl⟩
      rcases List.mem_cons.1 hp with rfl | hp
      · exact e1.symm
      · obtain ⟨q, hq, e2⟩ := (h y.1).2 ⟨y, List.mem_cons_self, rfl⟩
        rcases List.mem_cons.1 hq with rfl | hq
        · exact e2
        · have h1 := hr.1 p hp
          have h2 := hl.1 q hq
          unfold LtP at h1 h2
          rw [e1] at h1
          rw [e2] at h2
          have := cmpV_anti x.1 y.1
          omega
    have nl : ∀ p, p ∈ l → cmpV p.1 x.1 ≠ 0 := fun p hp => by
      have := hl.1 p hp
      unfold LtP at this
      have := cmpV_anti x.1 p.1
      omega
    have nr : ∀ p, p ∈ r → cmpV p.1 x.1 ≠ 0 := fun p hp => by
      have := hr.1 p hp
      unfold LtP at this
      rw [← e] at this
      have := cmpV_anti x.1 p.1
      omega
    have e2 : x.2 = y.2 := by
      have := hw x.1
      rw [wtP, wtP, wtP_none nl, wtP_none nr, ← e, cmpV_self] at this
      simpa using this
    have hxy : x = y := Prod.ext e e2
    subst hxy
    rw [lists_eq hl.2 hr.2 (fun v => ?_) fun v => ?_]
    · constructor
      · rintro ⟨p, hp, rfl⟩
        obtain ⟨q, hq, e3⟩ := (h p.1).1 ⟨p, List.mem_cons_of_mem _ hp, rfl⟩
        rcases List.mem_cons.1 hq with rfl | hq
        · exact absurd ((cmpV_zero _ _).2 e3.symm) (nl p hp)
        · exact ⟨q, hq, e3⟩
      · rintro ⟨p, hp, rfl⟩
        obtain ⟨q, hq, e3⟩ := (h p.1).2 ⟨p, List.mem_cons_of_mem _ hp, rfl⟩
        rcases List.mem_cons.1 hq with rfl | hq
        · exact absurd ((cmpV_zero _ _).2 e3.symm) (nr p hp)
        · exact ⟨q, hq, e3⟩
    · have := hw v
      rw [wtP, wtP] at this
      omega
theorem merge_perm {l r : List (Val × Int)} (h : l.Perm r) : mergeF [] l = mergeF [] r :=
  lists_eq (mergeF_sorted _ _ List.Pairwise.nil) (mergeF_sorted _ _ List.Pairwise.nil)
    (fun v => by rw [mergeF_has, mergeF_has]; simp only [h.mem_iff]) (fun v => by rw [wtP_merge, wtP_merge, wtP_perm v h])
theorem closed_up {nb nr : Nat} {cs : List A} (h : cs.all (closed 0 0) = true) : cs.all (closed nb nr) = true := by
  rw [List.all_eq_true] at h ⊢
  exact fun x hx => closed_mono (Nat.zero_le _) (Nat.zero_le _) x (h x hx)
theorem endRound_J {l : List Nat} {M L L' : List (List A)} {R J J' : List Row} {tm : List (Nat × A)} (hJ : J'.all (fun r => r.cs.all (closed 0 0)) = true) (hL : L.length ≤ L'.length) (hl : l.all (fun t => closed (M.length + L.length) (R.length + J'.length) (lk t tm)) = true) (hc : (L'.take L.length).all (fun cs => cs.all (closed (M.length + L.length) (R.length + J'.length))) = true) :
    endRound (some l) ⟨M ++ L, R ++ J⟩ ⟨tm, ⟨M ++ L', R ++ J'⟩⟩ = some ⟨prune (some l) tm, ⟨M ++ L'.take L.length, R ++ J'⟩⟩ := by
  refine endRound_R hL hl hc ?_
  rw [List.all_eq_true] at hJ ⊢
  exact fun r hr => closed_up (hJ r hr)
def mgA (id : Nat) (o : List (Val × Int)) : A := if o.length = 0 then .nils else .sl id (o.length * 3) 0 o.length
def mgW (k : Int) (id : Nat) (o : List (Val × Int)) : A := if wtd k = false ∨ o.length = 0 then .nils else .sl id o.length 0 o.length
structure MgS where
  i : Nat
  o : List (Val × Int)
  J : List Row
  ja : Nat
  jw : Nat
structure MgOk (k : Int) (nr : Nat) (s : MgS) : Prop where
  cl : s.J.all (fun r => r.cs.all (closed 0 0)) = true
  ra : 0 < s.o.length → s.J[s.ja]? = some ⟨93, Val.cellsL (s.o.map (·.1))⟩
  rw : 0 < s.o.length → wtd k = true → s.J[s.jw]? = some ⟨3, ints (s.o.map (·.2))⟩ ∧ s.ja ≠ s.jw
  ps : wtd k = true → ∀ p, p ∈ s.o → 1 ≤ p.2
theorem app_at {α : Type} (R J : List α) (j : Nat) : (R ++ J)[R.length + j]? = J[j]? := by
  rw [List.getElem?_append_right (by omega), Nat.add_sub_cancel_left]
theorem app_set {α : Type} (R J : List α) (j : Nat) (x : α) : (R ++ J).set (R.length + j) x = R ++ J.set j x := by
  rw [List.set_append_right _ _ (by omega), Nat.add_sub_cancel_left]
theorem all_set {p : Row → Bool} {J : List Row} (h : J.all p = true) (i : Nat) (r : Row) (hr : p r = true) : (J.set i r).all p = true := by
  rw [List.all_eq_true] at h ⊢
  intro x hx
  rcases List.mem_or_eq_of_mem_set hx with h1 | h1
  · exact h x h1
  · rw [h1]; exact hr
theorem sum_pos : ∀ {o : List (Val × Int)}, (∀ p, p ∈ o → 1 ≤ p.2) → 0 ≤ (o.map (·.2)).sum
  | [], _ => by simp
  | p :: r, h => by
    have := sum_pos fun q hq => h q (List.mem_cons_of_mem _ hq)
    have := h p List.mem_cons_self
    simp
    omega
theorem mem_sum : ∀ {o : List (Val × Int)} {q : Val × Int}, (∀ p, p ∈ o → 1 ≤ p.2) → q ∈ o → q.2 ≤ (o.map (·.2)).sum
  | p :: r, q, h, hq => by
    have h1 := sum_pos fun q hq => h q (List.mem_cons_of_mem p hq)
    have h2 := h p List.mem_cons_self
    simp only [List.map_cons, List.sum_cons]
    rcases List.mem_cons.1 hq with rfl | hq
    · omega
    · have := mem_sum (fun q hq => h q (List.mem_cons_of_mem p hq)) hq
      omega
theorem nodesL_ins (u : Val) (w : Int) : ∀ o : List (Val × Int), Val.nodesL ((insP u w o).map (·.1)) ≤ u.nodes + Val.nodesL (o.map (·.1)) ∧ (insP u w o).length ≤ o.length + 1
  | [] => by rw [insP]; simp [Val.nodesL]
  | p :: r => by
    rw [insP]
    have := nodesL_ins u w r
    split
    · simp [Val.nodesL] <;> omega
    · split
      · simp [Val.nodesL]
      · simp [Val.nodesL] <;> omega
theorem nodesL_merge : ∀ l o : List (Val × Int), Val.nodesL ((mergeF o l).map (·.1)) ≤ Val.nodesL (l.map (·.1)) + Val.nodesL (o.map (·.1)) ∧ (mergeF o l).length ≤ l.length + o.length
  | [], o => by simp [mergeF, Val.nodesL]
  | p :: r, o => by
    have h1 := nodesL_merge r (insP p.1 p.2 o)
    have h2 := nodesL_ins p.1 p.2 o
    rw [show mergeF o (p :: r) = mergeF (insP p.1 p.2 o) r from rfl]
    simp [Val.nodesL]
    omega
theorem slimL_of {l : List Val} (h : ∀ x, x ∈ l → slimV x) : slimL l := by
  induction l with
  | nil => rw [slimL]; trivial
  | cons a r ih => rw [slimL]; exact ⟨h a List.mem_cons_self, ih fun x hx => h x (List.mem_cons_of_mem _ hx)⟩
def zeroV : Val := .mk 0 [] []
def wR (w : List Int) : List Row := if w.length = 0 then [] else [⟨3, ints w⟩]
def wA (n : Nat) (w : List Int) : A := if w.length = 0 then .nils else .sl n w.length 0 w.length
def xR (xs : List Val) : List Row := if xs.length = 0 then [] else [⟨93, Val.cellsL xs⟩]
def xA (n : Nat) (xs : List Val) : A := if xs.length = 0 then .nils else .sl n (xs.length * 3) 0 xs.length
structure StS where
  R : List Row
  id : Nat
  l : List Int
def Grow (R R' : List Row) : Prop := R.length ≤ R'.length ∧ ∀ i, i < R'.length → R'[i]? = R[i]? ∨ ∃ r, R'[i]? = some r ∧ r.cs.all (closed 0 0) = true
theorem Grow.refl (R : List Row) : Grow R R := ⟨Nat.le_refl _, fun _ _ => .inl rfl⟩
theorem Grow.trans {a b c : List Row} (h : Grow a b) (k : Grow b c) : Grow a c := by
  refine ⟨Nat.le_trans h.1 k.1, fun i hi => ?_⟩
  rcases k.2 i hi with h1 | h1
  · by_cases hb : i < b.length
    · rcases h.2 i hb with h2 | ⟨r, h2, h3⟩
      · exact .inl (h1.trans h2)
      · exact .inr ⟨r, h1.trans h2, h3⟩
    · rw [List.getElem?_eq_none (show b.length ≤ i by omega)] at h1
      rw [List.getElem?_eq_getElem hi] at h1
      cases h1
  · exact .inr h1
theorem Grow.rows {R R' : List Row} (h : Grow R R') (nb : Nat) : RowsOk nb R R' := fun i hi => by
  rcases h.2 i hi with h1 | ⟨r, h1, h2⟩
  · exact .inl h1
  · exact .inr ⟨r, h1, closed_up h2⟩
end AE
end Go.Proofs.YtejfmdoejokcaaaGreatDoor
