/- Values: what the check leaves; divisors in steps; small laws for the evaluation. -/
import Derived.Test.YthoomlenmgdebaaGreatDoorV5
import Derived.Test.YthoomlenmgdebaaGreatDoorAF1
set_option linter.unusedVariables false
set_option linter.unusedSimpArgs false
namespace Go.Proofs.YthoomlenmgdebaaGreatDoor
namespace AE
open Go

theorem chkV_eq (ex : Fun → List Val → List Int → Bool) (n : Int) (v : Val) (f : Fun) (q : Int) : chkV ex n v f q = if q - 1 < 0 ∨ headL n f v.num v.args.length v.ws = false ∨ ex f v.args v.ws = false then (false, q - 1) else chkL ex n v.args (argF f v.num) 0 (q - 1) := by cases v; rw [chkV]; rfl
theorem chkL_drop {ex : Fun → List Val → List Int → Bool} {n : Int} {l : List Val} {i : Nat} (h : i < l.length) (g : Nat → Fun) (q : Int) : chkL ex n (l.drop i) g i q = if (chkV ex n l[i] (g i) q).1 then chkL ex n (l.drop (i + 1)) g (i + 1) (chkV ex n l[i] (g i) q).2 else (false, (chkV ex n l[i] (g i) q).2) := by rw [List.drop_eq_getElem_cons h, chkL]
mutual
theorem chkV_le (ex : Fun → List Val → List Int → Bool) (n : Int) : ∀ (v : Val) (f : Fun) (q : Int), (chkV ex n v f q).2 ≤ q ∧ min q 0 - 1 ≤ (chkV ex n v f q).2
  | .mk k l w, f, q => by
    rw [chkV]
    split
    · simp only; omega
    · rename_i hc
      simp only [not_or, Int.not_lt] at hc
      have := chkL_le ex n l (argF f k) 0 (q - 1) hc.1
      omega
theorem chkL_le (ex : Fun → List Val → List Int → Bool) (n : Int) : ∀ (l : List Val) (g : Nat → Fun) (i : Nat) (q : Int), 0 ≤ q → (chkL ex n l g i q).2 ≤ q ∧ -1 ≤ (chkL ex n l g i q).2
  | [], g, i, q, h => by rw [chkL]; simp only; omega
  | v :: r, g, i, q, h => by
    rw [chkL]
    have h1 := chkV_le ex n v (g i) q
    have h2 := chkV_spec ex n v (g i) q h
    split
    · rename_i hc
      have h3 := (h2.1.1 hc).1
      have h4 := h2.2 hc
      have := chkL_le ex n r g (i + 1) (chkV ex n v (g i) q).2 (by omega)
      omega
    · simp only; omega
end
theorem chkV_pos (ex : Fun → List Val → List Int → Bool) (n : Int) (v : Val) (f : Fun) (q : Int) (h : 0 ≤ q) (hc : (chkV ex n v f q).1 = true) : 0 ≤ (chkV ex n v f q).2 := by
  have h2 := chkV_spec ex n v f q h
  have := (h2.1.1 hc).1
  have := h2.2 hc
  omega
theorem okV_eq (ex : Fun → List Val → List Int → Bool) (n : Int) (v : Val) (f : Fun) : okV ex n v f = (headL n f v.num v.args.length v.ws && ex f v.args v.ws && okL ex n v.args (argF f v.num) 0) := by cases v; rw [okV]; rfl
theorem okL_mem {ex : Fun → List Val → List Int → Bool} {n : Int} : ∀ {l : List Val} {g : Nat → Fun} {i : Nat}, okL ex n l g i = true → ∀ j (h : j < l.length), okV ex n l[j] (g (i + j)) = true
  | v :: r, g, i, h, 0, _ => by rw [okL, Bool.and_eq_true] at h; exact h.1
  | v :: r, g, i, h, j + 1, hj => by
    rw [okL, Bool.and_eq_true] at h
    have := okL_mem h.2 j (by simpa using hj)
    rw [show i + 1 + j = i + (j + 1) by omega] at this
    simpa using this
theorem normV_eq (n : Int) (v : Val) (f : Fun) : normV n v f = if headL n f v.num v.args.length v.ws then (normL n v.args (argF f v.num) 0).map (fun xs => if setsK f.kind then mergeV f.kind v.num xs v.ws else .mk v.num xs v.ws) else none := by cases v; rw [normV]; rfl
theorem normL_drop {n : Int} {l : List Val} {i : Nat} (h : i < l.length) (g : Nat → Fun) : normL n (l.drop i) g i = (normV n l[i] (g i)).bind fun x => (normL n (l.drop (i + 1)) g (i + 1)).map (x :: ·) := by rw [List.drop_eq_getElem_cons h, normL]
theorem wideV_eq (v : Val) (f : Fun) : wideV v f = ((setsK f.kind && decide (100 < v.args.length)) || wideL v.args (argF f v.num) 0) := by cases v; rw [wideV]; rfl
theorem wideL_drop {l : List Val} {i : Nat} (h : i < l.length) (g : Nat → Fun) : wideL (l.drop i) g i = (wideV l[i] (g i) || wideL (l.drop (i + 1)) g (i + 1)) := by rw [List.drop_eq_getElem_cons h, wideL]
theorem leavesV_eq (v : Val) (f : Fun) : leavesV v f = if f.kind = 0 then [v.num] else leavesL v.args (argF f v.num) 0 := by cases v; rw [leavesV]; rfl
theorem leavesL_drop {l : List Val} {i : Nat} (h : i < l.length) (g : Nat → Fun) : leavesL (l.drop i) g i = leavesV l[i] (g i) ++ leavesL (l.drop (i + 1)) g (i + 1) := by rw [List.drop_eq_getElem_cons h, leavesL]
theorem statesL_drop {l : List Val} {i : Nat} (h : i < l.length) (g : Nat → Fun) (o : List Int) : statesL (l.drop i) g i o = statesL (l.drop (i + 1)) g (i + 1) (statesV l[i] (g i) o) := by rw [List.drop_eq_getElem_cons h, statesL]
theorem statesV_def (v : Val) (f : Fun) (o : List Int) : statesV v f o = if f.kind = 0 then insI v.num o else statesL v.args (argF f v.num) 0 o := by cases v; rw [statesV]; rfl
theorem weighI_drop {l : List Int} {i : Nat} (h : i < l.length) (s : Int) : weighI (l.drop i) s = if l[i] < 1 ∨ 1048576 - s < l[i] then false else weighI (l.drop (i + 1)) (s + l[i]) := by rw [List.drop_eq_getElem_cons h, weighI]
theorem gcdF_drop {l : List Int} {i : Nat} (h : i < l.length) (g : Nat) : gcdF g (l.drop i) = gcdF (Nat.gcd g l[i].natAbs) (l.drop (i + 1)) := by rw [List.drop_eq_getElem_cons h]; rfl
theorem gcdF_le : ∀ (l : List Int) (g b : Nat), g ≤ b → (∀ w, w ∈ l → 1 ≤ w ∧ w ≤ b) → gcdF g l ≤ b
  | [], g, b, h, _ => h
  | x :: r, g, b, h, k => by
    refine gcdF_le r _ b ?_ fun w hw => k w (List.mem_cons_of_mem _ hw)
    have hx := k x List.mem_cons_self
    show Nat.gcd g x.natAbs ≤ b
    have := Nat.le_of_dvd (by omega) (Nat.gcd_dvd_right g x.natAbs)
    omega
theorem tmod_nat (a b : Nat) : (a : Int).tmod (b : Int) = ((a % b : Nat) : Int) := (Int.ofNat_tmod a b).symm
theorem setsK_kind {k : Int} (h : setsK k = true) : k = 5 ∨ k = 6 ∨ k = 7 := by
  unfold setsK wtd at h
  simp only [Bool.or_eq_true, decide_eq_true_eq] at h
  exact h
theorem strictL_drop {l : List Val} {i : Nat} (h : i + 1 < l.length) : strictL (l.drop i) = (decide (cmpV l[i] l[i + 1] < 0) && strictL (l.drop (i + 1))) := by
  rw [List.drop_eq_getElem_cons (show i < l.length by omega), List.drop_eq_getElem_cons h, strictL]
theorem strictL_end {l : List Val} {i : Nat} (h : l.length ≤ i + 1) : strictL (l.drop i) = true := by
  by_cases h1 : i < l.length
  · rw [List.drop_eq_getElem_cons h1, List.drop_eq_nil_of_le h, strictL]
  · rw [List.drop_eq_nil_of_le (by omega), strictL]
/-- What is left of a functor's check. -/
theorem shaped_kind {f : Fun} (h : shapedF f = true) : (f.kind = 0 ∧ f.args.length = 0) ∨ (f.kind = 1 ∧ f.args.length = 0) ∨ (f.kind = 2 ∧ f.args.length = 2) ∨ (f.kind = 3 ∧ f.args.length = 2) ∨ (f.kind = 4 ∧ f.args.length = 1) ∨ (f.kind = 5 ∧ f.args.length = 1) ∨ (f.kind = 6 ∧ f.args.length = 1) ∨ (f.kind = 7 ∧ f.args.length = 1) := by
  rw [shapedF_eq] at h
  simp only [Bool.and_eq_true, decide_eq_true_eq] at h
  have h1 := h.1.1.1
  unfold arityF at h1
  repeat' split at h1
  all_goals omega
theorem shaped_num {f : Fun} (h : shapedF f = true) : 0 ≤ f.num ∧ f.num ≤ 16 ∧ (f.kind = 4 → 1 ≤ f.num ∧ f.num ≤ 4) ∧ (f.kind = 1 → 1 ≤ f.num) := by
  rw [shapedF_eq] at h
  simp only [Bool.and_eq_true, decide_eq_true_eq] at h
  have h1 := h.1.1.2
  have h2 := h.1.2
  unfold mostF at h1 h2
  repeat' split at h1
  all_goals (try split at h2) <;> (try split at h2) <;> omega
theorem shapedL_at : ∀ {l : List Fun} {i : Nat} (hi : i < l.length), shapedL l = true → shapedF l[i] = true
  | f :: r, 0, _, h => by rw [shapedL, Bool.and_eq_true] at h; exact h.1
  | f :: r, i + 1, hi, h => by 
    rw [shapedL, Bool.and_eq_true] at h
    have := shapedL_at (l := r) (i := i) (by simpa using hi) h.2
    simpa using this
theorem shaped_arg {f : Fun} (h : shapedF f = true) {i : Nat} (hi : i < f.args.length) : shapedF f.args[i] = true := by
  rw [shapedF_eq] at h
  simp only [Bool.and_eq_true, decide_eq_true_eq] at h
  exact shapedL_at hi h.2
end AE
end Go.Proofs.YthoomlenmgdebaaGreatDoor
