/- The order of values: plain laws. -/
import Derived.Test.YthoomlenmgdebaaGreatDoorATV
set_option linter.unusedVariables false
set_option linter.unusedSimpArgs false
namespace Go.Proofs.YthoomlenmgdebaaGreatDoor
namespace AE
open Go

def numC (a b : Int) : Int := if a < b then -1 else if b < a then 1 else 0
def lexI : List Int → List Int → Int
  | [], [] => 0
  | [], _ :: _ => -1
  | _ :: _, [] => 1
  | x :: r, y :: q => if numC x y = 0 then lexI r q else numC x y
mutual
def cmpV : Val → Val → Int
  | .mk n l w, .mk n' l' w' => if numC n n' = 0 then (if cmpL l l' = 0 then lexI w w' else cmpL l l') else numC n n'
def cmpL : List Val → List Val → Int
  | [], [] => 0
  | [], _ :: _ => -1
  | _ :: _, [] => 1
  | x :: r, y :: q => if cmpV x y = 0 then cmpL r q else cmpV x y
end
theorem cmpV_eq (u v : Val) : cmpV u v = if numC u.num v.num = 0 then (if cmpL u.args v.args = 0 then lexI u.ws v.ws else cmpL u.args v.args) else numC u.num v.num := by cases u; cases v; rw [cmpV]; rfl
theorem numC_range (a b : Int) : -1 ≤ numC a b ∧ numC a b ≤ 1 := by
  unfold numC
  repeat' split
  all_goals omega
theorem numC_zero {a b : Int} : numC a b = 0 ↔ a = b := by
  unfold numC
  repeat' split
  all_goals omega
theorem numC_anti (a b : Int) : numC b a = - numC a b := by
  unfold numC
  repeat' split
  all_goals omega
theorem numC_trans {a b c : Int} (h : numC a b ≤ 0) (k : numC b c ≤ 0) : numC a c ≤ 0 := by
  unfold numC at *
  repeat' split at h
  all_goals repeat' split at k
  all_goals repeat' split
  all_goals omega
theorem lexI_range : ∀ l r : List Int, -1 ≤ lexI l r ∧ lexI l r ≤ 1
  | [], [] => by rw [lexI]; omega
  | [], _ :: _ => by rw [lexI]; omega
  | _ :: _, [] => by rw [lexI]; omega
  | x :: r, y :: q => by
    rw [lexI]
    have := lexI_range r q
    have := numC_range x y
    split <;> omega
theorem lexI_zero : ∀ l r : List Int, lexI l r = 0 ↔ l = r
  | [], [] => by simp [lexI]
  | [], _ :: _ => by simp [lexI]
  | _ :: _, [] => by simp [lexI]
  | x :: r, y :: q => by
    rw [lexI, List.cons.injEq]
    by_cases h : numC x y = 0
    · rw [if_pos h, lexI_zero r q]
      simp [numC_zero.1 h]
    · rw [if_neg h]
      exact ⟨fun e => absurd e h, fun e => absurd (numC_zero.2 e.1) h⟩
theorem lexI_anti : ∀ l r : List Int, lexI r l = - lexI l r
  | [], [] => by simp [lexI]
  | [], _ :: _ => by simp [lexI]
  | _ :: _, [] => by simp [lexI]
  | x :: r, y :: q => by
    rw [lexI, lexI, numC_anti x y, lexI_anti r q]
    by_cases h : numC x y = 0
    · rw [if_pos h, if_pos (by omega)]
    · rw [if_neg h, if_neg (by omega)]
theorem lexI_trans : ∀ {l r s : List Int}, lexI l r ≤ 0 → lexI r s ≤ 0 → lexI l s ≤ 0
  | [], _, [], _, _ => by rw [lexI]; omega
  | [], _, _ :: _, _, _ => by rw [lexI]; omega
  | _ :: _, [], s, h, _ => by rw [lexI] at h; omega
  | _ :: _, _ :: _, [], _, k => by rw [lexI] at k; omega
  | x :: r, y :: q, z :: s, h, k => by
    rw [lexI] at h k ⊢
    have a1 := numC_range x y
    have a2 := numC_range y z
    by_cases e1 : numC x y = 0
    · rw [if_pos e1] at h
      rw [numC_zero] at e1
      subst e1
      split
      · rename_i e2
        rw [if_pos e2] at k
        exact lexI_trans h k
      · rename_i e2
        rw [if_neg e2] at k
        exact k
    · rw [if_neg e1] at h
      by_cases e2 : numC y z = 0
      · rw [numC_zero] at e2
        subst e2
        rw [if_neg e1]
        exact h
      · rw [if_neg e2] at k
        have h3 := numC_trans h k
        by_cases e3 : numC x z = 0
        · exfalso
          rw [numC_zero] at e3
          subst e3
          have := numC_anti x y
          omega
        · rw [if_neg e3]
          exact h3
mutual
theorem cmpV_range : ∀ u v : Val, -1 ≤ cmpV u v ∧ cmpV u v ≤ 1
  | .mk n l w, .mk n' l' w' => by
    rw [cmpV]
    have := numC_range n n'
    have := cmpL_range l l'
    have := lexI_range w w'
    repeat' split
    all_goals omega
theorem cmpL_range : ∀ l r : List Val, -1 ≤ cmpL l r ∧ cmpL l r ≤ 1
  | [], [] => by rw [cmpL]; omega
  | [], _ :: _ => by rw [cmpL]; omega
  | _ :: _, [] => by rw [cmpL]; omega
  | x :: r, y :: q => by
    rw [cmpL]
    have := cmpL_range r q
    have := cmpV_range x y
    split <;> omega
end
mutual
theorem cmpV_zero : ∀ u v : Val, cmpV u v = 0 ↔ u = v
  | .mk n l w, .mk n' l' w' => by
    rw [cmpV, Val.mk.injEq]
    by_cases h : numC n n' = 0
    · rw [if_pos h]
      by_cases h2 : cmpL l l' = 0
      · rw [if_pos h2, lexI_zero w w']
        simp [numC_zero.1 h, (cmpL_zero l l').1 h2]
      · rw [if_neg h2]
        exact ⟨fun e => absurd e h2, fun e => absurd ((cmpL_zero l l').2 e.2.1) h2⟩
    · rw [if_neg h]
      exact ⟨fun e => absurd e h, fun e => absurd (numC_zero.2 e.1) h⟩
theorem cmpL_zero : ∀ l r : List Val, cmpL l r = 0 ↔ l = r
  | [], [] => by simp [cmpL]
  | [], _ :: _ => by simp [cmpL]
  | _ :: _, [] => by simp [cmpL]
  | x :: r, y :: q => by
    rw [cmpL, List.cons.injEq]
    by_cases h : cmpV x y = 0
    · rw [if_pos h, cmpL_zero r q]
      simp [(cmpV_zero x y).1 h]
    · rw [if_neg h]
      exact ⟨fun e => absurd e h, fun e => absurd ((cmpV_zero x y).2 e.1) h⟩
end
mutual
theorem cmpV_anti : ∀ u v : Val, cmpV v u = - cmpV u v
  | .mk n l w, .mk n' l' w' => by
    rw [cmpV, cmpV, numC_anti n n', cmpL_anti l l', lexI_anti w w']
    by_cases h : numC n n' = 0
    · rw [if_pos h, if_pos (by omega)]
      by_cases h2 : cmpL l l' = 0
      · rw [if_pos h2, if_pos (by omega)]
      · rw [if_neg h2, if_neg (by omega)]
    · rw [if_neg h, if_neg (by omega)]
theorem cmpL_anti : ∀ l r : List Val, cmpL r l = - cmpL l r
  | [], [] => by simp [cmpL]
  | [], _ :: _ => by simp [cmpL]
  | _ :: _, [] => by simp [cmpL]
  | x :: r, y :: q => by
    rw [cmpL, cmpL, cmpV_anti x y, cmpL_anti r q]
    by_cases h : cmpV x y = 0
    · rw [if_pos h, if_pos (by omega)]
    · rw [if_neg h, if_neg (by omega)]
end
mutual
theorem cmpV_trans : ∀ {u v w : Val}, cmpV u v ≤ 0 → cmpV v w ≤ 0 → cmpV u w ≤ 0
  | .mk n l w, .mk n' l' w', .mk n'' l'' w'', h, k => by
    rw [cmpV] at h k ⊢
    by_cases e1 : numC n n' = 0
    · rw [if_pos e1] at h
      rw [numC_zero] at e1
      subst e1
      by_cases e2 : numC n n'' = 0
      · rw [if_pos e2] at k ⊢
        by_cases f1 : cmpL l l' = 0
        · rw [if_pos f1] at h
          rw [cmpL_zero] at f1
          subst f1
          by_cases f2 : cmpL l l'' = 0
          · rw [if_pos f2] at k ⊢
            exact lexI_trans h k
          · rw [if_neg f2] at k ⊢
            exact k
        · rw [if_neg f1] at h
          by_cases f2 : cmpL l' l'' = 0
          · rw [cmpL_zero] at f2
            subst f2
            rw [if_neg f1]
            exact h
          · rw [if_neg f2] at k
            have h3 := cmpL_trans h k
            by_cases f3 : cmpL l l'' = 0
            · exfalso
              rw [cmpL_zero] at f3
              subst f3
              have := cmpL_anti l l'
              omega
            · rw [if_neg f3]
              exact h3
      · rw [if_neg e2] at k ⊢
        exact k
    · rw [if_neg e1] at h
      by_cases e2 : numC n' n'' = 0
      · rw [numC_zero] at e2
        subst e2
        rw [if_neg e1]
        exact h
      · rw [if_neg e2] at k
        have h3 := numC_trans h k
        by_cases e3 : numC n n'' = 0
        · exfalso
          rw [numC_zero] at e3
          subst e3
          have := numC_anti n n'
          omega
        · rw [if_neg e3]
          exact h3
theorem cmpL_trans : ∀ {l r s : List Val}, cmpL l r ≤ 0 → cmpL r s ≤ 0 → cmpL l s ≤ 0
  | [], _, [], _, _ => by rw [cmpL]; omega
  | [], _, _ :: _, _, _ => by rw [cmpL]; omega
  | _ :: _, [], s, h, _ => by rw [cmpL] at h; omega
  | _ :: _, _ :: _, [], _, k => by rw [cmpL] at k; omega
  | x :: r, y :: q, z :: s, h, k => by
    rw [cmpL] at h k ⊢
    by_cases e1 : cmpV x y = 0
    · rw [if_pos e1] at h
      rw [cmpV_zero] at e1
      subst e1
      split
      · rename_i e2
        rw [if_pos e2] at k
        exact cmpL_trans h k
      · rename_i e2
        rw [if_neg e2] at k
        exact k
    · rw [if_neg e1] at h
      by_cases e2 : cmpV y z = 0
      · rw [cmpV_zero] at e2
        subst e2
        rw [if_neg e1]
        exact h
      · rw [if_neg e2] at k
        have h3 := cmpV_trans h k
        by_cases e3 : cmpV x z = 0
        · exfalso
          rw [cmpV_zero] at e3
          subst e3
          have := cmpV_anti x y
          omega
        · rw [if_neg e3]
          exact h3
end
theorem cmpV_self (u : Val) : cmpV u u = 0 := (cmpV_zero u u).2 rfl
theorem cmpL_drop {l r : List Val} {i : Nat} (h : i < l.length) (h' : i < r.length) : cmpL (l.drop i) (r.drop i) = if cmpV l[i] r[i] = 0 then cmpL (l.drop (i + 1)) (r.drop (i + 1)) else cmpV l[i] r[i] := by
  rw [List.drop_eq_getElem_cons h, List.drop_eq_getElem_cons h', cmpL]
theorem cmpL_long {l r : List Val} {i : Nat} (h : i < l.length) (h' : ¬ i < r.length) : cmpL (l.drop i) (r.drop i) = 1 := by
  rw [List.drop_eq_getElem_cons h, List.drop_eq_nil_of_le (show r.length ≤ i by omega), cmpL]
theorem cmpL_short {l r : List Val} {i : Nat} (h : ¬ i < l.length) (h' : i < r.length) : cmpL (l.drop i) (r.drop i) = -1 := by
  rw [List.drop_eq_nil_of_le (show l.length ≤ i by omega), List.drop_eq_getElem_cons h', cmpL]
theorem cmpL_end {l r : List Val} {i : Nat} (h : ¬ i < l.length) (h' : ¬ i < r.length) : cmpL (l.drop i) (r.drop i) = 0 := by
  rw [List.drop_eq_nil_of_le (show l.length ≤ i by omega), List.drop_eq_nil_of_le (show r.length ≤ i by omega), cmpL]
theorem lexI_drop {l r : List Int} {i : Nat} (h : i < l.length) (h' : i < r.length) : lexI (l.drop i) (r.drop i) = if numC l[i] r[i] = 0 then lexI (l.drop (i + 1)) (r.drop (i + 1)) else numC l[i] r[i] := by
  rw [List.drop_eq_getElem_cons h, List.drop_eq_getElem_cons h', lexI]
theorem lexI_long {l r : List Int} {i : Nat} (h : i < l.length) (h' : ¬ i < r.length) : lexI (l.drop i) (r.drop i) = 1 := by
  rw [List.drop_eq_getElem_cons h, List.drop_eq_nil_of_le (show r.length ≤ i by omega), lexI]
theorem lexI_short {l r : List Int} {i : Nat} (h : ¬ i < l.length) (h' : i < r.length) : lexI (l.drop i) (r.drop i) = -1 := by
  rw [List.drop_eq_nil_of_le (show l.length ≤ i by omega), List.drop_eq_getElem_cons h', lexI]
theorem lexI_end {l r : List Int} {i : Nat} (h : ¬ i < l.length) (h' : ¬ i < r.length) : lexI (l.drop i) (r.drop i) = 0 := by
  rw [List.drop_eq_nil_of_le (show l.length ≤ i by omega), List.drop_eq_nil_of_le (show r.length ≤ i by omega), lexI]
end AE
end Go.Proofs.YthoomlenmgdebaaGreatDoor
