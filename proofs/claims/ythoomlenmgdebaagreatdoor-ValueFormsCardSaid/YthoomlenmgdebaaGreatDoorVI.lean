/- Where an element is merged; plain laws. -/
import Derived.Test.YthoomlenmgdebaaGreatDoorVY2
import Derived.Test.YthoomlenmgdebaaGreatDoorV7
set_option linter.unusedVariables false
set_option linter.unusedSimpArgs false
namespace Go.Proofs.YthoomlenmgdebaaGreatDoor
namespace AE
open Go

def posP (u : Val) : List (Val × Int) → Nat × Int
  | [] => (0, 1)
  | p :: r => if 0 < cmpV u p.1 then ((posP u r).1 + 1, (posP u r).2) else (0, cmpV u p.1)
theorem posP_drop {u : Val} {o : List (Val × Int)} {i : Nat} (h : i < o.length) : posP u (o.drop i) = if 0 < cmpV u o[i].1 then ((posP u (o.drop (i + 1))).1 + 1, (posP u (o.drop (i + 1))).2) else (0, cmpV u o[i].1) := by rw [List.drop_eq_getElem_cons h, posP]
theorem posP_le (u : Val) : ∀ o : List (Val × Int), (posP u o).1 ≤ o.length
  | [] => by rw [posP]; simp
  | p :: r => by
    rw [posP]
    have := posP_le u r
    split
    · simp; omega
    · simp
theorem posP_end (u : Val) : ∀ o : List (Val × Int), (posP u o).1 = o.length → (posP u o).2 = 1
  | [], _ => by rw [posP]
  | p :: r, h => by
    rw [posP] at h ⊢
    split at h
    · rename_i hc
      rw [if_pos hc]
      exact posP_end u r (by simpa using h)
    · simp at h
theorem posP_in (u : Val) : ∀ o : List (Val × Int), (h : (posP u o).1 < o.length) → (posP u o).2 = cmpV u (o[(posP u o).1]).1 ∧ (posP u o).2 ≤ 0
  | p :: r, h => by
    by_cases hc : 0 < cmpV u p.1
    · have e : posP u (p :: r) = ((posP u r).1 + 1, (posP u r).2) := by rw [posP, if_pos hc]
      have h' : (posP u r).1 < r.length := by rw [e] at h; simpa using h
      have := posP_in u r h'
      simp only [e, List.getElem_cons_succ]
      exact this
    · have e : posP u (p :: r) = (0, cmpV u p.1) := by rw [posP, if_neg hc]
      simp only [e, List.getElem_cons_zero]
      exact ⟨trivial, by omega⟩
/-- An element that is there is merged. -/
theorem insP_same {u : Val} {w : Int} : ∀ {o : List (Val × Int)}, (posP u o).2 = 0 → ∃ h : (posP u o).1 < o.length, insP u w o = o.set (posP u o).1 (o[(posP u o).1].1, o[(posP u o).1].2 + w) ∧ o[(posP u o).1].1 = u
  | [], h => by rw [posP] at h; cases h
  | p :: r, h => by
    by_cases hc : 0 < cmpV u p.1
    · have e : posP u (p :: r) = ((posP u r).1 + 1, (posP u r).2) := by rw [posP, if_pos hc]
      rw [e] at h
      obtain ⟨h1, h2, h3⟩ := insP_same (w := w) h
      refine ⟨by rw [e]; simpa using h1, ?_, ?_⟩
      · rw [insP, if_neg (by omega), if_neg (by omega), h2]
        simp only [e, List.set_cons_succ, List.getElem_cons_succ]
      · simp only [e, List.getElem_cons_succ]
        exact h3
    · have e : posP u (p :: r) = (0, cmpV u p.1) := by rw [posP, if_neg hc]
      rw [e] at h
      refine ⟨by rw [e]; simp, ?_, ?_⟩
      · rw [insP, if_pos h]
        simp only [e, List.set_cons_zero, List.getElem_cons_zero]
      · simp only [e, List.getElem_cons_zero]
        exact ((cmpV_zero _ _).1 h).symm
/-- A new one is laid between the others. -/
theorem insP_new {u : Val} {w : Int} : ∀ {o : List (Val × Int)}, (posP u o).2 ≠ 0 → insP u w o = o.take (posP u o).1 ++ (u, w) :: o.drop (posP u o).1
  | [], h => by rw [posP, insP]; rfl
  | p :: r, h => by
    by_cases hc : 0 < cmpV u p.1
    · have e : posP u (p :: r) = ((posP u r).1 + 1, (posP u r).2) := by rw [posP, if_pos hc]
      rw [e] at h ⊢
      rw [insP, if_neg (by omega), if_neg (by omega), insP_new h]
      rfl
    · have e : posP u (p :: r) = (0, cmpV u p.1) := by rw [posP, if_neg hc]
      rw [e] at h ⊢
      simp only at h
      rw [insP, if_neg h, if_pos (by omega)]
      rfl
theorem closed_up {nb nr : Nat} {cs : List A} (h : cs.all (closed 0 0) = true) : cs.all (closed nb nr) = true := by
  rw [List.all_eq_true] at h ⊢
  exact fun x hx => closed_mono (Nat.zero_le _) (Nat.zero_le _) x (h x hx)
theorem endRound_J {l : List Nat} {M L L' : List (List A)} {R J J' : List Row} {tm : List (Nat × A)} (hJ : J'.all (fun r => r.cs.all (closed 0 0)) = true) (hL : L.length ≤ L'.length) (hl : l.all (fun t => closed (M.length + L.length) (R.length + J'.length) (lk t tm)) = true) (hc : (L'.take L.length).all (fun cs => cs.all (closed (M.length + L.length) (R.length + J'.length))) = true) :
    endRound (some l) ⟨M ++ L, R ++ J⟩ ⟨tm, ⟨M ++ L', R ++ J'⟩⟩ = some ⟨prune (some l) tm, ⟨M ++ L'.take L.length, R ++ J'⟩⟩ := by
  refine endRound_R hL hl hc ?_
  rw [List.all_eq_true] at hJ ⊢
  exact fun r hr => closed_up (hJ r hr)
end AE
end Go.Proofs.YthoomlenmgdebaaGreatDoor
