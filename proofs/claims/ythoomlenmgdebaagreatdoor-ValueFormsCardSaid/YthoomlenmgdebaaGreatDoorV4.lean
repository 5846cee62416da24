/- Values: what is valid, what the normal form is; plain laws. -/
import Derived.Test.YthoomlenmgdebaaGreatDoorV1
set_option linter.unusedVariables false
set_option linter.unusedSimpArgs false
namespace Go.Proofs.YthoomlenmgdebaaGreatDoor
namespace AE
open Go

def wtd (k : Int) : Bool := decide (k = 6) || decide (k = 7)
def setsK (k : Int) : Bool := decide (k = 5) || wtd k
def fun0 : Fun := .mk 0 0 []
/-- The functor of an argument. -/
def argF (f : Fun) (N : Int) (i : Nat) : Fun := if f.kind = 2 then f.args.getD i fun0 else if f.kind = 3 then f.args.getD N.toNat fun0 else f.args.getD 0 fun0
theorem argF_sets {f : Fun} {N : Int} {i : Nat} (h : setsK f.kind = true) : argF f N i = f.args.getD 0 fun0 := by
  unfold setsK wtd at h
  unfold argF
  simp only [Bool.or_eq_true, decide_eq_true_eq] at h
  rw [if_neg (by omega), if_neg (by omega)]
def weighI : List Int → Int → Bool
  | [], _ => true
  | w :: r, s => if w < 1 ∨ 1048576 - s < w then false else weighI r (s + w)
theorem weighI_iff : ∀ (l : List Int) (s : Int), s ≤ 1048576 → (weighI l s = true ↔ (∀ w, w ∈ l → 1 ≤ w) ∧ s + l.sum ≤ 1048576)
  | [], s, h => by
    rw [weighI]
    simp
    omega
  | w :: r, s, h => by
    rw [weighI, List.sum_cons]
    split
    · rename_i hc
      simp only [Bool.false_eq_true, false_iff, List.mem_cons, forall_eq_or_imp]
      rintro ⟨⟨h1, h2⟩, h3⟩
      have h4 : ∀ r : List Int, (∀ a, a ∈ r → 1 ≤ a) → 0 ≤ r.sum := by
        intro r
        induction r with
        | nil => intro _; simp
        | cons a t ih => intro hh; rw [List.sum_cons]; have := hh a List.mem_cons_self; have := ih (fun b hb => hh b (List.mem_cons_of_mem _ hb)); omega
      have := h4 r h2
      omega
    · rename_i hc
      rw [weighI_iff r (s + w) (by omega)]
      simp only [List.mem_cons, forall_eq_or_imp]
      constructor
      · rintro ⟨a, b⟩; exact ⟨⟨by omega, a⟩, by omega⟩
      · rintro ⟨a, b⟩; exact ⟨a.2, by omega⟩

/-- The numbers of a node are what its functor asks, apart from order and divisors. -/
def headL (n : Int) (f : Fun) (k : Int) (many : Nat) (w : List Int) : Bool :=
  (if f.kind = 0 ∨ f.kind = 1 then decide (many = 0) else if f.kind = 2 then decide (f.args.length = many) else if f.kind = 3 then decide (0 ≤ k ∧ k ≤ 1 ∧ many = 1) else if f.kind = 4 then decide (f.num = many) else true)
  && decide (0 ≤ k ∧ k ≤ (if f.kind = 0 then n - 1 else if f.kind = 1 then f.num - 1 else if f.kind = 3 then 1 else 0))
  && (if wtd f.kind then weighI w 0 && decide (w.length = many) && (decide (f.kind = 6) || decide (0 < many)) else decide (w.length = 0))
def strictL : List Val → Bool
  | [] => true
  | [_] => true
  | x :: y :: r => decide (cmpV x y < 0) && strictL (y :: r)
def gcdF (g : Nat) (l : List Int) : Nat := l.foldl (fun g w => Nat.gcd g w.natAbs) g
def gcdN (l : List Int) : Nat := gcdF 0 l
/-- Order and divisors. -/
def exN (f : Fun) (l : List Val) (w : List Int) : Bool := if setsK f.kind then (!decide (f.kind = 7) || decide (gcdN w = 1)) && strictL l else true
def exS (f : Fun) (l : List Val) (w : List Int) : Bool := (!setsK f.kind || decide (l.length ≤ 100)) && exN f l w
def exL (f : Fun) (l : List Val) (w : List Int) : Bool := true

mutual
/-- The check with a number of nodes that are left. -/
def chkV (ex : Fun → List Val → List Int → Bool) (n : Int) : Val → Fun → Int → Bool × Int
  | .mk k l w, f, q => if q - 1 < 0 ∨ headL n f k l.length w = false ∨ ex f l w = false then (false, q - 1) else chkL ex n l (argF f k) 0 (q - 1)
def chkL (ex : Fun → List Val → List Int → Bool) (n : Int) : List Val → (Nat → Fun) → Nat → Int → Bool × Int
  | [], _, _, q => (true, q)
  | v :: r, g, i, q => if (chkV ex n v (g i) q).1 then chkL ex n r g (i + 1) (chkV ex n v (g i) q).2 else (false, (chkV ex n v (g i) q).2)
end
mutual
def okV (ex : Fun → List Val → List Int → Bool) (n : Int) : Val → Fun → Bool
  | .mk k l w, f => headL n f k l.length w && ex f l w && okL ex n l (argF f k) 0
def okL (ex : Fun → List Val → List Int → Bool) (n : Int) : List Val → (Nat → Fun) → Nat → Bool
  | [], _, _ => true
  | v :: r, g, i => okV ex n v (g i) && okL ex n r g (i + 1)
end
mutual
theorem chkV_spec (ex : Fun → List Val → List Int → Bool) (n : Int) : ∀ (v : Val) (f : Fun) (q : Int), 0 ≤ q → ((chkV ex n v f q).1 = true ↔ ((v.nodes : Int) ≤ q ∧ okV ex n v f = true)) ∧ ((chkV ex n v f q).1 = true → (chkV ex n v f q).2 = q - v.nodes)
  | .mk k l w, f, q, h => by
    rw [chkV, Val.nodes_eq, okV]
    simp only [Val.args_mk]
    split
    · rename_i hc
      simp only [Bool.false_eq_true, false_iff, false_implies, and_true, Bool.and_eq_true]
      rintro ⟨h1, ⟨h2, h3⟩, h4⟩
      rcases hc with hc | hc | hc
      · omega
      · rw [h2] at hc; cases hc
      · rw [h3] at hc; cases hc
    · rename_i hc
      simp only [not_or, Int.not_lt, Bool.not_eq_false] at hc
      have := chkL_spec ex n l (argF f k) 0 (q - 1) hc.1
      rw [hc.2.1, hc.2.2]
      simp only [Bool.true_and]
      refine ⟨this.1.trans ⟨fun ⟨a, b⟩ => ⟨by omega, b⟩, fun ⟨a, b⟩ => ⟨by omega, b⟩⟩, fun hv => ?_⟩
      rw [this.2 hv]
      omega
theorem chkL_spec (ex : Fun → List Val → List Int → Bool) (n : Int) : ∀ (l : List Val) (g : Nat → Fun) (i : Nat) (q : Int), 0 ≤ q → ((chkL ex n l g i q).1 = true ↔ ((Val.nodesL l : Int) ≤ q ∧ okL ex n l g i = true)) ∧ ((chkL ex n l g i q).1 = true → (chkL ex n l g i q).2 = q - Val.nodesL l)
  | [], g, i, q, h => by
    rw [chkL, Val.nodesL, okL]
    simp
    omega
  | v :: r, g, i, q, h => by
    rw [chkL, Val.nodesL, okL]
    have h1 := chkV_spec ex n v (g i) q h
    simp only [Bool.and_eq_true]
    split
    · rename_i hv
      have h2 := h1.2 hv
      have h3 := h1.1.1 hv
      have h4 := chkL_spec ex n r g (i + 1) (q - v.nodes) (by omega)
      rw [h2]
      refine ⟨h4.1.trans ⟨fun ⟨a, b⟩ => ⟨by omega, h3.2, b⟩, fun ⟨a, b⟩ => ⟨by omega, b.2⟩⟩, fun hv' => ?_⟩
      rw [h4.2 hv']
      omega
    · rename_i hv
      simp only [Bool.false_eq_true, false_iff, false_implies, and_true]
      rintro ⟨a, b, c⟩
      exact hv (h1.1.2 ⟨by omega, b⟩)
end

/-! ### Merging -/
def insP (u : Val) (w : Int) : List (Val × Int) → List (Val × Int)
  | [] => [(u, w)]
  | p :: r => if cmpV u p.1 = 0 then (p.1, p.2 + w) :: r else if cmpV u p.1 < 0 then (u, w) :: p :: r else p :: insP u w r
def mergeF (o l : List (Val × Int)) : List (Val × Int) := l.foldl (fun o p => insP p.1 p.2 o) o
def wsOf (k : Int) (xs : List Val) (ws : List Int) : List Int := if wtd k then ws else xs.map fun _ => 0
def mergeP (k : Int) (xs : List Val) (ws : List Int) : List (Val × Int) := mergeF [] (xs.zip (wsOf k xs ws))
def divG (l : List Int) : List Int := l.map fun w => w.tdiv (gcdN l)
def mergeV (kind k : Int) (xs : List Val) (ws : List Int) : Val :=
  .mk k ((mergeP kind xs ws).map (·.1)) (if kind = 7 then divG ((mergeP kind xs ws).map (·.2)) else if wtd kind then (mergeP kind xs ws).map (·.2) else [])

def LtP (a b : Val × Int) : Prop := cmpV a.1 b.1 < 0
theorem cmpV_lt_trans {u v w : Val} (h : cmpV u v < 0) (k : cmpV v w < 0) : cmpV u w < 0 := by
  have h1 := cmpV_trans (u := u) (v := v) (w := w) (by omega) (by omega)
  by_cases h2 : cmpV u w = 0
  · rw [cmpV_zero] at h2
    subst h2
    have := cmpV_anti u v
    omega
  · omega
theorem insP_fst {u : Val} {w : Int} : ∀ {o : List (Val × Int)} {p : Val × Int}, p ∈ insP u w o → p.1 = u ∨ ∃ q, q ∈ o ∧ p.1 = q.1
  | [], p, h => by
    rw [insP] at h
    simp at h
    exact .inl (by rw [h])
  | x :: r, p, h => by
    rw [insP] at h
    split at h
    · rcases List.mem_cons.1 h with rfl | h
      · exact .inr ⟨x, List.mem_cons_self, rfl⟩
      · exact .inr ⟨p, List.mem_cons_of_mem _ h, rfl⟩
    · split at h
      · rcases List.mem_cons.1 h with rfl | h
        · exact .inl rfl
        · exact .inr ⟨p, h, rfl⟩
      · rcases List.mem_cons.1 h with rfl | h
        · exact .inr ⟨p, List.mem_cons_self, rfl⟩
        · rcases insP_fst h with h | ⟨q, h1, h2⟩
          · exact .inl h
          · exact .inr ⟨q, List.mem_cons_of_mem _ h1, h2⟩
theorem insP_sorted {u : Val} {w : Int} : ∀ {o : List (Val × Int)}, o.Pairwise LtP → (insP u w o).Pairwise LtP
  | [], _ => by rw [insP]; exact List.pairwise_singleton _ _
  | x :: r, h => by
    rw [List.pairwise_cons] at h
    rw [insP]
    split
    · exact List.pairwise_cons.2 ⟨fun b hb => h.1 b hb, h.2⟩
    · split
      · rename_i hl
        refine List.pairwise_cons.2 ⟨fun b hb => ?_, List.pairwise_cons.2 h⟩
        rcases List.mem_cons.1 hb with rfl | hb
        · exact hl
        · exact cmpV_lt_trans hl (h.1 b hb)
      · rename_i h0 hl
        refine List.pairwise_cons.2 ⟨fun b hb => ?_, insP_sorted h.2⟩
        rcases insP_fst hb with hb | ⟨q, h1, h2⟩
        · unfold LtP
          rw [hb, cmpV_anti u x.1]
          omega
        · unfold LtP
          rw [h2]
          exact h.1 q h1
theorem mergeF_sorted : ∀ (l o : List (Val × Int)), o.Pairwise LtP → (mergeF o l).Pairwise LtP
  | [], o, h => h
  | p :: r, o, h => mergeF_sorted r _ (insP_sorted h)
theorem mergeF_fst : ∀ (l o : List (Val × Int)) (p : Val × Int), p ∈ mergeF o l → (∃ q, q ∈ l ∧ p.1 = q.1) ∨ ∃ q, q ∈ o ∧ p.1 = q.1
  | [], o, p, h => .inr ⟨p, h, rfl⟩
  | x :: r, o, p, h => by
    rcases mergeF_fst r (insP x.1 x.2 o) p h with ⟨q, h1, h2⟩ | ⟨q, h1, h2⟩
    · exact .inl ⟨q, List.mem_cons_of_mem _ h1, h2⟩
    · rcases insP_fst h1 with h3 | ⟨q', h3, h4⟩
      · exact .inl ⟨x, List.mem_cons_self, by rw [h2, h3]⟩
      · exact .inr ⟨q', h3, by rw [h2, h4]⟩
theorem insP_sum (u : Val) (w : Int) : ∀ o : List (Val × Int), ((insP u w o).map (·.2)).sum = w + (o.map (·.2)).sum
  | [] => by rw [insP]; simp
  | x :: r => by
    rw [insP]
    split
    · simp; omega
    · split
      · simp
      · simp [insP_sum u w r]; omega
theorem mergeF_sum : ∀ (l o : List (Val × Int)), ((mergeF o l).map (·.2)).sum = (l.map (·.2)).sum + (o.map (·.2)).sum
  | [], o => by simp [mergeF]
  | p :: r, o => by
    have := mergeF_sum r (insP p.1 p.2 o)
    rw [show mergeF o (p :: r) = mergeF (insP p.1 p.2 o) r from rfl, this, insP_sum]
    simp
    omega
theorem insP_pos {u : Val} {w : Int} (hw : 1 ≤ w) : ∀ {o : List (Val × Int)}, (∀ p, p ∈ o → 1 ≤ p.2) → ∀ p, p ∈ insP u w o → 1 ≤ p.2
  | [], _, p, h => by
    rw [insP] at h
    simp at h
    rw [h]
    exact hw
  | x :: r, ho, p, h => by
    rw [insP] at h
    split at h
    · rcases List.mem_cons.1 h with rfl | h
      · have := ho x List.mem_cons_self; simp only; omega
      · exact ho p (List.mem_cons_of_mem _ h)
    · split at h
      · rcases List.mem_cons.1 h with rfl | h
        · exact hw
        · exact ho p h
      · rcases List.mem_cons.1 h with rfl | h
        · exact ho p List.mem_cons_self
        · exact insP_pos hw (fun q hq => ho q (List.mem_cons_of_mem _ hq)) p h
theorem mergeF_pos : ∀ (l o : List (Val × Int)), (∀ p, p ∈ l → 1 ≤ p.2) → (∀ p, p ∈ o → 1 ≤ p.2) → ∀ p, p ∈ mergeF o l → 1 ≤ p.2
  | [], o, _, h => h
  | x :: r, o, hl, ho => mergeF_pos r _ (fun q hq => hl q (List.mem_cons_of_mem _ hq)) (insP_pos (hl x List.mem_cons_self) ho)
theorem insP_ne (u : Val) (w : Int) (o : List (Val × Int)) : insP u w o ≠ [] := by
  cases o with
  | nil => rw [insP]; simp
  | cons p r => rw [insP]; split <;> (try split) <;> simp
theorem mergeF_ne : ∀ (l o : List (Val × Int)), o ≠ [] ∨ l ≠ [] → mergeF o l ≠ []
  | [], o, h => by simpa [mergeF] using h
  | p :: r, o, _ => mergeF_ne r _ (.inl (insP_ne _ _ _))
theorem insP_end {u : Val} {w : Int} : ∀ {o : List (Val × Int)}, (∀ p, p ∈ o → cmpV p.1 u < 0) → insP u w o = o ++ [(u, w)]
  | [], _ => by rw [insP]; rfl
  | x :: r, h => by
    have h1 := h x List.mem_cons_self
    have h2 := cmpV_anti x.1 u
    rw [insP, if_neg (by omega), if_neg (by omega), insP_end fun p hp => h p (List.mem_cons_of_mem _ hp)]
    rfl
theorem mergeF_id : ∀ (l o : List (Val × Int)), (o ++ l).Pairwise LtP → mergeF o l = o ++ l
  | [], o, _ => by simp [mergeF]
  | p :: r, o, h => by
    have h1 := List.pairwise_append.1 h
    rw [show mergeF o (p :: r) = mergeF (insP p.1 p.2 o) r from rfl, insP_end fun q hq => h1.2.2 q hq p List.mem_cons_self, mergeF_id r _ (by simpa using h)]
    simp

/-! ### Divisors -/
theorem gcdF_dvd : ∀ (l : List Int) (g : Nat), gcdF g l ∣ g ∧ ∀ w, w ∈ l → gcdF g l ∣ w.natAbs
  | [], g => ⟨Nat.dvd_refl _, fun w h => by cases h⟩
  | x :: r, g => by
    have h := gcdF_dvd r (Nat.gcd g x.natAbs)
    rw [show gcdF g (x :: r) = gcdF (Nat.gcd g x.natAbs) r from rfl]
    refine ⟨Nat.dvd_trans h.1 (Nat.gcd_dvd_left _ _), fun w hw => ?_⟩
    rcases List.mem_cons.1 hw with rfl | hw
    · exact Nat.dvd_trans h.1 (Nat.gcd_dvd_right _ _)
    · exact h.2 w hw
theorem dvd_gcdF : ∀ (l : List Int) (g d : Nat), d ∣ g → (∀ w, w ∈ l → d ∣ w.natAbs) → d ∣ gcdF g l
  | [], g, d, h, _ => h
  | x :: r, g, d, h, k => dvd_gcdF r _ d (Nat.dvd_gcd h (k x List.mem_cons_self)) fun w hw => k w (List.mem_cons_of_mem _ hw)
theorem gcdN_pos {l : List Int} (hne : l ≠ []) (h : ∀ w, w ∈ l → 1 ≤ w) : 0 < gcdN l := by
  cases l with
  | nil => exact absurd rfl hne
  | cons x r =>
    have h1 := (gcdF_dvd (x :: r) 0).2 x List.mem_cons_self
    have h2 := h x List.mem_cons_self
    exact Nat.pos_of_dvd_of_pos h1 (by omega)
theorem tdiv_pos {w : Int} {g : Nat} (hw : 1 ≤ w) (hg : 0 < g) (hd : g ∣ w.natAbs) : 1 ≤ w.tdiv g ∧ w.tdiv g ≤ w ∧ (w.tdiv g).natAbs * g = w.natAbs := by
  obtain ⟨n, rfl⟩ : ∃ n : Nat, w = n := ⟨w.toNat, by omega⟩
  obtain ⟨c, hc⟩ := hd
  simp only [Int.natAbs_natCast] at hc
  subst hc
  have h1 : ((g * c : Nat) : Int).tdiv (g : Int) = (c : Int) := by
    rw [Int.tdiv_eq_ediv_of_nonneg (by omega), ← Int.natCast_ediv, Nat.mul_div_cancel_left _ hg]
  rw [h1]
  have h2 : 0 < c := by
    rcases Nat.eq_zero_or_pos c with rfl | h
    · simp at hw
    · exact h
  refine ⟨by omega, ?_, ?_⟩
  · have : c ≤ g * c := Nat.le_mul_of_pos_left _ hg
    omega
  · rw [Int.natAbs_natCast, Int.natAbs_natCast, Nat.mul_comm]
theorem divG_pos {l : List Int} (h : ∀ w, w ∈ l → 1 ≤ w) : ∀ w, w ∈ divG l → 1 ≤ w := by
  intro w hw
  unfold divG at hw
  obtain ⟨x, hx, rfl⟩ := List.mem_map.1 hw
  exact (tdiv_pos (h x hx) (gcdN_pos (by rintro rfl; cases hx) h) ((gcdF_dvd l 0).2 x hx)).1
theorem map_sum_le {f : Int → Int} : ∀ {l : List Int}, (∀ w, w ∈ l → f w ≤ w) → (l.map f).sum ≤ l.sum
  | [], _ => by simp
  | x :: r, h => by
    have := map_sum_le fun w hw => h w (List.mem_cons_of_mem _ hw)
    have := h x List.mem_cons_self
    simp
    omega
theorem divG_sum {l : List Int} (h : ∀ w, w ∈ l → 1 ≤ w) : (divG l).sum ≤ l.sum :=
  map_sum_le fun w hw => (tdiv_pos (h w hw) (gcdN_pos (by rintro rfl; cases hw) h) ((gcdF_dvd l 0).2 w hw)).2.1
theorem divG_gcd {l : List Int} (hne : l ≠ []) (h : ∀ w, w ∈ l → 1 ≤ w) : gcdN (divG l) = 1 := by
  have hg := gcdN_pos hne h
  have h1 : gcdN (divG l) * gcdN l ∣ gcdN l := by
    refine dvd_gcdF l 0 _ (Nat.dvd_zero _) fun w hw => ?_
    have h2 := tdiv_pos (h w hw) hg ((gcdF_dvd l 0).2 w hw)
    rw [← h2.2.2]
    exact Nat.mul_dvd_mul_right ((gcdF_dvd (divG l) 0).2 _ (List.mem_map.2 ⟨w, hw, rfl⟩)) _
  have h3 := Nat.le_of_dvd hg h1
  have h4 : 0 < gcdN (divG l) := Nat.pos_of_dvd_of_pos (Nat.dvd_trans (Nat.dvd_mul_right _ _) h1) hg
  rcases Nat.lt_or_ge 1 (gcdN (divG l)) with h5 | h5
  · have := Nat.mul_le_mul_right (gcdN l) h5
    omega
  · omega
theorem divG_one {l : List Int} (h : gcdN l = 1) : divG l = l := by
  unfold divG
  rw [h]
  simp

/-! ### Order -/
theorem strictL_iff : ∀ l : List Val, strictL l = true ↔ l.Pairwise fun a b => cmpV a b < 0
  | [] => by simp [strictL]
  | [x] => by simp [strictL]
  | x :: y :: r => by
    rw [strictL, Bool.and_eq_true, decide_eq_true_eq, strictL_iff (y :: r), List.pairwise_cons (a := x)]
    constructor
    · rintro ⟨h1, h2⟩
      refine ⟨fun b hb => ?_, h2⟩
      rcases List.mem_cons.1 hb with rfl | hb
      · exact h1
      · exact cmpV_lt_trans h1 ((List.pairwise_cons.1 h2).1 b hb)
    · rintro ⟨h1, h2⟩
      exact ⟨h1 y List.mem_cons_self, h2⟩
theorem strictL_fst {o : List (Val × Int)} (h : o.Pairwise LtP) : strictL (o.map (·.1)) = true := by
  rw [strictL_iff, List.pairwise_map]
  exact h

/-! ### The normal form -/
mutual
def normV (n : Int) : Val → Fun → Option Val
  | .mk k l w, f => if headL n f k l.length w then (normL n l (argF f k) 0).map (fun xs => if setsK f.kind then mergeV f.kind k xs w else .mk k xs w) else none
def normL (n : Int) : List Val → (Nat → Fun) → Nat → Option (List Val)
  | [], _, _ => some []
  | v :: r, g, i => (normV n v (g i)).bind fun x => (normL n r g (i + 1)).map (x :: ·)
end
theorem normL_length (n : Int) : ∀ (l : List Val) (g : Nat → Fun) (i : Nat) (xs : List Val), normL n l g i = some xs → xs.length = l.length
  | [], g, i, xs, h => by rw [normL] at h; cases h; rfl
  | v :: r, g, i, xs, h => by
    rw [normL] at h
    simp only [Option.bind_eq_some_iff, Option.map_eq_some_iff] at h
    obtain ⟨x, h1, y, h2, rfl⟩ := h
    rw [List.length_cons, List.length_cons, normL_length n r g (i + 1) y h2]
theorem okL_const {ex : Fun → List Val → List Int → Bool} {n : Int} {c : Fun} : ∀ {l : List Val} {g : Nat → Fun} {i : Nat}, (∀ i, g i = c) → (okL ex n l g i = true ↔ ∀ x, x ∈ l → okV ex n x c = true)
  | [], g, i, h => by simp [okL]
  | v :: r, g, i, h => by
    rw [okL, Bool.and_eq_true, okL_const h, h i]
    simp
theorem zip_fst {α β : Type} : ∀ {l : List α} {r : List β} {p : α × β}, p ∈ l.zip r → p.1 ∈ l ∧ p.2 ∈ r := fun h => List.of_mem_zip h
theorem zip_snd_map {α β : Type} : ∀ {l : List α} {r : List β}, r.length = l.length → (l.zip r).map (·.2) = r := fun h => List.map_snd_zip (by omega)
theorem zip_fst_map {α β : Type} : ∀ {l : List α} {r : List β}, r.length = l.length → (l.zip r).map (·.1) = l := fun h => List.map_fst_zip (by omega)
theorem head_sets {n : Int} {f : Fun} {k : Int} {m : Nat} {w : List Int} (hs : setsK f.kind = true) : headL n f k m w = true ↔ k = 0 ∧ (if wtd f.kind then weighI w 0 = true ∧ w.length = m ∧ (f.kind = 6 ∨ 0 < m) else w.length = 0) := by
  unfold setsK wtd at hs
  simp only [Bool.or_eq_true, decide_eq_true_eq] at hs
  unfold headL
  rw [if_neg (by omega), if_neg (by omega), if_neg (by omega), if_neg (by omega), if_neg (by omega), if_neg (by omega), if_neg (by omega)]
  simp only [Bool.true_and, Bool.and_eq_true, decide_eq_true_eq]
  cases wtd f.kind
  · simp only [Bool.false_eq_true, if_false, decide_eq_true_eq]
    omega
  · simp only [if_true, Bool.and_eq_true, Bool.or_eq_true, decide_eq_true_eq]
    constructor
    · rintro ⟨a, ⟨b, c⟩, d⟩; exact ⟨by omega, b, c, d⟩
    · rintro ⟨a, b, c, d⟩; exact ⟨by omega, ⟨b, c⟩, d⟩

/-- What is merged is in order. -/
theorem merge_ok {n : Int} {f : Fun} {k : Int} {xs : List Val} {w : List Int} (hs : setsK f.kind = true) (hh : headL n f k xs.length w = true) (hx : ∀ x, x ∈ xs → okV exN n x (f.args.getD 0 fun0) = true) : okV exN n (mergeV f.kind k xs w) f = true := by
  rw [head_sets hs] at hh
  unfold mergeV
  rw [okV, Bool.and_eq_true, Bool.and_eq_true]
  have hsort : (mergeP f.kind xs w).Pairwise LtP := mergeF_sorted _ _ List.Pairwise.nil
  have hlen : (wsOf f.kind xs w).length = xs.length := by
    unfold wsOf
    cases hw : wtd f.kind
    · simp
    · rw [hw] at hh; simp only [if_true] at hh; simpa using hh.2.2.1
  have hmem : ∀ p, p ∈ mergeP f.kind xs w → p.1 ∈ xs := by
    intro p hp
    rcases mergeF_fst _ _ p hp with ⟨q, h1, h2⟩ | ⟨q, h1, _⟩
    · rw [h2]; exact (zip_fst h1).1
    · cases h1
  refine ⟨⟨?_, ?_⟩, ?_⟩
  · rw [head_sets hs]
    refine ⟨hh.1, ?_⟩
    cases hw : wtd f.kind
    · simp only [Bool.false_eq_true, if_false]
      have : ¬ f.kind = 7 := by intro h; rw [h] at hw; cases hw
      rw [if_neg this]
      rfl
    · rw [hw] at hh
      simp only [if_true] at hh ⊢
      rw [weighI_iff _ _ (by omega)] at hh
      have hz : wsOf f.kind xs w = w := by unfold wsOf; rw [hw, if_pos rfl]
      rw [hz] at hlen
      have hpos : ∀ x, x ∈ (mergeP f.kind xs w).map (·.2) → 1 ≤ x := by
        intro x hx
        obtain ⟨p, hp, rfl⟩ := List.mem_map.1 hx
        refine mergeF_pos _ _ (fun q hq => ?_) (fun q hq => by cases hq) p hp
        rw [hz] at hq
        exact hh.2.1.1 _ (zip_fst hq).2
      have hsum : ((mergeP f.kind xs w).map (·.2)).sum = w.sum := by
        unfold mergeP
        rw [mergeF_sum, hz, zip_snd_map hlen]
        simp
      have hne : f.kind = 6 ∨ 0 < (mergeP f.kind xs w).length := by
        rcases hh.2.2.2 with h | h
        · exact .inl h
        · refine .inr (List.length_pos_iff.2 (mergeF_ne _ _ (.inr ?_)))
          intro h0
          have := congrArg List.length h0
          rw [List.length_zip, hz, hlen] at this
          simp at this
          rw [this] at h
          cases h
      rw [weighI_iff _ _ (by omega)]
      split
      · refine ⟨⟨divG_pos hpos, ?_⟩, by unfold divG; simp, by simpa using hne⟩
        have := divG_sum hpos
        omega
      · refine ⟨⟨hpos, by omega⟩, by simp, by simpa using hne⟩
  · unfold exN
    rw [if_pos hs, Bool.and_eq_true]
    refine ⟨?_, strictL_fst hsort⟩
    by_cases h7 : f.kind = 7
    · have hw : wtd f.kind = true := by rw [h7]; rfl
      rw [hw] at hh
      simp only [if_true] at hh
      rw [weighI_iff _ _ (by omega)] at hh
      have hz : wsOf f.kind xs w = w := by unfold wsOf; rw [hw, if_pos rfl]
      rw [hz] at hlen
      have hpos : ∀ x, x ∈ (mergeP f.kind xs w).map (·.2) → 1 ≤ x := by
        intro x hx
        obtain ⟨p, hp, rfl⟩ := List.mem_map.1 hx
        refine mergeF_pos _ _ (fun q hq => ?_) (fun q hq => by cases hq) p hp
        rw [hz] at hq
        exact hh.2.1.1 _ (zip_fst hq).2
      rw [if_pos h7]
      simp only [h7, decide_true, Bool.not_true, Bool.false_or, decide_eq_true_eq]
      rw [← h7]
      refine divG_gcd ?_ hpos
      intro h0
      have h0' := List.map_eq_nil_iff.1 h0
      refine mergeF_ne _ _ (.inr ?_) h0'
      intro h1
      have := congrArg List.length h1
      rw [List.length_zip, hz, hlen] at this
      simp at this
      have h8 := hh.2.2.2
      rw [this] at h8
      simp at h8
      omega
    · simp [h7]
  · rw [okL_const (c := f.args.getD 0 fun0) fun i => argF_sets hs]
    intro x hx'
    obtain ⟨p, hp, rfl⟩ := List.mem_map.1 hx'
    exact hx _ (hmem p hp)
/-- What is in order is merged as it is. -/
theorem merge_id {n : Int} {f : Fun} {k : Int} {xs : List Val} {w : List Int} (hs : setsK f.kind = true) (hh : headL n f k xs.length w = true) (he : exN f xs w = true) : mergeV f.kind k xs w = .mk k xs w := by
  rw [head_sets hs] at hh
  unfold exN at he
  rw [if_pos hs, Bool.and_eq_true, strictL_iff] at he
  have hlen : (wsOf f.kind xs w).length = xs.length := by
    unfold wsOf
    cases hw : wtd f.kind
    · simp
    · rw [hw] at hh; simp only [if_true] at hh; simpa using hh.2.2.1
  have h1 : mergeP f.kind xs w = xs.zip (wsOf f.kind xs w) := by
    unfold mergeP
    rw [mergeF_id, List.nil_append]
    rw [List.nil_append]
    have := he.2
    rw [← zip_fst_map hlen, List.pairwise_map] at this
    exact this
  unfold mergeV
  rw [h1, zip_fst_map hlen, zip_snd_map hlen]
  unfold wsOf
  cases hw : wtd f.kind
  · rw [hw] at hh
    simp only [Bool.false_eq_true, if_false] at hh ⊢
    have : ¬ f.kind = 7 := by intro h; rw [h] at hw; cases hw
    rw [if_neg this, List.eq_nil_of_length_eq_zero hh.2]
  · simp only [if_true]
    split
    · rename_i h7
      rw [divG_one (by simpa [h7] using he.1)]
    · rfl

mutual
theorem norm_ok (n : Int) : ∀ (v : Val) (f : Fun) (y : Val), normV n v f = some y → okV exN n y f = true
  | .mk k l w, f, y, h => by
    rw [normV] at h
    split at h
    · rename_i hh
      simp only [Option.map_eq_some_iff] at h
      obtain ⟨xs, hx, rfl⟩ := h
      have hl := normL_length n _ _ _ _ hx
      have ho := normL_ok n l (argF f k) 0 xs hx
      split
      · rename_i hs
        rw [← hl] at hh
        rw [okL_const (c := f.args.getD 0 fun0) fun i => argF_sets hs] at ho
        exact merge_ok hs hh ho
      · rename_i hs
        rw [okV, hl, hh, ho]
        unfold exN
        rw [if_neg hs]
        rfl
    · cases h
theorem normL_ok (n : Int) : ∀ (l : List Val) (g : Nat → Fun) (i : Nat) (xs : List Val), normL n l g i = some xs → okL exN n xs g i = true
  | [], g, i, xs, h => by rw [normL] at h; cases h; rw [okL]
  | v :: r, g, i, xs, h => by
    rw [normL] at h
    simp only [Option.bind_eq_some_iff, Option.map_eq_some_iff] at h
    obtain ⟨x, h1, y, h2, rfl⟩ := h
    rw [okL, norm_ok n v (g i) x h1, normL_ok n r g (i + 1) y h2]
    rfl
end
mutual
theorem norm_id (n : Int) : ∀ (v : Val) (f : Fun), okV exN n v f = true → normV n v f = some v
  | .mk k l w, f, h => by
    rw [okV, Bool.and_eq_true, Bool.and_eq_true] at h
    rw [normV, if_pos h.1.1, normL_id n l _ _ h.2, Option.map_some]
    split
    · rename_i hs
      rw [merge_id hs h.1.1 h.1.2]
    · rfl
theorem normL_id (n : Int) : ∀ (l : List Val) (g : Nat → Fun) (i : Nat), okL exN n l g i = true → normL n l g i = some l
  | [], g, i, h => by rw [normL]
  | v :: r, g, i, h => by
    rw [okL, Bool.and_eq_true] at h
    rw [normL, norm_id n v _ h.1, normL_id n r _ _ h.2]
    rfl
end
mutual
/-- A set, multiset or distribution is too large. -/
def wideV : Val → Fun → Bool
  | .mk k l w, f => (setsK f.kind && decide (100 < l.length)) || wideL l (argF f k) 0
def wideL : List Val → (Nat → Fun) → Nat → Bool
  | [], _, _ => false
  | v :: r, g, i => wideV v (g i) || wideL r g (i + 1)
end
mutual
theorem ok_wide (n : Int) : ∀ (v : Val) (f : Fun), okV exS n v f = (okV exN n v f && !wideV v f)
  | .mk k l w, f => by
    rw [okV, okV, wideV, okL_wide n l (argF f k) 0]
    unfold exS
    have : decide (l.length ≤ 100) = !decide (100 < l.length) := by rw [Bool.eq_iff_iff]; simp
    rw [this]
    cases setsK f.kind <;> cases decide (100 < l.length) <;> cases headL n f k l.length w <;> cases exN f l w <;> cases okL exN n l (argF f k) 0 <;> cases wideL l (argF f k) 0 <;> rfl
theorem okL_wide (n : Int) : ∀ (l : List Val) (g : Nat → Fun) (i : Nat), okL exS n l g i = (okL exN n l g i && !wideL l g i)
  | [], g, i => by rw [okL, okL, wideL]; rfl
  | v :: r, g, i => by
    rw [okL, okL, wideL, ok_wide n v (g i), okL_wide n r g (i + 1)]
    cases okV exN n v (g i) <;> cases wideV v (g i) <;> cases okL exN n r g (i + 1) <;> cases wideL r g (i + 1) <;> rfl
end
/-- A value is its own normal form. -/
def selfV (n : Int) (v : Val) (f : Fun) : Bool := match normV n v f with
  | some w => !wideV w f && decide (cmpV w v = 0)
  | none => false
theorem selfV_ok (n : Int) (v : Val) (f : Fun) : selfV n v f = okV exS n v f := by
  rw [ok_wide]
  unfold selfV
  cases h : normV n v f with
  | none =>
    cases h1 : okV exN n v f
    · rfl
    · rw [norm_id n v f h1] at h; cases h
  | some w =>
    simp only
    by_cases hc : cmpV w v = 0
    · rw [decide_eq_true hc, Bool.and_true]
      rw [cmpV_zero] at hc
      subst hc
      rw [norm_ok n _ _ _ h, Bool.true_and]
    · rw [decide_eq_false hc, Bool.and_false]
      cases h1 : okV exN n v f
      · rfl
      · rw [norm_id n v f h1] at h
        cases h
        exact absurd (cmpV_self _) hc
end AE
end Go.Proofs.YthoomlenmgdebaaGreatDoor
