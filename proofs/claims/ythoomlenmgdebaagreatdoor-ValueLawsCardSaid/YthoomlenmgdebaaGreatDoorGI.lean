/- Mapping values: along the identity, twice; plain. -/
import Derived.Test.YthoomlenmgdebaaGreatDoorGG
import Derived.Test.YthoomlenmgdebaaGreatDoorGH
import Derived.Test.YthoomlenmgdebaaGreatDoorGE
import Derived.Lay
import Derived.Stop.Joined
import Derived.Carry
import Derived.Test.YthoomlenmgdebaaGreatDoorCards
import Derived.Test.YthoomlenmgdebaaGreatDoorTie
import Derived.SevenTiedAt
set_option linter.unusedVariables false
set_option linter.unusedSimpArgs false
namespace Go.Proofs.YthoomlenmgdebaaGreatDoor
namespace AE
open Go

mutual
theorem map_congr {ex : Fun → List Val → List Int → Bool} {n : Int} {t t' : Int → Val} (ht : ∀ x, 0 ≤ x → x < n → t x = t' x) : ∀ (v : Val) (f : Fun), okV ex n v f = true → mapV t v f = mapV t' v f
  | .mk k l w, f, h => by
    rw [okV, Bool.and_eq_true, Bool.and_eq_true] at h
    have hl := mapL_congr ht l (argF f k) 0 h.2
    rw [mapV, mapV, hl]
    by_cases h0 : f.kind = 0
    · rw [if_pos h0, if_pos h0]
      have hh := h.1.1
      unfold headL at hh
      simp [h0] at hh
      exact ht k (by omega) (by omega)
    · rw [if_neg h0, if_neg h0]
theorem mapL_congr {ex : Fun → List Val → List Int → Bool} {n : Int} {t t' : Int → Val} (ht : ∀ x, 0 ≤ x → x < n → t x = t' x) : ∀ (l : List Val) (g : Nat → Fun) (i : Nat), okL ex n l g i = true → mapL t l g i = mapL t' l g i
  | [], g, i, _ => by rw [mapL, mapL]
  | v :: r, g, i, h => by
    rw [okL, Bool.and_eq_true] at h
    rw [mapL, mapL, map_congr ht v _ h.1, mapL_congr ht r _ _ h.2]
end
theorem map_id {n : Int} {v : Val} {f : Fun} (hf : shapedF f = true) (h : okV exN n v f = true) : mapV idV v f = v := by
  have h1 := norm_map n v f hf (ok_loose n v f h)
  rw [norm_id n v f h] at h1
  exact (Option.some.inj h1).symm
mutual
/-- A value whose states are others, in the same places. -/
def subV (to : Int → Int) : Val → Fun → Val
  | .mk k l w, f => if f.kind = 0 then .mk (to k) l w else .mk k (subL to l (argF f k) 0) w
def subL (to : Int → Int) : List Val → (Nat → Fun) → Nat → List Val
  | [], _, _ => []
  | v :: r, g, i => subV to v (g i) :: subL to r g (i + 1)
end
theorem subL_length (to : Int → Int) : ∀ (l : List Val) (g : Nat → Fun) (i : Nat), (subL to l g i).length = l.length
  | [], g, i => by rw [subL]
  | v :: r, g, i => by rw [subL, List.length_cons, List.length_cons, subL_length to r g (i + 1)]
mutual
theorem map_sub (to : Int → Int) : ∀ (v : Val) (f : Fun), mapV (fun x => idV (to x)) v f = mapV idV (subV to v f) f
  | .mk k l w, f => by
    rw [mapV, subV]
    by_cases h0 : f.kind = 0
    · rw [if_pos h0, if_pos h0, mapV, if_pos h0]
    · rw [if_neg h0, if_neg h0, mapV, if_neg h0, mapL_sub to l (argF f k) 0]
theorem mapL_sub (to : Int → Int) : ∀ (l : List Val) (g : Nat → Fun) (i : Nat), mapL (fun x => idV (to x)) l g i = mapL idV (subL to l g i) g i
  | [], g, i => by rw [mapL, subL, mapL]
  | v :: r, g, i => by rw [mapL, subL, mapL, map_sub to v (g i), mapL_sub to r g (i + 1)]
end
mutual
theorem sub_ok {n n' : Int} {to : Int → Int} (ht : ∀ x, 0 ≤ x → x < n → 0 ≤ to x ∧ to x < n') : ∀ (v : Val) (f : Fun), okV exL n v f = true → okV exL n' (subV to v f) f = true
  | .mk k l w, f, h => by
    rw [okV, Bool.and_eq_true, Bool.and_eq_true] at h
    obtain ⟨⟨hh, _⟩, hl⟩ := h
    rw [subV]
    by_cases h0 : f.kind = 0
    · rw [if_pos h0, okV, Bool.and_eq_true, Bool.and_eq_true]
      have hll : l = [] := List.eq_nil_of_length_eq_zero ((head_num hh).2.2 (.inl h0))
      subst hll
      refine ⟨⟨?_, rfl⟩, by rw [okL]⟩
      unfold headL at hh ⊢
      simp [h0] at hh ⊢
      have := ht k (by omega) (by omega)
      exact ⟨⟨this.1, by omega⟩, hh.2⟩
    · rw [if_neg h0, okV, Bool.and_eq_true, Bool.and_eq_true]
      refine ⟨⟨?_, rfl⟩, subL_ok ht l _ 0 hl⟩
      rw [subL_length]
      unfold headL at hh ⊢
      simp only [h0, false_or, if_false] at hh ⊢
      exact hh
theorem subL_ok {n n' : Int} {to : Int → Int} (ht : ∀ x, 0 ≤ x → x < n → 0 ≤ to x ∧ to x < n') : ∀ (l : List Val) (g : Nat → Fun) (i : Nat), okL exL n l g i = true → okL exL n' (subL to l g i) g i = true
  | [], g, i, h => by rw [subL, okL]
  | v :: r, g, i, h => by
    rw [okL, Bool.and_eq_true] at h
    rw [subL, okL, Bool.and_eq_true]
    exact ⟨sub_ok ht v _ h.1, subL_ok ht r _ _ h.2⟩
end
/-- A mapped value is valid, however many elements it has. -/
theorem map_ok {n n' : Int} {to : Int → Int} {v : Val} {f : Fun} (hf : shapedF f = true) (h : okV exL n v f = true) (ht : ∀ x, 0 ≤ x → x < n → 0 ≤ to x ∧ to x < n') : okV exN n' (mapV (fun x => idV (to x)) v f) f = true := by
  rw [map_sub]
  exact norm_ok n' _ f _ (norm_map n' _ f hf (sub_ok ht v f h))
theorem mergeP_len (kind : Int) (xs : List Val) (w : List Int) : (mergeP kind xs w).length ≤ xs.length := by
  unfold mergeP
  have := (nodesL_merge (xs.zip (wsOf kind xs w)) []).2
  rw [List.length_zip] at this
  simp at this
  omega
theorem wideL_iff {c : Fun} : ∀ {l : List Val}, (l.any fun u => wideV u c) = true ↔ ∃ u, u ∈ l ∧ wideV u c = true := by
  intro l
  rw [List.any_eq_true]
mutual
/-- A mapped value has no more elements. -/
theorem map_wide {t : Int → Val} (ht : ∀ x (f : Fun), f.kind = 0 → wideV (t x) f = false) : ∀ (v : Val) (f : Fun), wideV v f = false → wideV (mapV t v f) f = false
  | .mk k l w, f, h => by
    rw [wideV, Bool.or_eq_false_iff] at h
    have ih := mapL_wide ht l (argF f k) 0 h.2
    have hm := mapL_length t l (argF f k) 0
    rw [mapV]
    by_cases h0 : f.kind = 0
    · rw [if_pos h0]; exact ht k f h0
    rw [if_neg h0]
    by_cases h1 : f.kind = 1
    · rw [if_pos h1, wideV, wideL]; simp [h1, setsK, wtd]
    rw [if_neg h1]
    by_cases h2 : f.kind = 2
    · rw [if_pos h2, wideV]
      have : argF f 0 = argF f k := by funext i; unfold argF; rw [if_pos h2, if_pos h2]
      rw [this, ih]
      simp [h2, setsK, wtd]
    rw [if_neg h2]
    by_cases h3 : f.kind = 3
    · rw [if_pos h3, wideV, ih]
      simp [h3, setsK, wtd]
    rw [if_neg h3]
    have hg : ∀ N j, argF f N j = f.args.getD 0 fun0 := fun N j => by unfold argF; rw [if_neg h2, if_neg h3]
    by_cases h4 : f.kind = 4
    · rw [if_pos h4, wideV]
      have : argF f 0 = argF f k := by funext i; rw [hg, hg]
      rw [this, ih]
      simp [h4, setsK, wtd]
    rw [if_neg h4]
    have hga : argF f 0 = argF f k := by funext i; rw [hg, hg]
    unfold mergeV
    rw [wideV, Bool.or_eq_false_iff]
    have hlen := mergeP_len f.kind (mapL t l (argF f k) 0) w
    constructor
    · rw [Bool.and_eq_false_iff] at h ⊢
      rcases h.1 with h5 | h5
      · exact .inl h5
      · right
        simp only [decide_eq_false_iff_not, List.length_map] at h5 ⊢
        omega
    · rw [wideL_any (hg 0)]
      rw [wideL_any (hg k)] at ih
      rw [Bool.eq_false_iff] at ih ⊢
      intro hc
      apply ih
      rw [wideL_iff] at hc ⊢
      obtain ⟨u, hu, hw⟩ := hc
      obtain ⟨p, hp, rfl⟩ := List.mem_map.1 hu
      rcases mergeF_fst _ _ p hp with ⟨q, hq, he⟩ | ⟨q, hq, _⟩
      · exact ⟨p.1, by rw [he]; exact (zip_fst hq).1, hw⟩
      · cases hq
theorem mapL_wide {t : Int → Val} (ht : ∀ x (f : Fun), f.kind = 0 → wideV (t x) f = false) : ∀ (l : List Val) (g : Nat → Fun) (i : Nat), wideL l g i = false → wideL (mapL t l g i) g i = false
  | [], g, i, h => by rw [mapL, wideL]
  | v :: r, g, i, h => by
    rw [wideL, Bool.or_eq_false_iff] at h
    rw [mapL, wideL, map_wide ht v _ h.1, mapL_wide ht r _ _ h.2]
    rfl
end
/-! ### Merging twice -/
/-- The weights of the elements of which F is true. -/
def fsum (F : Val → Bool) : List (Val × Int) → Int
  | [] => 0
  | p :: r => (if F p.1 then p.2 else 0) + fsum F r
theorem fsum_ins (F : Val → Bool) (a : Val) (w : Int) : ∀ o : List (Val × Int), fsum F (insP a w o) = fsum F o + (if F a then w else 0)
  | [] => by simp [insP, fsum]
  | x :: r => by
    rw [insP]
    split
    · rename_i h
      rw [cmpV_zero] at h
      subst h
      simp only [fsum]
      split <;> omega
    · split
      · simp only [fsum]; omega
      · simp only [fsum, fsum_ins F a w r]; omega
theorem fsum_merge (F : Val → Bool) : ∀ l o : List (Val × Int), fsum F (mergeF o l) = fsum F l + fsum F o
  | [], o => by simp [mergeF, fsum]
  | p :: r, o => by
    rw [show mergeF o (p :: r) = mergeF (insP p.1 p.2 o) r from rfl, fsum_merge F r, fsum_ins, fsum]
    omega
theorem wtP_map (φ : Val → Val) (u : Val) : ∀ l : List (Val × Int), wtP u (l.map fun p => (φ p.1, p.2)) = fsum (fun x => decide (cmpV (φ x) u = 0)) l
  | [] => rfl
  | p :: r => by
    rw [List.map_cons, wtP, fsum, wtP_map φ u r]
    simp
theorem merge_twice (φ : Val → Val) (l : List (Val × Int)) : mergeF [] ((mergeF [] l).map fun p => (φ p.1, p.2)) = mergeF [] (l.map fun p => (φ p.1, p.2)) :=
  lists_eq (mergeF_sorted _ _ List.Pairwise.nil) (mergeF_sorted _ _ List.Pairwise.nil)
    (fun v => by
      rw [mergeF_has, mergeF_has]
      simp only [List.not_mem_nil, false_and, exists_false, or_false, List.mem_map]
      constructor
      · rintro ⟨_, ⟨p, hp, rfl⟩, rfl⟩
        obtain ⟨q, hq, he⟩ := (mergeF_has p.1 l []).1 ⟨p, hp, rfl⟩ |>.resolve_right (by rintro ⟨_, h, _⟩; cases h)
        exact ⟨_, ⟨q, hq, rfl⟩, by simp only [he]⟩
      · rintro ⟨_, ⟨p, hp, rfl⟩, rfl⟩
        obtain ⟨q, hq, he⟩ := (mergeF_has p.1 l []).2 (.inl ⟨p, hp, rfl⟩)
        exact ⟨_, ⟨q, hq, rfl⟩, by simp only [he]⟩)
    (fun v => by
      rw [wtP_merge, wtP_merge, wtP_map, wtP_map, fsum_merge]
      simp [fsum, wtP])
theorem ins_scale (g : Int) (u : Val) (w : Int) : ∀ o : List (Val × Int), insP u (g * w) (o.map fun p => (p.1, g * p.2)) = (insP u w o).map fun p => (p.1, g * p.2)
  | [] => by simp [insP]
  | x :: r => by
    rw [List.map_cons, insP, insP]
    simp only
    split
    · simp [Int.mul_add]
    · split
      · simp
      · rw [ins_scale g u w r]; simp
theorem merge_scale (g : Int) : ∀ l o : List (Val × Int), mergeF (o.map fun p => (p.1, g * p.2)) (l.map fun p => (p.1, g * p.2)) = (mergeF o l).map fun p => (p.1, g * p.2)
  | [], o => rfl
  | p :: r, o => by
    rw [List.map_cons, show mergeF o (p :: r) = mergeF (insP p.1 p.2 o) r from rfl, ← merge_scale g r]
    show mergeF (insP p.1 (g * p.2) (o.map fun p => (p.1, g * p.2))) _ = _
    rw [ins_scale]
theorem gcd_scale (g : Nat) : ∀ (l : List Int) (a : Nat), gcdF (g * a) (l.map fun w => (g : Int) * w) = g * gcdF a l
  | [], a => rfl
  | w :: r, a => by
    have : ((g : Int) * w).natAbs = g * w.natAbs := by rw [Int.natAbs_mul]; rfl
    show gcdF (Nat.gcd (g * a) ((g : Int) * w).natAbs) _ = g * gcdF (Nat.gcd a w.natAbs) r
    rw [this, Nat.gcd_mul_left, gcd_scale g r]
theorem div_scale {g : Nat} (hg : 0 < g) (l : List Int) : divG (l.map fun w => (g : Int) * w) = divG l := by
  unfold divG
  rw [List.map_map]
  have h : gcdN (l.map fun w => (g : Int) * w) = g * gcdN l := by
    have := gcd_scale g l 0
    rwa [Nat.mul_zero] at this
  rw [h]
  apply List.map_congr_left
  intro w _
  show ((g : Int) * w).tdiv ((g * gcdN l : Nat) : Int) = _
  rw [Int.natCast_mul]
  exact Int.mul_tdiv_mul_of_pos _ _ (by omega)
theorem zip_map_fst (φ : Val → Val) : ∀ (xs : List Val) (w : List Int), (xs.map φ).zip w = (xs.zip w).map fun p => (φ p.1, p.2)
  | [], w => by simp
  | x :: r, [] => by simp
  | x :: r, k :: q => by simp [zip_map_fst φ r q]
theorem zip_fst_snd : ∀ l : List (Val × Int), (l.map (·.1)).zip (l.map (·.2)) = l
  | [] => rfl
  | p :: r => by simp [zip_fst_snd r]
theorem wsOf_map (φ : Val → Val) (kind : Int) (xs : List Val) (w : List Int) : wsOf kind (xs.map φ) w = wsOf kind xs w := by
  unfold wsOf
  split
  · rfl
  · simp
/-- Elements that were merged, mapped and merged again. -/
theorem merge_map (φ : Val → Val) {kind : Int} {xs : List Val} {w : List Int} (hk : setsK kind = true) (hw : wtd kind = true → w.length = xs.length ∧ ∀ x, x ∈ w → 1 ≤ x) (h7 : kind = 7 → 0 < xs.length) :
    mergeV kind 0 ((mergeV kind 0 xs w).args.map φ) (mergeV kind 0 xs w).ws = mergeV kind 0 (xs.map φ) w := by
  have hR : mergeP kind (xs.map φ) w = mergeF [] ((mergeP kind xs w).map fun p => (φ p.1, p.2)) := by
    unfold mergeP
    rw [wsOf_map, zip_map_fst, merge_twice]
  have hwl : wtd kind = true → (xs.zip (wsOf kind xs w)).map (·.2) = w := fun h => by
    have : wsOf kind xs w = w := by unfold wsOf; rw [if_pos h]
    rw [this]
    exact zip_snd_map (hw h).1
  have hpos : wtd kind = true → ∀ p, p ∈ mergeP kind xs w → 1 ≤ p.2 := fun h => mergeF_pos _ _ (fun p hp => (hw h).2 _ (by rw [← hwl h]; exact List.mem_map_of_mem hp)) (fun p hp => by cases hp)
  cases hwt : wtd kind
  · have h5 : kind = 5 := by unfold setsK at hk; rw [hwt, Bool.or_false] at hk; simpa using hk
    have hz : ∀ p, p ∈ mergeP kind xs w → p.2 = 0 := fun p hp => by
      have h0 : ∀ l o : List (Val × Int), (∀ p, p ∈ l → p.2 = 0) → (∀ p, p ∈ o → p.2 = 0) → ∀ p, p ∈ mergeF o l → p.2 = 0 := by
        have hi : ∀ (u : Val) (o : List (Val × Int)), (∀ p, p ∈ o → p.2 = 0) → ∀ p, p ∈ insP u 0 o → p.2 = 0 := by
          intro u o
          induction o with
          | nil => intro _ p hp; rw [insP, List.mem_singleton] at hp; rw [hp]
          | cons x r ih =>
            intro ho p hp
            rw [insP] at hp
            split at hp
            · rcases List.mem_cons.1 hp with rfl | hp
              · have := ho x List.mem_cons_self; simp [this]
              · exact ho p (List.mem_cons_of_mem _ hp)
            · split at hp
              · rcases List.mem_cons.1 hp with rfl | hp
                · rfl
                · exact ho p hp
              · rcases List.mem_cons.1 hp with rfl | hp
                · exact ho _ List.mem_cons_self
                · exact ih (fun q hq => ho q (List.mem_cons_of_mem _ hq)) p hp
        intro l
        induction l with
        | nil => intro o _ ho p hp; exact ho p hp
        | cons x r ih =>
          intro o hl ho p hp
          have hx := hl x List.mem_cons_self
          refine ih (insP x.1 x.2 o) (fun q hq => hl q (List.mem_cons_of_mem _ hq)) ?_ p hp
          rw [hx]
          exact hi x.1 o ho
      refine h0 _ _ (fun q hq => ?_) (fun q hq => by cases hq) p hp
      have := (zip_fst hq).2
      unfold wsOf at this
      rw [hwt] at this
      simp at this
      exact this.2.symm
    have hL : mergeP kind ((mergeV kind 0 xs w).args.map φ) (mergeV kind 0 xs w).ws = mergeF [] ((mergeP kind xs w).map fun p => (φ p.1, p.2)) := by
      show mergeF [] ((((mergeP kind xs w).map (·.1)).map φ).zip (wsOf kind (((mergeP kind xs w).map (·.1)).map φ) _)) = _
      rw [wsOf_map, zip_map_fst]
      congr 2
      have : ∀ (q : List Int), wsOf kind ((mergeP kind xs w).map (·.1)) q = (mergeP kind xs w).map (·.2) := fun q => by
        unfold wsOf
        rw [hwt]
        simp only [Bool.false_eq_true, if_false, List.map_map]
        apply List.map_congr_left
        intro p hp
        rw [hz p hp]
        rfl
      rw [this, zip_fst_snd]
    show Val.mk 0 ((mergeP kind ((mergeV kind 0 xs w).args.map φ) (mergeV kind 0 xs w).ws).map (·.1)) _ = Val.mk 0 ((mergeP kind (xs.map φ) w).map (·.1)) _
    rw [hL, ← hR]
  · by_cases h7' : kind = 7
    · have hg : 0 < gcdN ((mergeP kind xs w).map (·.2)) := by
        refine gcdN_pos (fun h => ?_) fun x hx => by
          obtain ⟨p, hp, rfl⟩ := List.mem_map.1 hx
          exact hpos hwt p hp
        have h1 := h7 h7'
        have h2 : mergeP kind xs w ≠ [] := mergeF_ne _ _ (.inr fun h => by
          have := congrArg List.length h
          rw [List.length_zip] at this
          have hws : wsOf kind xs w = w := by unfold wsOf; rw [if_pos hwt]
          rw [hws, (hw hwt).1] at this
          simp at this
          rw [this] at h1
          simp at h1)
        exact h2 (List.map_eq_nil_iff.1 h)
      generalize hgv : gcdN ((mergeP kind xs w).map (·.2)) = g at hg
      have hdv : ∀ p, p ∈ mergeP kind xs w → (g : Int) * p.2.tdiv g = p.2 := fun p hp => by
        have h1 := (gcdF_dvd ((mergeP kind xs w).map (·.2)) 0).2 _ (List.mem_map_of_mem hp)
        rw [show gcdF 0 ((mergeP kind xs w).map (·.2)) = g from hgv] at h1
        have h2 := hpos hwt p hp
        obtain ⟨c, hc⟩ := h1
        have h3 : p.2 = (g : Int) * (c : Int) := by
          have : p.2 = (p.2.natAbs : Int) := by omega
          rw [this, hc, Int.natCast_mul]
        rw [h3, Int.mul_tdiv_cancel_left _ (by omega)]
      have hws : (mergeV kind 0 xs w).ws = (mergeP kind xs w).map fun p => p.2.tdiv g := by
        show (if kind = 7 then divG ((mergeP kind xs w).map (·.2)) else _) = _
        rw [if_pos h7']
        unfold divG
        rw [hgv, List.map_map]
        rfl
      generalize hQ : ((mergeP kind xs w).map fun p => (p.1, p.2.tdiv g)) = Q
      have hPQ : mergeP kind xs w = Q.map fun p => (p.1, (g : Int) * p.2) := by
        rw [← hQ, List.map_map]
        conv => lhs; rw [← List.map_id (mergeP kind xs w)]
        apply List.map_congr_left
        intro p hp
        simp only [Function.comp_apply, hdv p hp]
        rfl
      have hL : mergeP kind ((mergeV kind 0 xs w).args.map φ) (mergeV kind 0 xs w).ws = mergeF [] (Q.map fun p => (φ p.1, p.2)) := by
        show mergeF [] ((((mergeP kind xs w).map (·.1)).map φ).zip (wsOf kind (((mergeP kind xs w).map (·.1)).map φ) _)) = _
        rw [wsOf_map, zip_map_fst, hws]
        congr 2
        have : wsOf kind ((mergeP kind xs w).map (·.1)) ((mergeP kind xs w).map fun p => p.2.tdiv g) = (mergeP kind xs w).map fun p => p.2.tdiv g := by unfold wsOf; rw [if_pos hwt]
        rw [this]
        have h1 : (mergeP kind xs w).map (·.1) = Q.map (·.1) := by rw [← hQ, List.map_map]; rfl
        have h2 : ((mergeP kind xs w).map fun p => p.2.tdiv g) = Q.map (·.2) := by rw [← hQ, List.map_map]; rfl
        rw [h1, h2, zip_fst_snd]
      have hRR : mergeP kind (xs.map φ) w = (mergeF [] (Q.map fun p => (φ p.1, p.2))).map fun p => (p.1, (g : Int) * p.2) := by
        rw [hR, hPQ, ← merge_scale, List.map_map, List.map_map]
        rfl
      show Val.mk 0 ((mergeP kind ((mergeV kind 0 xs w).args.map φ) (mergeV kind 0 xs w).ws).map (·.1)) (if kind = 7 then divG ((mergeP kind ((mergeV kind 0 xs w).args.map φ) (mergeV kind 0 xs w).ws).map (·.2)) else _) = Val.mk 0 ((mergeP kind (xs.map φ) w).map (·.1)) (if kind = 7 then divG ((mergeP kind (xs.map φ) w).map (·.2)) else _)
      rw [if_pos h7', if_pos h7', hL, hRR, List.map_map, List.map_map]
      congr 1
      rw [← div_scale hg ((mergeF [] (Q.map fun p => (φ p.1, p.2))).map (·.2)), List.map_map]
      rfl
    · have hws : (mergeV kind 0 xs w).ws = (mergeP kind xs w).map (·.2) := by
        show (if kind = 7 then _ else if wtd kind then _ else _) = _
        rw [if_neg h7', if_pos hwt]
      have hL : mergeP kind ((mergeV kind 0 xs w).args.map φ) (mergeV kind 0 xs w).ws = mergeF [] ((mergeP kind xs w).map fun p => (φ p.1, p.2)) := by
        show mergeF [] ((((mergeP kind xs w).map (·.1)).map φ).zip (wsOf kind (((mergeP kind xs w).map (·.1)).map φ) _)) = _
        rw [wsOf_map, zip_map_fst, hws]
        congr 2
        have : wsOf kind ((mergeP kind xs w).map (·.1)) ((mergeP kind xs w).map (·.2)) = (mergeP kind xs w).map (·.2) := by unfold wsOf; rw [if_pos hwt]
        rw [this, zip_fst_snd]
      show Val.mk 0 ((mergeP kind ((mergeV kind 0 xs w).args.map φ) (mergeV kind 0 xs w).ws).map (·.1)) (if kind = 7 then _ else if wtd kind then (mergeP kind ((mergeV kind 0 xs w).args.map φ) (mergeV kind 0 xs w).ws).map (·.2) else _) = Val.mk 0 ((mergeP kind (xs.map φ) w).map (·.1)) (if kind = 7 then _ else if wtd kind then (mergeP kind (xs.map φ) w).map (·.2) else _)
      rw [if_neg h7', if_neg h7', if_pos hwt, if_pos hwt, hL, ← hR]
theorem mapL_const {t : Int → Val} {c : Fun} : ∀ (l : List Val) (g : Nat → Fun) (i : Nat), (∀ j, g j = c) → mapL t l g i = l.map fun x => mapV t x c
  | [], g, i, _ => by rw [mapL]; rfl
  | v :: r, g, i, h => by rw [mapL, h, mapL_const r g (i + 1) h, List.map_cons]
mutual
/-- Mapping twice. -/
theorem map_map {ex : Fun → List Val → List Int → Bool} {n : Int} (to : Int → Int) (t : Int → Val) : ∀ (v : Val) (f : Fun), shapedF f = true → okV ex n v f = true → mapV t (mapV (fun x => idV (to x)) v f) f = mapV (fun x => t (to x)) v f
  | .mk k l w, f, hf, h => by
    rw [okV, Bool.and_eq_true, Bool.and_eq_true] at h
    obtain ⟨⟨hh, _⟩, hl⟩ := h
    rw [mapV, mapV]
    by_cases h0 : f.kind = 0
    · rw [if_pos h0, if_pos h0]
      unfold idV
      rw [mapV, if_pos h0]
    rw [if_neg h0, if_neg h0]
    by_cases h1 : f.kind = 1
    · rw [if_pos h1, if_pos h1, mapV, if_neg h0, if_pos h1]
    rw [if_neg h1, if_neg h1]
    have ih := mapL_map to t l (argF f k) 0 (argF_shaped hf h0 h1 hh) hl
    by_cases h2 : f.kind = 2
    · rw [if_pos h2, if_pos h2, mapV, if_neg h0, if_neg h1, if_pos h2]
      have : argF f 0 = argF f k := by funext i; unfold argF; rw [if_pos h2, if_pos h2]
      rw [this, ih]
    rw [if_neg h2, if_neg h2]
    by_cases h3 : f.kind = 3
    · rw [if_pos h3, if_pos h3, mapV, if_neg h0, if_neg h1, if_neg h2, if_pos h3, ih]
    rw [if_neg h3, if_neg h3]
    have hg : ∀ N j, argF f N j = f.args.getD 0 fun0 := fun N j => by unfold argF; rw [if_neg h2, if_neg h3]
    by_cases h4 : f.kind = 4
    · rw [if_pos h4, if_pos h4, mapV, if_neg h0, if_neg h1, if_neg h2, if_neg h3, if_pos h4]
      have : argF f 0 = argF f k := by funext i; rw [hg, hg]
      rw [this, ih]
    rw [if_neg h4, if_neg h4]
    have hset : setsK f.kind = true := by
      have := shaped_kind hf
      unfold setsK wtd
      simp
      omega
    have hss := (head_sets hset).1 hh
    have hml := mapL_length (fun x => idV (to x)) l (argF f k) 0
    have hw : wtd f.kind = true → w.length = (mapL (fun x => idV (to x)) l (argF f k) 0).length ∧ ∀ x, x ∈ w → 1 ≤ x := fun h => by
      rw [if_pos h] at hss
      have h2 := (weighI_iff w 0 (by omega)).1 hss.2.1
      exact ⟨by omega, h2.1⟩
    have h7 : f.kind = 7 → 0 < (mapL (fun x => idV (to x)) l (argF f k) 0).length := fun h => by
      have hw7 : wtd f.kind = true := by rw [h]; rfl
      rw [if_pos hw7] at hss
      have := hss.2.2.2
      omega
    have key := merge_map (fun x => mapV t x (f.args.getD 0 fun0)) hset hw h7
    rw [← mapL_const (mapL (fun x => idV (to x)) l (argF f k) 0) _ 0 (hg k), ih] at key
    rw [← key, mapV_eq, if_neg h0, if_neg h1, if_neg h2, if_neg h3, if_neg h4, mapL_const _ _ _ (hg _)]
theorem mapL_map {ex : Fun → List Val → List Int → Bool} {n : Int} (to : Int → Int) (t : Int → Val) : ∀ (l : List Val) (g : Nat → Fun) (i : Nat), (∀ j, j < l.length → shapedF (g (i + j)) = true) → okL ex n l g i = true → mapL t (mapL (fun x => idV (to x)) l g i) g i = mapL (fun x => t (to x)) l g i
  | [], g, i, _, _ => by rw [mapL, mapL, mapL]
  | v :: r, g, i, hs, h => by
    rw [okL, Bool.and_eq_true] at h
    rw [mapL, mapL, mapL, map_map to t v (g i) (hs 0 (by simp)) h.1, mapL_map to t r g (i + 1) (fun j hj => by have := hs (j + 1) (by simpa using hj); rwa [show i + (j + 1) = i + 1 + j by omega] at this) h.2]
end
end AE
end Go.Proofs.YthoomlenmgdebaaGreatDoor

/- Numbers in a row: searched, mapped along; the identity; evaluated. -/
set_option linter.unusedVariables false
set_option linter.unusedSimpArgs false
namespace Go.Proofs.YthoomlenmgdebaaGreatDoor
namespace AE
open Go

section
variable {g : FuncId} {caps : List A}
set_option maxHeartbeats 2000000 in
theorem ev_IndexIR (p : Int → Bool) (l : List Int) (id : Nat) (hl : l.length ≤ 1000000000) (m : Mem) (hR : m.rw[id]? = some ⟨3, ints l⟩) (hcl : closed m.bx.length m.rw.length (.fn g caps) = true) (hp : ∀ u, u ∈ l → evCall C0 g (.int .i64 u :: caps) m = some (.ret (.bool (p u)), m)) :
    evCall C0 63 [.sl id l.length 0 l.length, .fn g caps] m = some (.ret (.int .i64 (idxA p l 0)), m) := by
  have hid : id < m.rw.length := (List.getElem?_eq_some_iff.1 hR).1
  have hR2 := (List.getElem?_eq_some_iff.1 hR).2
  rw [evCall_body C0 (C0_ext _ (by decide)) (by rw [C0_P]; exact Tryz.func63) rfl (by rw [C0_ann]; rfl) (by decide) (by simp [Tryz.f63])]
  simp [Tryz.f63, a63, reg63, loop63]
  refine loop_in (fun i : Nat => ⟨[(0, .sl id l.length 0 l.length), (1, .fn g caps), (7, .int .i64 l.length), (8, .int .i64 i)], m⟩)
    (fun i => some (.ret (.int .i64 (idxA p (l.drop i) i)), m)) (fun i => l.length - i) (fun i => i ≤ l.length) 0 ?_ ?_ ?_ ?_ ?_
  · simp
  · simp
  · simp
  · intro x; simp [Tryz.f63, a63, reg63, loop63]
  · intro i hi hrec
    by_cases hlt : i < l.length
    · have w2 : IntKind.i64.wrap (i + 1) = i + 1 := wrap_id _ (by omega)
      have h3 : i + 1 ≤ l.length := by omega
      have he := hp l[i] (List.getElem_mem hlt)
      have hat := ints_at hlt
      rw [idxA_drop hlt]
      cases hc : p l[i]
      · simp [hc] at he
        simp [round, Tryz.f63, a63, reg63, loop63, hlt, w2, h3, he, hat, hid, hR2, endRound_M0, hcl]
        refine hrec (i + 1) _ _ ?_ ?_ ?_ ?_
        · omega
        · omega
        · simp
        · simp
      · simp [hc] at he
        simp [round, Tryz.f63, a63, reg63, loop63, hlt, w2, h3, he, hat, hid, hR2]
    · clear hrec
      rw [List.drop_eq_nil_of_le (by omega), idxA]
      simp [round, Tryz.f63, a63, reg63, loop63, hlt]
theorem ev_ContainsIR (p : Int → Bool) (l : List Int) (id : Nat) (hl : l.length ≤ 1000000000) (m : Mem) (hR : m.rw[id]? = some ⟨3, ints l⟩) (hcl : closed m.bx.length m.rw.length (.fn g caps) = true) (hp : ∀ u, u ∈ l → evCall C0 g (.int .i64 u :: caps) m = some (.ret (.bool (p u)), m)) :
    evCall C0 32 [.sl id l.length 0 l.length, .fn g caps] m = some (.ret (.bool (l.any p)), m) := by
  rw [evCall_body C0 (C0_ext _ (by decide)) (by rw [C0_P]; exact Tryz.func32) rfl (by rw [C0_ann]; rfl) (by decide) (by simp [Tryz.f32])]
  have he := ev_IndexIR p l id hl m hR hcl hp
  have h1 := idxA_pos p l 0 (by omega)
  simp [Tryz.f32, a32, reg32, he, h1]
theorem ev_ContainsIN (m : Mem) : evCall C0 32 [.nils, .fn g caps] m = some (.ret (.bool false), m) := by
  have he : ∀ m, evCall C0 63 [.nils, .fn g caps] m = some (.ret (.int .i64 (-1)), m) := fun m => by
    rw [evCall_body C0 (C0_ext _ (by decide)) (by rw [C0_P]; exact Tryz.func63) rfl (by rw [C0_ann]; rfl) (by decide) (by simp [Tryz.f63])]
    simp [Tryz.f63, a63, reg63, loop63]
    rw [evCode_loop]
    simp [round, Tryz.f63, a63, reg63, loop63]
  rw [evCall_body C0 (C0_ext _ (by decide)) (by rw [C0_P]; exact Tryz.func32) rfl (by rw [C0_ann]; rfl) (by decide) (by simp [Tryz.f32])]
  simp [Tryz.f32, a32, reg32, he]
end
theorem along_okN (n : Int) (hn : n ≤ 0) (id : Nat) : MapOk (toV []) 65 [.ptr id 0] n (fun m => id < m.bx.length) where
  ev x h0 h1 m hm := by omega
  up m b r h := by simp only [List.length_append]; omega
  cl m h := by simp [h]
  sm := toV_sm []
theorem along_okR (to : List Int) (rid : Nat) (n : Int) (hto : n ≤ to.length) (id : Nat) : MapOk (toV to) 65 [.ptr id 0] n (fun m => m.bx[id]? = some [.sl rid to.length 0 to.length] ∧ m.rw[rid]? = some ⟨3, ints to⟩) where
  ev x h0 h1 m hm := by
    have hid : id < m.bx.length := (List.getElem?_eq_some_iff.1 hm.1).1
    have hg := (List.getElem?_eq_some_iff.1 hm.1).2
    have hrd : rid < m.rw.length := (List.getElem?_eq_some_iff.1 hm.2).1
    have hr := (List.getElem?_eq_some_iff.1 hm.2).2
    obtain ⟨k, rfl⟩ : ∃ k : Nat, x = k := ⟨x.toNat, by omega⟩
    have hxl : k < to.length := by omega
    have hat := ints_at hxl
    rw [evCall_body C0 (C0_ext _ (by decide)) (by rw [C0_P]; exact Tryz.func65) rfl (by rw [C0_ann]; rfl) (by decide) (by simp [Tryz.f65])]
    simp [Tryz.f65, a65, reg65, at_lt, hid, hg, hrd, hr, hxl, show k + 1 ≤ to.length by omega, hat, toV, idV]
  up m b r h := by
    have hid : id < m.bx.length := (List.getElem?_eq_some_iff.1 h.1).1
    have hrd : rid < m.rw.length := (List.getElem?_eq_some_iff.1 h.2).1
    simp only
    rw [List.getElem?_append_left hid, List.getElem?_append_left hrd]
    exact h
  cl m h := by
    have hid : id < m.bx.length := (List.getElem?_eq_some_iff.1 h.1).1
    simp [hid]
  sm := toV_sm to
theorem ev_AlongN (n : Int) (hn : n ≤ 0) (f : Fun) (v : Val) (hf : shapedF f = true) (hok : okV exL n v f = true) (hb : v.nodes ≤ 1000000) (hs : slimV v) (m : Mem) :
    evCall C0 34 [.agg f.cells, .agg v.cells, .nils] m = some (.ret (.agg (mapV (toV []) v f).cells), m) := by
  rw [evCall_body C0 (C0_ext _ (by decide)) (by rw [C0_P]; exact Tryz.func34) rfl (by rw [C0_ann]; rfl) (by decide) (by simp [Tryz.f34])]
  have he := ev_Mapped (along_okN n hn (m.bx.length + 2)) v.nodes v (Nat.le_refl _) hb hs f hf hok ⟨m.bx ++ [f.cells, v.cells, [.nils], [.int .i64 0, .nils, .nils]], m.rw⟩ (by simp)
  simp at he
  simp [Tryz.f34, a34, reg34, he]
theorem ev_AlongR (to : List Int) (rid : Nat) (n : Int) (hto : n ≤ to.length) (f : Fun) (v : Val) (hf : shapedF f = true) (hok : okV exL n v f = true) (hb : v.nodes ≤ 1000000) (hs : slimV v) (m : Mem) (hR : m.rw[rid]? = some ⟨3, ints to⟩) :
    evCall C0 34 [.agg f.cells, .agg v.cells, .sl rid to.length 0 to.length] m = some (.ret (.agg (mapV (toV to) v f).cells), m) := by
  have hrd : rid < m.rw.length := (List.getElem?_eq_some_iff.1 hR).1
  rw [evCall_body C0 (C0_ext _ (by decide)) (by rw [C0_P]; exact Tryz.func34) rfl (by rw [C0_ann]; rfl) (by decide) (by simp [Tryz.f34])]
  have he := ev_Mapped (along_okR to rid n hto (m.bx.length + 2)) v.nodes v (Nat.le_refl _) hb hs f hf hok ⟨m.bx ++ [f.cells, v.cells, [.sl rid to.length 0 to.length], [.int .i64 0, .nils, .nils]], m.rw⟩ (by simp [hR])
  simp at he
  simp [Tryz.f34, a34, reg34, he, hrd]
theorem ev_VMapN (f : Fun) (n : Int) (v : Val) (hbf : f.nodes ≤ 1000000000) (hb : v.nodes ≤ 1000000) (hs : slimV v) (m : Mem) :
    evCall C0 10 [.agg f.cells, .int .i64 n, .agg v.cells, .nils] m = some (.ret (.tup [.agg (pMap [] f n v).1.cells, .int .i64 (pMap [] f n v).2]), m) := by
  have he := ev_whole f n v hbf (by omega) hs
  rw [evCall_body C0 (C0_ext _ (by decide)) (by rw [C0_P]; exact Tryz.func10) rfl (by rw [C0_ann]; rfl) (by decide) (by simp [Tryz.f10])]
  simp at he
  unfold pMap
  by_cases h0 : errV f n v = 0
  case neg => simp [Tryz.f10, a10, reg10, he, h0, zeroV]
  obtain ⟨h1, h2, h3⟩ := errV_zero h0
  have hz := errF_zero h1
  have hc := fun m => ev_ContainsIN (g := 33) (caps := []) m
  simp [h0] at he
  unfold mapsB
  by_cases hl : 0 = n
  · have ha := ev_AlongN n (by omega) f v hz.1 (ok_loose n v f h2) hb hs
    simp at ha
    simp [Tryz.f10, a10, reg10, he, h0, hl, hc, ha]
  · simp [Tryz.f10, a10, reg10, he, h0, hl, zeroV]
theorem ev_VMapR (to : List Int) (rid : Nat) (htl : to.length ≤ 1000000000) (f : Fun) (n : Int) (v : Val) (hbf : f.nodes ≤ 1000000000) (hb : v.nodes ≤ 1000000) (hs : slimV v) (m : Mem) (hR : m.rw[rid]? = some ⟨3, ints to⟩) :
    evCall C0 10 [.agg f.cells, .int .i64 n, .agg v.cells, .sl rid to.length 0 to.length] m = some (.ret (.tup [.agg (pMap to f n v).1.cells, .int .i64 (pMap to f n v).2]), m) := by
  have hrd : rid < m.rw.length := (List.getElem?_eq_some_iff.1 hR).1
  have he := ev_whole f n v hbf (by omega) hs
  rw [evCall_body C0 (C0_ext _ (by decide)) (by rw [C0_P]; exact Tryz.func10) rfl (by rw [C0_ann]; rfl) (by decide) (by simp [Tryz.f10])]
  simp at he
  unfold pMap
  by_cases h0 : errV f n v = 0
  case neg => simp [Tryz.f10, a10, reg10, he, h0, zeroV]
  obtain ⟨h1, h2, h3⟩ := errV_zero h0
  have hz := errF_zero h1
  have hc := fun bx => ev_ContainsIR (g := 33) (caps := []) (fun y => decide (y < 0) || decide (100 ≤ y)) to rid htl ⟨bx, m.rw⟩ hR (by simp) fun y _ => ev_Map1 y ⟨bx, m.rw⟩
  simp [h0] at he
  unfold mapsB
  by_cases hl : (to.length : Int) = n
  · have ha := fun bx => ev_AlongR to rid n (by omega) f v hz.1 (ok_loose n v f h2) hb hs ⟨bx, m.rw⟩ hR
    simp at ha
    cases hq : to.any fun y => decide (y < 0) || decide (100 ≤ y)
    · simp only [hq] at hc
      simp [Tryz.f10, a10, reg10, he, h0, hl, hc, ha, hrd]
    · simp only [hq] at hc
      simp [Tryz.f10, a10, reg10, he, h0, hl, hc, zeroV, hrd]
  · simp [Tryz.f10, a10, reg10, he, h0, hl, zeroV, hrd]
/-- The numbers below k. -/
def idL (k : Nat) : List Int := (List.range k).map fun i : Nat => (i : Int)
theorem idL_length (k : Nat) : (idL k).length = k := by simp [idL]
theorem idL_succ (k : Nat) : idL (k + 1) = idL k ++ [(k : Int)] := by simp [idL, List.range_succ]
theorem ints_idL (k : Nat) : ints (idL (k + 1)) = ints (idL k) ++ [.int .i64 k] := by rw [idL_succ, ints_append]; rfl
set_option maxHeartbeats 2000000 in
theorem ev_identity (n : Nat) (hn : n ≤ 1000) (m : Mem) : evCall C0 27 [.int .i64 n] m = some (.ret (.isl false n (ints (idL n))), m) := by
  rw [evCall_body C0 (C0_ext _ (by decide)) (by rw [C0_P]; exact Tryz.func27) rfl (by rw [C0_ann]; rfl) (by decide) (by simp [Tryz.f27])]
  simp [Tryz.f27, a27, reg27, loop27]
  refine loop_in (fun i : Nat => ⟨[(3, lsA m.rw.length (idL i)), (5, .int .i64 n), (6, .int .i64 i)], ⟨m.bx, m.rw ++ lsRow (idL i)⟩⟩)
    (fun i => some (.ret (.isl false n (ints (idL n))), m)) (fun i => n - i) (fun i => i ≤ n) 0 ?_ ?_ ?_ ?_ ?_
  · simp [lsA, lsRow, idL_length]
  · simp
  · simp
  · intro x; simp [Tryz.f27, a27, reg27, loop27]
  · intro i hi hrec
    have hil := idL_length i
    by_cases hlt : i < n
    · have w2 : IntKind.i64.wrap (i + 1) = i + 1 := wrap_id _ (by omega)
      by_cases hi0 : i = 0
      · subst hi0
        simp [round, Tryz.f27, a27, reg27, loop27, hlt, w2, lsA, lsRow, idL_length, endRound_rw]
        refine hrec 1 _ _ ?_ ?_ ?_ ?_
        · omega
        · omega
        · simp [lsA, lsRow, idL_length, ints_idL]; try rfl
        · simp
      · simp [round, Tryz.f27, a27, reg27, loop27, hlt, w2, lsA, lsRow, idL_length, hi0, show (i + 1) * 8 ≤ 70368744177664 by omega, show i + 1 ≤ 70368744177664 by omega, endRound_rwR]
        refine hrec (i + 1) _ _ ?_ ?_ ?_ ?_
        · omega
        · omega
        · simp [lsA, lsRow, idL_length, ints_idL]
        · simp
    · clear hrec
      obtain rfl : i = n := by omega
      by_cases hi0 : i = 0
      · subst hi0
        simp [round, Tryz.f27, a27, reg27, loop27, lsA, lsRow, idL_length, show ints (idL 0) = [] from rfl]
      · simp [round, Tryz.f27, a27, reg27, loop27, lsA, lsRow, idL_length, hi0]
        exact List.take_of_length_le (by simp [idL_length])
end AE
end Go.Proofs.YthoomlenmgdebaaGreatDoor

/- The statement about laws of values; evaluated. -/
set_option linter.unusedVariables false
set_option linter.unusedSimpArgs false
namespace Go.Proofs.YthoomlenmgdebaaGreatDoor
namespace AE
open Go

theorem mapsB_iff (n : Int) (to : List Int) : mapsB n to = true ↔ (∀ y, y ∈ to → 0 ≤ y ∧ y < 100) ∧ (to.length : Int) = n := by
  unfold mapsB
  rw [Bool.and_eq_true, decide_eq_true_eq, Bool.not_eq_true', List.any_eq_false]
  refine and_congr ⟨fun h y hy => ?_, fun h y hy => ?_⟩ Iff.rfl
  · have := h y hy
    simp at this
    omega
  · have := h y hy
    simp
    omega
/-- Where a list leads. -/
def leadsTo (to : List Int) (x : Int) : Int := to.getD x.toNat 0
theorem toV_leads (to : List Int) : toV to = fun x => idV (leadsTo to x) := rfl
theorem leads_mem {n : Int} {to : List Int} (h : mapsB n to = true) {x : Int} (h0 : 0 ≤ x) (h1 : x < n) : 0 ≤ leadsTo to x ∧ leadsTo to x < 100 := by
  obtain ⟨h2, h3⟩ := (mapsB_iff n to).1 h
  have hx : x.toNat < to.length := by omega
  unfold leadsTo
  rw [List.getD_eq_getElem?_getD, List.getElem?_eq_getElem hx]
  exact h2 _ (List.getElem_mem hx)
theorem maps_idL {k : Nat} (hk : k ≤ 100) : mapsB k (idL k) = true := by
  rw [mapsB_iff]
  refine ⟨fun y hy => ?_, by rw [idL_length]⟩
  unfold idL at hy
  obtain ⟨i, hi, rfl⟩ := List.mem_map.1 hy
  have := List.mem_range.1 hi
  omega
theorem idL_at (k i : Nat) (h : i < (idL k).length) : (idL k)[i] = (i : Int) := by simp [idL]
section
variable {f : Fun} {n : Int} {v : Val}
theorem ok_parts (h : okV exS n v f = true) : okV exN n v f = true ∧ wideV v f = false := by
  rw [ok_wide, Bool.and_eq_true] at h
  exact ⟨h.1, by simpa using h.2⟩
theorem pMap_id {k : Nat} (h0 : errV f k v = 0) : pMap (idL k) f k v = (v, 0) := by
  obtain ⟨h1, h2, h3⟩ := errV_zero h0
  have hz := errF_zero h1
  unfold pMap
  rw [if_pos h0, if_pos (maps_idL (by omega))]
  have h4 := map_congr (t := toV (idL k)) (t' := idV) (fun x hx0 hx1 => by
    unfold toV
    have hx : x.toNat < (idL k).length := by rw [idL_length]; omega
    rw [List.getD_eq_getElem?_getD, List.getElem?_eq_getElem hx]
    rw [idL_at]
    simp only [Option.getD_some]
    congr 1
    omega) v f h2
  rw [h4, map_id hz.1 (ok_parts h2).1]
theorem rNorm_id (h0 : errV f n v = 0) : rNorm f n v = (v, 0) := by
  obtain ⟨h1, h2, h3⟩ := errV_zero h0
  have h4 := ok_parts h2
  unfold rNorm
  rw [if_pos h3, norm_id n v f h4.1]
  simp only [h4.2, Bool.false_eq_true, if_false]
theorem pNorm_id (h0 : errV f n v = 0) : pNorm f n v = (v, 0) := by
  unfold pNorm
  rw [if_pos (errV_zero h0).1, rNorm_id h0]
theorem pStr_id (h0 : errV f n v = 0) : pStr f n v = (textV v f, 0) := by
  unfold pStr
  rw [if_pos h0]
theorem pParse_id (h0 : errV f n v = 0) : pParse f n (textV v f) = if 40000 < (textV v f).length then (zeroV, 2) else (v, 0) := by
  obtain ⟨h1, h2, h3⟩ := errV_zero h0
  have hz := errF_zero h1
  unfold pParse
  rw [if_pos h1]
  split
  · rfl
  · rw [read_back (n := n) (by omega) hz.1 h2]
    simp only [if_true]
    exact rNorm_id h0
theorem errF_100 (h : errF f n = 0) : errF f 100 = 0 := by
  have h1 := errF_zero h
  unfold errF at h ⊢
  cases hc : okF f
  · rw [hc] at h; simp at h
  · rw [hc, if_pos rfl] at h
    simp
theorem errV_map {to : List Int} (hs : slimV v) (h0 : errV f n v = 0) (hm : mapsB n to = true) : errV f 100 (mapV (toV to) v f) = 0 := by
  obtain ⟨h1, h2, h3⟩ := errV_zero h0
  have hz := errF_zero h1
  have h4 := ok_parts h2
  have hnn := map_nodes (toV_sm to) v f hs (by omega)
  have h5 : okV exS 100 (mapV (toV to) v f) f = true := by
    rw [ok_wide, Bool.and_eq_true]
    refine ⟨map_ok hz.1 (ok_loose n v f h2) fun x a b => leads_mem hm a b, ?_⟩
    rw [map_wide (fun x g hg => ?_) v f h4.2]
    · rfl
    · unfold toV idV
      rw [wideV]
      simp [setsK, wtd, hg, wideL]
  unfold errV
  rw [if_pos (errF_100 h1), ((chkV_spec exS 100 (mapV (toV to) v f) f 2000 (by omega)).1).2 ⟨by omega, h5⟩, if_pos rfl]
/-- One list behind another. -/
def bothL (to th : List Int) : List Int := to.map (leadsTo th)
theorem maps_both {to th : List Int} (h : mapsB n to = true) (h' : mapsB 100 th = true) : mapsB n (bothL to th) = true := by
  obtain ⟨h2, h3⟩ := (mapsB_iff n to).1 h
  rw [mapsB_iff]
  refine ⟨fun y hy => ?_, by rw [bothL, List.length_map, h3]⟩
  obtain ⟨x, hx, rfl⟩ := List.mem_map.1 hy
  have := h2 x hx
  exact leads_mem h' this.1 this.2
theorem map_both {to th : List Int} (h0 : errV f n v = 0) (h : mapsB n to = true) : mapV (toV th) (mapV (toV to) v f) f = mapV (toV (bothL to th)) v f := by
  obtain ⟨h1, h2, h3⟩ := errV_zero h0
  obtain ⟨h4, h5⟩ := (mapsB_iff n to).1 h
  have hz := errF_zero h1
  rw [toV_leads to, map_map (leadsTo to) (toV th) v f hz.1 h2]
  refine map_congr (fun x hx0 hx1 => ?_) v f h2
  have hx : x.toNat < to.length := by omega
  unfold toV bothL leadsTo
  rw [List.getD_eq_getElem?_getD (l := to.map _), List.getElem?_map, List.getElem?_eq_getElem hx, List.getD_eq_getElem?_getD (l := to), List.getElem?_eq_getElem hx]
  rfl
end
end AE
end Go.Proofs.YthoomlenmgdebaaGreatDoor

/- The statement about laws of values; evaluated. -/
set_option linter.unusedVariables false
set_option linter.unusedSimpArgs false
namespace Go.Proofs.YthoomlenmgdebaaGreatDoor
namespace AE
open Go

theorem ints_take {l : List Int} {i : Nat} (h : i < l.length) : ints (l.take (i + 1)) = ints (l.take i) ++ [.int .i64 l[i]] := by rw [List.take_succ_eq_append_getElem h, ints_append]; rfl
/-- The beginnings of a list of numbers. -/
theorem starts_of (L : List Int) : ∃ K : Nat → List Int, K 0 = [] ∧ (∀ i, i ≤ L.length → (K i).length = i) ∧ (∀ (i : Nat) (h : i < L.length), ints (K (i + 1)) = ints (K i) ++ [.int .i64 L[i]]) ∧ K L.length = L :=
  ⟨fun i => L.take i, by simp, fun i h => by simp; omega, fun i h => ints_take h, by simp⟩
theorem endRound_J0 {l : List Nat} {M L L' : List (List A)} {R J' : List Row} {tm : List (Nat × A)} (hJ : J'.all (fun r => r.cs.all (closed 0 0)) = true) (hL : L.length ≤ L'.length) (hl : l.all (fun t => closed (M.length + L.length) (R.length + J'.length) (lk t tm)) = true) (hc : (L'.take L.length).all (fun cs => cs.all (closed (M.length + L.length) (R.length + J'.length))) = true) :
    endRound (some l) ⟨M ++ L, R⟩ ⟨tm, ⟨M ++ L', R ++ J'⟩⟩ = some ⟨prune (some l) tm, ⟨M ++ L'.take L.length, R ++ J'⟩⟩ := by
  have := endRound_J (J := []) hJ hL hl hc
  simpa using this
set_option maxHeartbeats 8000000 in
theorem ev_ValueLaws (f : Fun) (n : Int) (v : Val) (to th : List Int) (hto : to.length ≤ 9223372036854775807) (hth : th.length ≤ 9223372036854775807) (m : Mem) : evCall C0 7 [.agg f.cells, .int .i64 n, .agg v.cells, .isl false to.length (ints to), .isl false th.length (ints th)] m = some (.ret (.bool true), m) := by
  rw [evCall_body C0 (C0_ext _ (by decide)) (by rw [C0_P]; exact Tryz.func7) rfl (by rw [C0_ann]; rfl) (by decide) (by simp [Tryz.f7])]
  have hfew := ev_vfew f true [v] (by simp)
  have haw := ev_awake
  simp [Val.cellsL] at hfew
  cases hq : (fewV v 3000 && decide (0 < leftF f 101))
  case false =>
    simp only [hq] at hfew
    simp [Tryz.f7, a7, reg7, loop7, draw7, dok7, hfew, haw]
  simp only [hq] at hfew
  rw [Bool.and_eq_true, decide_eq_true_eq] at hq
  obtain ⟨hv, hfl⟩ := hq
  have hvn := fewV_nodes (by omega) hv
  have hvs : slimV v := light_slim (most := 3000) (by omega) v (by unfold fewV at hv; rw [Bool.and_eq_true] at hv; exact hv.2)
  have hfn : f.nodes ≤ 1000000000 := by rw [leftF_nodes f 101 (by omega)] at hfl; omega
  have h2 := ev_vfault f n true [v] hfn (by simp) (by intro x hx; rw [List.mem_singleton] at hx; subst hx; exact ⟨by omega, hvs⟩)
  have he : (if errF f n = 0 then (if ([v].all fun v => (chkV exS n v f 2000).1) then (0 : Int) else 20) else errF f n) = errV f n v := by
    unfold errV
    simp
  rw [he] at h2
  simp [Val.cellsL] at h2
  by_cases h0 : errV f n v = 0
  case neg => simp [Tryz.f7, a7, reg7, loop7, draw7, dok7, hfew, h2, h0, haw]
  simp [h0] at h2
  obtain ⟨e1, e2, e3⟩ := errV_zero h0
  have hz := errF_zero e1
  obtain ⟨k, rfl⟩ : ∃ k : Nat, n = k := ⟨n.toNat, by omega⟩
  have hi := ev_identity k (by omega)
  have hM1 := ev_VMap (idL k) false (by rw [idL_length]; omega) f k v hfn (by omega) hvs
  rw [pMap_id h0, idL_length] at hM1
  have hN := ev_VNormal f k v hfn (by omega) hvs
  rw [pNorm_id h0] at hN
  have hS := ev_VString f k v hfn (by omega) hvs
  rw [pStr_id h0] at hS
  have hlen := textV_len (n := k) (by omega) v f hz.1 e2
  have hP := ev_VParse f k hfn (textV v f) (by unfold Sm; omega)
  rw [pParse_id h0] at hP
  have hSm := ev_RSameV v v (by omega) hvs
  rw [cmpV_self] at hSm
  have hT := ev_maps k to false hto
  have hH := ev_maps 100 th false hth
  generalize textV v f = s at hS hP hlen
  simp at hM1 hN hS hSm
  have key : ∃ q : Val, ∃ e : Int, (∀ m, evCall C0 17 [.agg f.cells, .int .i64 k, .str s] m = some (.ret (.tup [.agg q.cells, .int .i64 e]), m)) ∧ (s.length ≤ 40000 → q = v ∧ e = 0) := by
    by_cases hb : 40000 < s.length
    · rw [if_pos hb] at hP
      exact ⟨zeroV, 2, hP, fun h => by omega⟩
    · rw [if_neg hb] at hP
      exact ⟨v, 0, hP, fun _ => ⟨rfl, rfl⟩⟩
  obtain ⟨q, e, hPq, hqv⟩ := key
  simp at hPq
  have hbx : ∃ B : Bool, decide ((s.length : Int) ≤ 40000) = B := ⟨_, rfl⟩
  have L1 := hto
  cases hm : mapsB k to
  · simp only [hm] at hT
    by_cases hb : (s.length : Int) ≤ 40000
    · obtain ⟨hq1, rfl⟩ := hqv (by omega)
      have hSq := ev_RSameV q v (by rw [hq1]; omega) (by rw [hq1]; exact hvs)
      rw [show cmpV q v = 0 by rw [hq1, cmpV_self]] at hSq
      simp at hSq
      simp [Tryz.f7, a7, reg7, loop7, draw7, dok7, hfew, h2, hi, hM1, hN, hS, hSm, hPq, hb, hSq, hT, haw]
    · simp [Tryz.f7, a7, reg7, loop7, draw7, dok7, hfew, h2, hi, hM1, hN, hS, hSm, hPq, hb, hT, haw]
  cases hm2 : mapsB 100 th
  · simp only [hm] at hT
    simp only [hm2] at hH
    by_cases hb : (s.length : Int) ≤ 40000
    · obtain ⟨hq1, rfl⟩ := hqv (by omega)
      have hSq := ev_RSameV q v (by rw [hq1]; omega) (by rw [hq1]; exact hvs)
      rw [show cmpV q v = 0 by rw [hq1, cmpV_self]] at hSq
      simp at hSq
      simp [Tryz.f7, a7, reg7, loop7, draw7, dok7, hfew, h2, hi, hM1, hN, hS, hSm, hPq, hb, hSq, hT, hH, haw]
    · simp [Tryz.f7, a7, reg7, loop7, draw7, dok7, hfew, h2, hi, hM1, hN, hS, hSm, hPq, hb, hT, hH, haw]
  obtain ⟨hto1, hto2⟩ := (mapsB_iff _ _).1 hm
  obtain ⟨hth1, hth2⟩ := (mapsB_iff _ _).1 hm2
  have hmL := maps_both hm hm2
  have hM2 := ev_VMap to false (by omega) f k v hfn (by omega) hvs
  have hp2 : pMap to f k v = (mapV (toV to) v f, 0) := by unfold pMap; rw [if_pos h0, if_pos hm]
  rw [hp2] at hM2
  have hna := map_nodes (toV_sm to) v f hvs (by omega)
  have hM3 := ev_VMap th false (by omega) f 100 (mapV (toV to) v f) hfn (by omega) hna.2
  have hp3 : pMap th f 100 (mapV (toV to) v f) = (mapV (toV (bothL to th)) v f, 0) := by unfold pMap; rw [if_pos (errV_map hvs h0 hm), if_pos hm2, map_both h0 hm]
  rw [hp3] at hM3
  have hnb := map_nodes (toV_sm (bothL to th)) v f hvs (by omega)
  have hSb := ev_RSameV (mapV (toV (bothL to th)) v f) (mapV (toV (bothL to th)) v f) (by omega) hnb.2
  rw [cmpV_self] at hSb
  have hp4 : pMap (bothL to th) f k v = (mapV (toV (bothL to th)) v f, 0) := by unfold pMap; rw [if_pos h0, if_pos hmL]
  have hbl : (bothL to th).length = to.length := by unfold bothL; simp
  have hM4 := fun bx => ev_VMapR (bothL to th) m.rw.length (by omega) f k v hfn (by omega) hvs ⟨bx, m.rw ++ [⟨3, ints (bothL to th)⟩]⟩ (by simp)
  have hM5 : bothL to th = [] → _ := fun h => ev_VMapN f k v hfn (by omega) hvs
  rw [hp4] at hM4
  have hp5 : bothL to th = [] → pMap [] f k v = (mapV (toV (bothL to th)) v f, 0) := fun h => by rw [← hp4, h]
  obtain ⟨K, hK0, hKl, hKs, hKe⟩ := starts_of (bothL to th)
  have hKx : ∀ (i : Nat) (h : i < to.length) (x : Nat) (hx : x < th.length), to[i] = x → ints (K (i + 1)) = ints (K i) ++ [.int .i64 th[x]] := fun i h x hx e => by
    rw [hKs i (by omega)]
    unfold bothL
    rw [List.getElem_map, e]
    unfold leadsTo
    rw [Int.toNat_natCast, List.getD_eq_getElem?_getD, List.getElem?_eq_getElem hx]
    rfl
  clear hKs
  generalize mapV (toV (bothL to th)) v f = b at *
  generalize mapV (toV to) v f = a at *
  generalize bothL to th = L at *
  rw [hbl] at hKe hM4
  simp only [hm] at hT
  simp only [hm2] at hH
  simp at hM2 hM3 hM4 hSb
  by_cases hb : (s.length : Int) ≤ 40000
  case' pos =>
    obtain ⟨hq1, rfl⟩ := hqv (by omega)
    have hSq := ev_RSameV q v (by rw [hq1]; omega) (by rw [hq1]; exact hvs)
    rw [show cmpV q v = 0 by rw [hq1, cmpV_self]] at hSq
    simp at hSq
    simp [Tryz.f7, a7, reg7, loop7, draw7, dok7, hfew, h2, hi, hM1, hN, hS, hSm, hPq, hb, hSq, hT, hH]
  case' neg => simp [Tryz.f7, a7, reg7, loop7, draw7, dok7, hfew, h2, hi, hM1, hN, hS, hSm, hPq, hb, hT, hH]
  all_goals
    refine loop_in (fun i : Nat => ⟨[(1, .int .i64 k), (3, .isl false to.length (ints to)), (4, .isl false th.length (ints th)), (5, .ptr m.bx.length 0), (7, .ptr (m.bx.length + 1) 0), (18, lsA m.rw.length (K i)), (113, .isl false to.length (ints to)), (114, .int .i64 to.length), (115, .int .i64 i)],
        ⟨m.bx ++ [f.cells, v.cells, v.cells, v.cells, q.cells], m.rw ++ lsRow (K i)⟩⟩)
      (fun i => some (.ret (.bool true), m)) (fun i => to.length - i) (fun i => i ≤ to.length) 0 ?_ ?_ ?_ ?_ ?_
    · simp [lsA, lsRow, hK0]
    · simp
    · simp
    · intro x; simp [Tryz.f7, a7, reg7, loop7, draw7, dok7]
    · intro i hi hrec
      have hil := hKl i (by omega)
      by_cases hlt : i < to.length
      · have w2 : IntKind.i64.wrap (i + 1) = i + 1 := wrap_id _ (by omega)
        have h3 : i + 1 ≤ to.length := by omega
        have hat := ints_at hlt
        obtain ⟨x, hx⟩ : ∃ x : Nat, to[i] = x := ⟨(to[i]).toNat, by have := hto1 _ (List.getElem_mem hlt); omega⟩
        have hxl : x < th.length := by have := hto1 _ (List.getElem_mem hlt); omega
        have hat2 := ints_at hxl
        have hkx := hKx i hlt x hxl hx
        rw [hx] at hat
        have hil2 := hKl (i + 1) (by omega)
        cases hKi : K i with
        | nil =>
          rw [hKi] at hil hkx
          have hi0 : i = 0 := by simpa using hil.symm
          subst hi0
          simp at hat
          simp [round, Tryz.f7, a7, reg7, loop7, draw7, dok7, hlt, w2, h3, hat, hat2, hxl, show x + 1 ≤ th.length by omega, lsA, lsRow, endRound_J0]
          refine hrec 1 _ _ ?_ ?_ ?_ ?_
          · omega
          · omega
          · simp [lsA, lsRow, hil2, hkx]; try rfl
          · simp
        | cons y r =>
          rw [hKi] at hil hkx
          have hr : r.length + 1 = i := by simpa using hil
          simp [round, Tryz.f7, a7, reg7, loop7, draw7, dok7, hlt, w2, h3, hat, hat2, hxl, show x + 1 ≤ th.length by omega, lsA, lsRow, show (r.length + 1 + 1) * 8 ≤ 70368744177664 by omega, show r.length + 1 + 1 ≤ 70368744177664 by omega, endRound_J]
          refine hrec (i + 1) _ _ ?_ ?_ ?_ ?_
          · omega
          · omega
          · simp [lsA, lsRow, hil2, hkx, hr]
          · simp
      · clear hrec
        obtain rfl : i = to.length := by omega
        rw [hKe]
        by_cases hz0 : to.length = 0
        · have hL0 : L = [] := List.eq_nil_of_length_eq_zero (by omega)
          have h50 := hM5 hL0
          rw [hp5 hL0] at h50
          simp at h50
          subst hL0
          have ht0 : to = [] := List.eq_nil_of_length_eq_zero hz0
          subst ht0
          have hi0 : ints ([] : List Int) = [] := rfl
          simp [hi0] at hM2
          simp [round, Tryz.f7, a7, reg7, loop7, draw7, dok7, lsA, lsRow, hi0, hM2, hM3, h50, hSb, haw]
        · simp [round, Tryz.f7, a7, reg7, loop7, draw7, dok7, lsA, lsRow, hz0, hbl, hM2, hM3, hM4, hSb, haw]
end AE
end Go.Proofs.YthoomlenmgdebaaGreatDoor

/- The row of the statement ValueLaws. Printed by mkrow.py. -/
set_option linter.unusedVariables false
set_option linter.unusedSimpArgs false
namespace Go.Proofs.YthoomlenmgdebaaGreatDoor
namespace AE
open Go Go.ChangeShapes Go.WideShapes Go.ChangeAt Go.RowKit

theorem own : ownKnob Tryz.prog.godebug = none := by kernel_rfl
theorem laidOut : laidOutB Tryz.prog = true := by kernel_rfl
theorem door_met_valueLaws (os : Os) (args : Array Value) : laidMetH Tryz.prog Rows.valueLawsRow.laid ((World.laidAll Tryz.prog os Rows.valueLawsRow.laid).forCall (fun _ _ => 0) ⟨#[], args, []⟩).memory := by
  rw [MakeChecks.laidMetH_plain _ _ _ (by kernel_rfl)]
  exact laidMet_laidAll _ (by kernel_rfl) (by kernel_rfl)
set_option maxRecDepth 100000 in
theorem lifted_valueLaws (os : Os) (started : os.Started) (H : Type) (enc : TypeId × Value → H) :
    ReturnsInHanded {} Tryz.checked os 7 .any (fun w args => (Rows.valueLawsSpec.pre enc Tryz.prog Tryz.f7 [] false w args ∧ laidMetH Tryz.prog Rows.valueLawsRow.laid w) ∧ sizedMet enc Tryz.prog Tryz.f7 (OpenSpec.ofChange Rows.valueLawsSpec) false w args)
      (Rows.valueLawsSpec.post enc Tryz.prog Tryz.f7 false true false false) := by
  refine returnsInHanded_of_change_and (C := Tryz.checked) (X := fun w _ => laidMetH Tryz.prog Rows.valueLawsRow.laid w) (fun _ _ _ hh h => h.of_heap hh) own started (by kernel_rfl) Tryz.func7
    (ChangeSpec.witness_shaped (enc := enc) (C := Tryz.checked) (os := os) (X := fun w _ => laidMetH Tryz.prog Rows.valueLawsRow.laid w) false (World.laidAll Tryz.prog os Rows.valueLawsRow.laid) #[.agg #[.int .i64 0, .int .i64 0, .slice none 0 0], .int .i64 0, .agg #[.int .i64 0, .slice none 0 0, .slice none 0 0], .slice none 0 0, .slice none 0 0] 8 rfl (World.shaped_of_ZipB (by kernel_rfl) (by kernel_rfl)) (by kernel_rfl) (by kernel_rfl) (by kernel_rfl) (door_met_valueLaws os _)) ?_
  intro W base args ds gs before hval0 hW _ _ hL _
  have hW' := hW
  obtain ⟨p, q, hA0, hV, rfl, hfz, hnd⟩ := hW
  have hA : DataW.TrodAll enc Tryz.prog W 0 (fun _ => true) true Tryz.f7.params.toList args.toList ds p := hA0
  rw [Tryz.params7] at hA
  obtain ⟨v0, v1, v2, v3, v4, d0, d1, d2, d3, d4, p0, p1, p2, p3, p4, rfl, rfl, rfl, h0, h1, h2, h3, h4⟩ := trodAll_five hA
  obtain ⟨rfl, rfl⟩ := trodVars_none hV
  have k0 := h0
  have k1 := h1
  have k2 := h2
  have k3 := h3
  have k4 := h4
  have lt0 : ∀ x ∈ p0, x.block < W.heap.size := by obtain ⟨m, hm⟩ := k0; exact DataW.trod_lt m _ _ _ hm
  have lt1 : ∀ x ∈ p1, x.block < W.heap.size := by obtain ⟨m, hm⟩ := k1; exact DataW.trod_lt m _ _ _ hm
  have lt2 : ∀ x ∈ p2, x.block < W.heap.size := by obtain ⟨m, hm⟩ := k2; exact DataW.trod_lt m _ _ _ hm
  have lt3 : ∀ x ∈ p3, x.block < W.heap.size := by obtain ⟨m, hm⟩ := k3; exact DataW.trod_lt m _ _ _ hm
  have lt4 : ∀ x ∈ p4, x.block < W.heap.size := by obtain ⟨m, hm⟩ := k4; exact DataW.trod_lt m _ _ _ hm
  obtain ⟨n0, h0⟩ := h0
  obtain ⟨x0, hx0⟩ := open_fun n0 n0 (Nat.le_refl _) _ _ h0
  obtain ⟨x1, rfl, _, _, hw1⟩ := open_int Tryz.underlying3 (hval0 1 3 v1 rfl rfl) h1
  obtain ⟨n2, h2⟩ := h2
  obtain ⟨x2, hx2⟩ := open_val n2 n2 (Nat.le_refl _) _ _ h2
  obtain ⟨a3, len3, cap3, rfl⟩ := Go.WideShapes.okWide_slice Tryz.underlying26 (hval0 3 26 v3 rfl rfl)
  obtain ⟨n3, h3⟩ := h3
  obtain ⟨x3, w3, e3, hx3, hl3⟩ := open_ksL h3
  obtain rfl : Value.slice a3 len3 cap3 = w3 := by simpa [Value.cells] using e3
  obtain ⟨a4, len4, cap4, rfl⟩ := Go.WideShapes.okWide_slice Tryz.underlying26 (hval0 4 26 v4 rfl rfl)
  obtain ⟨n4, h4⟩ := h4
  obtain ⟨x4, w4, e4, hx4, hl4⟩ := open_ksL h4
  obtain rfl : Value.slice a4 len4 cap4 = w4 := by simpa [Value.cells] using e4
  have hs := sr0 (P := Tryz.prog) (gl_of_laid (laid := Rows.valueLawsRow.laid) (by kernel_rfl) (by simp [Rows.valueLawsRow]) (by simp [Rows.valueLawsRow]) hL) (tb_of_laid (laid := Rows.valueLawsRow.laid) (by kernel_rfl) (by simp [Rows.valueLawsRow]) hL)
  have hcall := (sound ok0 7 [.agg x0.cells, .int .i64 x1, .agg x2.cells, .isl false x3.length (ints x3), .isl false x4.length (ints x4)] ⟨[], []⟩ _ (ev_ValueLaws x0 x1 x2 x3 x4 hl3 hl4 ⟨[], []⟩)).2 W (g0 W) W [v0, .int .i64 x1, v2, .slice a3 len3 cap3, .slice a4 len4 cap4] (by rw [C0_P, C0_gl]; exact hs) ?_
  · rw [C0_P] at hcall
    refine Calls.mono hcall fun e W' hR => ?_
    obtain ⟨g', hs', _, hres⟩ := hR
    cases e with
    | panicked ch => exact hres.elim
    | outgrown => exact hres.elim
    | returned v =>
      have hv : v = .bool true := hres
      subst hv
      have bel := hs'.below
      exact ⟨_, rfl, _, _, _, [], _, [], hW', trodAll_mk1 (shut_bool Tryz.underlying4 _), (trodAll_cons_mk (Below.trod laidOut (by kernel_rfl) (of_decide_eq_true (by kernel_rfl)) k0 bel lt0) (trodAll_cons_mk (Below.trod laidOut (by kernel_rfl) (of_decide_eq_true (by kernel_rfl)) k1 bel lt1) (trodAll_cons_mk (Below.trod laidOut (by kernel_rfl) (of_decide_eq_true (by kernel_rfl)) k2 bel lt2) (trodAll_cons_mk (Below.trod laidOut (by kernel_rfl) (of_decide_eq_true (by kernel_rfl)) k3 bel lt3) (trodAll_cons_mk (Below.trod laidOut (by kernel_rfl) (of_decide_eq_true (by kernel_rfl)) k4 bel lt4) trodAll_mk0))))), rfl, bel.frame _, fun h => by cases h⟩
  · exact .mk_cons (agg_of hx0 (by simp)) (.mk_cons VR.mkInt (.mk_cons (agg_of hx2 (by simp)) (.mk_cons hx3 (.mk_cons hx4 VRs.mk_nil))))

theorem said_valueLaws : Rows.ValueLawsSaid :=
  OpenClaim.holds_of_wide 7 Tryz.f7 rfl rfl rfl rfl rfl rfl rfl ⟨rfl, rfl, rfl, rfl, rfl⟩ rfl rfl rfl rfl rfl (by kernel_rfl) Tryz.func7 (by kernel_rfl)
    (of_decide_eq_true (by kernel_rfl)) (by unfold Func.isWrapper; first | (rw [if_pos (by decide +kernel)]; kernel_rfl) | (rw [if_neg (by decide +kernel)]; exact ⟨rfl, rfl⟩))
    (fun os started H enc _ => lifted_valueLaws os started H enc)
#print axioms said_valueLaws
end AE
end Go.Proofs.YthoomlenmgdebaaGreatDoor

/- The card of the statement ValueLaws. Printed by mkrow.py. -/
set_option linter.unusedVariables false
set_option linter.unusedSimpArgs false
namespace Go.Proofs.YthoomlenmgdebaaGreatDoor
namespace AE
open Go

theorem card_valueLaws : Rows.ValueLawsCardSaid :=
  Claim7.holds_tied_plain_at .later [] [.data, .data, .data, .data, .sentinel, .sentinel, .data, .pinned] true (true, "1e4c6b56cb2c6867a9df23e883da558814505b6edc09975099c62a8c7d5b9169") true
    said_valueLaws (fun _ h => by cases h) (by kernel_rfl) (fun _ h => by cases h) valueLaws_row_tie rfl ⟨rfl, rfl⟩ (by kernel_rfl) rfl
    (fun f fn hf hfn => by
      obtain rfl : f = 7 := Option.some.inj ((show Tryz.prog.funcNamed "ectype/ectypelaw02.ValueLaws" = some 7 by kernel_rfl).symm.trans hf) |>.symm
      obtain rfl : fn = Tryz.f7 := (Option.some.inj (Tryz.func7.symm.trans hfn)).symm
      exact ⟨by kernel_rfl, fun j t ht => by
        rw [Tryz.params7] at ht
        have h3 : t = 24 ∨ t = 3 ∨ t = 28 ∨ t = 26 := by
          rcases j with _ | _ | _ | _ | _ | j
          · exact .inl (by simpa using ht.symm)
          · exact .inr (.inl (by simpa using ht.symm))
          · exact .inr (.inr (.inl (by simpa using ht.symm)))
          · exact .inr (.inr (.inr ((by simpa using ht.symm))))
          · exact .inr (.inr (.inr ((by simpa using ht.symm))))
          · simp at ht
        rcases h3 with rfl | rfl | rfl | rfl
        · exact (show Tryz.prog.wantsStandIn 24 = false by kernel_rfl)
        · exact (show Tryz.prog.wantsStandIn 3 = false by kernel_rfl)
        · exact (show Tryz.prog.wantsStandIn 28 = false by kernel_rfl)
        · exact (show Tryz.prog.wantsStandIn 26 = false by kernel_rfl)
      ⟩)
    (by kernel_rfl)
#print axioms card_valueLaws
end AE
end Go.Proofs.YthoomlenmgdebaaGreatDoor
