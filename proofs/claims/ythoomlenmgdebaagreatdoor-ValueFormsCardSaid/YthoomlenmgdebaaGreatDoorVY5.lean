/- The reference's states of a value; evaluated. -/
import Derived.Test.YthoomlenmgdebaaGreatDoorVY3
import Derived.Test.YthoomlenmgdebaaGreatDoorVY4
set_option linter.unusedVariables false
set_option linter.unusedSimpArgs false
namespace Go.Proofs.YthoomlenmgdebaaGreatDoor
namespace AE
open Go

/-- What becomes of a number in a list: it is there, it is laid before another, it comes last. -/
def fate (n : Int) : List Int → Nat
  | [] => 2
  | x :: r => if x = n then 0 else if n < x then 1 else fate n r
theorem fate_drop {n : Int} {l : List Int} {i : Nat} (h : i < l.length) : fate n (l.drop i) = if l[i] = n then 0 else if n < l[i] then 1 else fate n (l.drop (i + 1)) := by rw [List.drop_eq_getElem_cons h, fate]
theorem insI_drop {n : Int} {l : List Int} {i : Nat} (h : i < l.length) : insI n (l.drop i) = if l[i] = n then l.drop i else if n < l[i] then n :: l.drop i else l[i] :: insI n (l.drop (i + 1)) := by rw [List.drop_eq_getElem_cons h, insI]
theorem insI_ne (n : Int) (l : List Int) : insI n l ≠ [] := by
  cases l with
  | nil => rw [insI]; simp
  | cons x r => rw [insI]; split <;> (try split) <;> simp
theorem insI_len (n : Int) : ∀ l : List Int, (insI n l).length ≤ l.length + 1
  | [] => by rw [insI]; simp
  | x :: r => by
    rw [insI]
    have := insI_len n r
    split <;> (try split) <;> simp <;> omega
def insR (R : List Row) (id : Nat) (l : List Int) (n : Int) : List Row × Nat := if fate n l = 0 then (R, id) else if fate n l = 1 ∨ l.length = 0 then (R ++ [⟨3, ints (insI n l)⟩], R.length) else (R.set id ⟨3, ints (insI n l)⟩, id)
def OkL (R : List Row) (id : Nat) (l : List Int) : Prop := ¬ l.length = 0 → R[id]? = some ⟨3, ints l⟩
theorem insR_ok {R : List Row} {id : Nat} {l : List Int} (n : Int) (h : OkL R id l) : OkL (insR R id l n).1 (insR R id l n).2 (insI n l) := by
  intro h0
  unfold insR
  split
  · rename_i hf
    have : insI n l = l := by
      clear h h0
      induction l with
      | nil => cases hf
      | cons x r ih =>
        rw [fate] at hf
        rw [insI]
        split
        · rfl
        · rename_i h1
          rw [if_neg h1] at hf
          split at hf
          · cases hf
          · rename_i h2
            rw [if_neg h2, ih hf]
    rw [this] at h0 ⊢
    exact h h0
  · split
    · simp
    · rename_i hf
      have hid : id < R.length := (List.getElem?_eq_some_iff.1 (h (fun e => hf (.inr e)))).1
      simp [hid]
theorem insR_rows (nb : Nat) (R : List Row) (id : Nat) (l : List Int) (n : Int) : RowsOk nb R (insR R id l n).1 ∧ R.length ≤ (insR R id l n).1.length := by
  unfold insR
  split
  · exact ⟨RowsOk.refl _ _, Nat.le_refl _⟩
  · split
    · exact ⟨RowsOk.more (by simp), by simp⟩
    · refine ⟨fun i hi => ?_, by simp⟩
      by_cases h : id = i
      · subst h
        exact .inr ⟨⟨3, ints (insI n l)⟩, by simp at hi; simp [hi], by simp⟩
      · exact .inl (by simp [h])
theorem lsA_closed2 {R : List Row} {id : Nat} {l : List Int} (h : OkL R id l) (nb : Nat) : closed nb R.length (lsA id l) = true := by
  unfold lsA
  split
  · simp
  · rename_i h0
    have := (List.getElem?_eq_some_iff.1 (h h0)).1
    simp
    exact this
set_option maxHeartbeats 4000000 in
theorem ev_Insert (n : Int) (bx : List (List A)) (R : List Row) (id : Nat) (l : List Int) (hl : l.length ≤ 1000000000) (hR : OkL R id l) : evCall C0 51 [lsA id l, .int .i64 n] ⟨bx, R⟩ = some (.ret (lsA (insR R id l n).2 (insI n l)), ⟨bx, (insR R id l n).1⟩) := by
  rw [evCall_body C0 (C0_ext _ (by decide)) (by rw [C0_P]; exact Tryz.func51) rfl (by rw [C0_ann]; rfl) (by decide) (by simp [Tryz.f51])]
  have hk := leave_keep0 Tryz.prog ⟨bx, R⟩ [] (insR R id l n).1 (.ret (lsA (insR R id l n).2 (insI n l))) (insR_rows _ R id l n).1 (lsA_closed2 (insR_ok n hR) _)
  simp only [List.append_nil] at hk
  by_cases h0 : l.length = 0
  · have hl0 : l = [] := List.eq_nil_of_length_eq_zero h0
    subst hl0
    simp [insR, fate, insI, lsA, ints_cons] at hk
    simp [Tryz.f51, evOps_cons, wantA_some, argsTm, ann_keep_51, ann_recov_51, ann_reg_51, reg51, ann_loop_51, loop51, headId, endRound_L, endRound_S, ann_draw_51, draw51, ann_dok_51, dok51, evDraw_cons, drawEnd, chkNeed, kindS, isEff, lsA]
    rw [evCode_loop]
    simp [round, Tryz.f51, evOps_cons, wantA_some, argsTm, ann_keep_51, ann_recov_51, ann_reg_51, reg51, ann_loop_51, loop51, headId, endRound_L, endRound_S, ann_draw_51, draw51, ann_dok_51, dok51, evDraw_cons, drawEnd, chkNeed, kindS, isEff, insR, fate, insI, ints_cons, hk]
  · have hne : ¬ l = [] := fun h => h0 (by rw [h]; rfl)
    have hRa := hR h0
    have hid : id < R.length := (List.getElem?_eq_some_iff.1 hRa).1
    have hR2 := (List.getElem?_eq_some_iff.1 hRa).2
    have e1 : lsA id l = .sl id l.length 0 l.length := by unfold lsA; rw [if_neg h0]
    have hin : ¬ insI n l = [] := insI_ne n l
    rw [e1]
    simp [Tryz.f51, evOps_cons, wantA_some, argsTm, ann_keep_51, ann_recov_51, ann_reg_51, reg51, ann_loop_51, loop51, headId, endRound_L, endRound_S, ann_draw_51, draw51, ann_dok_51, dok51, evDraw_cons, drawEnd, chkNeed, kindS, isEff]
    refine loop_in (fun i : Nat => ⟨[(0, .sl id l.length 0 l.length), (1, .int .i64 n), (7, .sl id l.length 0 l.length), (8, .int .i64 l.length), (9, .int .i64 i)], ⟨bx, R⟩⟩)
      (fun i => some (.ret (lsA (insR R id l n).2 (insI n l)), ⟨bx, (insR R id l n).1⟩)) (fun i => l.length - i) (fun i => i ≤ l.length ∧ fate n l = fate n (l.drop i) ∧ insI n l = l.take i ++ insI n (l.drop i)) 0 ?_ ?_ ?_ ?_ ?_
    · simp
    · simp
    · simp
    · intro x; simp [Tryz.f51, evOps_cons, wantA_some, argsTm, ann_keep_51, ann_recov_51, ann_reg_51, reg51, ann_loop_51, loop51, headId, endRound_L, endRound_S, ann_draw_51, draw51, ann_dok_51, dok51, evDraw_cons, drawEnd, chkNeed, kindS, isEff]
    · rintro i ⟨hi, hf, hI⟩ hrec
      by_cases hlt : i < l.length
      · have w2 : IntKind.i64.wrap (i + 1) = i + 1 := wrap_id _ (by omega)
        have hat := ints_at hlt
        rw [fate_drop hlt] at hf
        rw [insI_drop hlt] at hI
        by_cases c1 : l[i] = n
        · clear hrec
          rw [if_pos c1] at hf hI
          rw [List.take_append_drop] at hI
          have hr : insR R id l n = (R, id) := by unfold insR; rw [if_pos hf]
          rw [hr, hI, e1] at hk
          rw [hr, hI, e1]
          simp at hk
          simp [round, Tryz.f51, evOps_cons, wantA_some, argsTm, ann_keep_51, ann_recov_51, ann_reg_51, reg51, ann_loop_51, loop51, headId, endRound_L, endRound_S, ann_draw_51, draw51, ann_dok_51, dok51, evDraw_cons, drawEnd, chkNeed, kindS, isEff, hlt, hid, hR2, show i + 1 ≤ l.length by omega, hat, c1, hk]
        rw [if_neg c1] at hf hI
        by_cases c2 : n < l[i]
        · clear hrec
          rw [if_pos c2] at hf hI
          have hr : insR R id l n = (R ++ [⟨3, ints (insI n l)⟩], R.length) := by unfold insR; rw [if_neg (by omega), if_pos (.inl hf)]
          have hlen : (insI n l).length = l.length + 1 := by rw [hI]; simp; omega
          have e2 : lsA R.length (insI n l) = .sl R.length (l.length + 1) 0 (l.length + 1) := by unfold lsA; rw [if_neg (by omega), hlen]
          have hc : List.take i (ints l) ++ A.int .i64 n :: List.drop i (ints l) = ints (insI n l) := by rw [hI]; simp [ints]
          rw [hr, e2] at hk
          rw [hr, e2]
          simp only at hk ⊢
          by_cases hi0 : i = 0
          · subst hi0
            have hall : List.take l.length (ints l) = ints l := List.take_of_length_le (by simp)
            simp at hc hat
            simp [round, Tryz.f51, evOps_cons, wantA_some, argsTm, ann_keep_51, ann_recov_51, ann_reg_51, reg51, ann_loop_51, loop51, headId, endRound_L, endRound_S, ann_draw_51, draw51, ann_dok_51, dok51, evDraw_cons, drawEnd, chkNeed, kindS, isEff, hlt, hid, hR2, at_lt, show 1 ≤ l.length by omega, hat, c1, c2, show ¬ (0 : Int) = l.length by omega, hne, hall, flat_mem_ints, show (1 + l.length) * 8 ≤ 70368744177664 by omega, show 1 + l.length ≤ 70368744177664 by omega, show (l.length + 1) * 8 ≤ 70368744177664 by omega, show l.length ≤ 70368744177663 by omega, hc, Nat.add_comm 1 l.length, hk]
          · have hwft : (∀ x, x ∈ List.take i (ints l) → flat x = true) = True := eq_true fun x hx => List.all_eq_true.1 (flat_ints _) x (List.mem_of_mem_take hx)
            have hwfd : (∀ x, x ∈ List.drop i (ints l) → flat x = true) = True := eq_true fun x hx => List.all_eq_true.1 (flat_ints _) x (List.mem_of_mem_drop hx)
            have hwtd : List.take (l.length - i) (List.drop i (ints l)) = List.drop i (ints l) := List.take_of_length_le (by simp)
            simp [round, Tryz.f51, evOps_cons, wantA_some, argsTm, ann_keep_51, ann_recov_51, ann_reg_51, reg51, ann_loop_51, loop51, headId, endRound_L, endRound_S, ann_draw_51, draw51, ann_dok_51, dok51, evDraw_cons, drawEnd, chkNeed, kindS, isEff, hlt, hid, hR2, at_lt, show i + 1 ≤ l.length by omega, hat, c1, c2, hi0, show ¬ (0 : Int) = i by omega, show (i : Int) ≤ l.length by omega, show i ≤ l.length by omega, show ¬ (i : Int) = l.length by omega, show ¬ i = l.length by omega, show ((l.length : Int) - i).toNat = l.length - i by omega, show min i l.length = i by omega, hwft, hwfd, hwtd, show i + (l.length - i) = l.length by omega, show i * 8 ≤ 70368744177664 by omega, show i ≤ 70368744177664 by omega, show (i + 1) * 8 ≤ 70368744177664 by omega, show i + 1 ≤ 70368744177664 by omega, show (i + 1 + (l.length - i)) * 8 ≤ 70368744177664 by omega, show i + 1 + (l.length - i) ≤ 70368744177664 by omega, show (l.length + 1) * 8 ≤ 70368744177664 by omega, show l.length ≤ 70368744177663 by omega, hc, show i + 1 + (l.length - i) = l.length + 1 by omega, hk]
        · rw [if_neg c2] at hf hI
          simp [round, Tryz.f51, evOps_cons, wantA_some, argsTm, ann_keep_51, ann_recov_51, ann_reg_51, reg51, ann_loop_51, loop51, headId, endRound_L, endRound_S, ann_draw_51, draw51, ann_dok_51, dok51, evDraw_cons, drawEnd, chkNeed, kindS, isEff, hlt, w2, hid, hR2, show i + 1 ≤ l.length by omega, hat, c1, c2, endRound_M0]
          refine hrec (i + 1) _ _ ?_ ?_ ?_ ?_
          · omega
          · refine ⟨by omega, hf, ?_⟩
            rw [hI, List.take_succ_eq_append_getElem hlt, List.append_assoc]
            rfl
          · simp
          · simp
      · clear hrec
        have hie : i = l.length := by omega
        subst hie
        rw [List.drop_eq_nil_of_le (Nat.le_refl _), fate] at hf
        rw [List.drop_eq_nil_of_le (Nat.le_refl _), insI, List.take_of_length_le (Nat.le_refl _)] at hI
        have hr : insR R id l n = (R.set id ⟨3, ints (insI n l)⟩, id) := by unfold insR; rw [if_neg (by omega), if_neg (by rw [hf]; omega)]
        have hlen : (insI n l).length = l.length + 1 := by rw [hI]; simp
        have e2 : lsA id (insI n l) = .sl id (l.length + 1) 0 (l.length + 1) := by unfold lsA; rw [if_neg (by omega), hlen]
        have hc : ints l ++ [A.int .i64 n] = ints (insI n l) := by rw [hI]; simp [ints]
        rw [hr, e2] at hk
        rw [hr, e2]
        simp only at hk ⊢
        simp [round, Tryz.f51, evOps_cons, wantA_some, argsTm, ann_keep_51, ann_recov_51, ann_reg_51, reg51, ann_loop_51, loop51, headId, endRound_L, endRound_S, ann_draw_51, draw51, ann_dok_51, dok51, evDraw_cons, drawEnd, chkNeed, kindS, isEff, hid, hR2, show (l.length + 1) * 8 ≤ 70368744177664 by omega, show l.length + 1 ≤ 70368744177664 by omega, show l.length ≤ 70368744177663 by omega, hc, hk]
/-! ### All states -/
structure StS where
  R : List Row
  id : Nat
  l : List Int
def stIns (n : Int) (s : StS) : StS := ⟨(insR s.R s.id s.l n).1, (insR s.R s.id s.l n).2, insI n s.l⟩
mutual
def stV : Val → Fun → StS → StS
  | .mk k l w, f, s => if f.kind = 0 then stIns k s else stL l (argF f k) 0 s
def stL : List Val → (Nat → Fun) → Nat → StS → StS
  | [], _, _, s => s
  | v :: r, g, i, s => stL r g (i + 1) (stV v (g i) s)
end
theorem stV_eq (v : Val) (f : Fun) (s : StS) : stV v f s = if f.kind = 0 then stIns v.num s else stL v.args (argF f v.num) 0 s := by cases v; rw [stV]; rfl
theorem stL_drop {l : List Val} {i : Nat} (h : i < l.length) (g : Nat → Fun) (s : StS) : stL (l.drop i) g i s = stL (l.drop (i + 1)) g (i + 1) (stV l[i] (g i) s) := by rw [List.drop_eq_getElem_cons h, stL]
mutual
theorem stV_l : ∀ (v : Val) (f : Fun) (s : StS), (stV v f s).l = statesV v f s.l ∧ (OkL s.R s.id s.l → OkL (stV v f s).R (stV v f s).id (stV v f s).l) ∧ (stV v f s).l.length ≤ s.l.length + v.nodes
  | .mk k l w, f, s => by
    rw [stV, statesV, Val.nodes_eq]
    split
    · exact ⟨rfl, fun h => insR_ok k h, by have := insI_len k s.l; simp [stIns]; omega⟩
    · have := stL_l l (argF f k) 0 s
      exact ⟨this.1, this.2.1, by simp; omega⟩
theorem stL_l : ∀ (l : List Val) (g : Nat → Fun) (i : Nat) (s : StS), (stL l g i s).l = statesL l g i s.l ∧ (OkL s.R s.id s.l → OkL (stL l g i s).R (stL l g i s).id (stL l g i s).l) ∧ (stL l g i s).l.length ≤ s.l.length + Val.nodesL l
  | [], g, i, s => by rw [stL, statesL, Val.nodesL]; exact ⟨rfl, id, by omega⟩
  | v :: r, g, i, s => by
    rw [stL, statesL, Val.nodesL]
    have h1 := stV_l v (g i) s
    have h2 := stL_l r g (i + 1) (stV v (g i) s)
    exact ⟨by rw [h2.1, h1.1], fun h => h2.2.1 (h1.2.1 h), by omega⟩
end
theorem RowsOk.closed0 {R R' : List Row} (h : RowsOk 0 R R') : True := trivial
/-- Rows that are kept, or closed without boxes. -/
def Grow (R R' : List Row) : Prop := R.length ≤ R'.length ∧ ∀ i, i < R'.length → R'[i]? = R[i]? ∨ ∃ r, R'[i]? = some r ∧ r.cs.all (closed 0 0) = true
theorem Grow.refl (R : List Row) : Grow R R := ⟨Nat.le_refl _, fun _ _ => .inl rfl⟩
theorem Grow.trans {a b c : List Row} (h : Grow a b) (k : Grow b c) : Grow a c := by
  refine ⟨Nat.le_trans h.1 k.1, fun i hi => ?_⟩
  rcases k.2 i hi with h1 | h1
  · by_cases hb : i < b.length
    · rcases h.2 i hb with h2 | ⟨r, h2, h3⟩
      · exact .inl (h1.trans h2)
      · exact .inr ⟨r, h1.trans h2, h3⟩
    · rw [List.getElem?_eq_none (show b.length ≤ i by omega)] at h1
      rw [List.getElem?_eq_getElem hi] at h1
      cases h1
  · exact .inr h1
theorem Grow.rows {R R' : List Row} (h : Grow R R') (nb : Nat) : RowsOk nb R R' := fun i hi => by
  rcases h.2 i hi with h1 | ⟨r, h1, h2⟩
  · exact .inl h1
  · exact .inr ⟨r, h1, closed_up h2⟩
theorem insR_grow (R : List Row) (id : Nat) (l : List Int) (n : Int) : Grow R (insR R id l n).1 := by
  unfold insR
  split
  · exact Grow.refl _
  · split
    · refine ⟨by simp, fun i hi => ?_⟩
      by_cases h : i < R.length
      · exact .inl (List.getElem?_append_left h)
      · simp at hi
        have : i = R.length := by omega
        subst this
        exact .inr ⟨⟨3, ints (insI n l)⟩, by simp, by simp⟩
    · refine ⟨by simp, fun i hi => ?_⟩
      by_cases h : id = i
      · subst h
        exact .inr ⟨⟨3, ints (insI n l)⟩, by simp at hi; simp [hi], by simp⟩
      · exact .inl (by simp [h])
mutual
theorem stV_grow : ∀ (v : Val) (f : Fun) (s : StS), Grow s.R (stV v f s).R
  | .mk k l w, f, s => by
    rw [stV]
    split
    · exact insR_grow _ _ _ _
    · exact stL_grow l _ 0 s
theorem stL_grow : ∀ (l : List Val) (g : Nat → Fun) (i : Nat) (s : StS), Grow s.R (stL l g i s).R
  | [], g, i, s => by rw [stL]; exact Grow.refl _
  | v :: r, g, i, s => by rw [stL]; exact (stV_grow v (g i) s).trans (stL_grow r g (i + 1) _)
end
theorem endRound_K {l : List Nat} {M L' : List (List A)} {L : List (List A)} {R1 R2 : List Row} {tm : List (Nat × A)} (hR : Grow R1 R2) (hL : L.length ≤ L'.length) (hl : l.all (fun t => closed (M.length + L.length) R2.length (lk t tm)) = true) (hc : (L'.take L.length).all (fun cs => cs.all (closed (M.length + L.length) R2.length)) = true) :
    endRound (some l) ⟨M ++ L, R1⟩ ⟨tm, ⟨M ++ L', R2⟩⟩ = some ⟨prune (some l) tm, ⟨M ++ L'.take L.length, R2⟩⟩ := by
  refine endRound_eq (B := M ++ L'.take L.length) (J := L'.drop L.length) (by simp) (by simp; omega) (by simpa using List.all_eq_true.1 hl) (fun i hi => ?_) (fun i hi => by simpa using hR.rows (M.length + L.length) i hi)
  simp only [List.length_append] at hi ⊢
  by_cases h : i < M.length
  · exact .inl (by rw [List.getElem?_append_left h, List.getElem?_append_left h])
  · right
    have := all_take (B := M) hc (by simpa using h) (by simpa using hi) hL
    simpa using this
set_option maxHeartbeats 4000000 in
theorem ev_RStates (ex : Fun → List Val → List Int → Bool) (n : Int) (N : Nat) : ∀ (v : Val), v.nodes ≤ N → v.nodes ≤ 1000000 → ∀ (f : Fun), shapedF f = true → okV ex n v f = true → ∀ (bx : List (List A)) (s : StS), s.l.length + v.nodes ≤ 1000000000 → OkL s.R s.id s.l →
    evCall C0 20 [.agg f.cells, .agg v.cells, lsA s.id s.l] ⟨bx, s.R⟩ = some (.ret (lsA (stV v f s).id (stV v f s).l), ⟨bx, (stV v f s).R⟩) := by
  induction N with
  | zero => intro v hN; have := v.nodes_pos; omega
  | succ N ih =>
  intro v hN hb f hf hok bx s hsl hs
  have hlen := v.length_args
  have hst := stV_l v f s
  have hgr := stV_grow v f s
  rw [okV_eq, Bool.and_eq_true, Bool.and_eq_true] at hok
  obtain ⟨⟨hh, _⟩, hokl⟩ := hok
  have hpb : partsB f v = true := by
    rw [head_split hf, Bool.and_eq_true, Bool.and_eq_true] at hh
    exact hh.1.1
  have hp := ev_Parts f v hf (by omega)
  obtain ⟨hPl, hPa⟩ := parts_at hf hpb
  simp [hpb] at hp
  generalize partsL f v = P at hp hPl hPa
  have hlv : ∀ b, leave Tryz.prog true ⟨bx, s.R⟩ (.ret (lsA (stV v f s).id (stV v f s).l)) ⟨bx ++ b, (stV v f s).R⟩ = some (.ret (lsA (stV v f s).id (stV v f s).l), ⟨bx, (stV v f s).R⟩) := fun b =>
    leave_keep0 _ ⟨bx, s.R⟩ _ _ _ (hgr.rows _) (lsA_closed2 (hst.2.1 hs) _)
  rw [evCall_body C0 (C0_ext _ (by decide)) (by rw [C0_P]; exact Tryz.func20) rfl (by rw [C0_ann]; rfl) (by decide) (by simp [Tryz.f20])]
  by_cases hk0 : f.kind = 0
  · have he := ev_Insert v.num (bx ++ [f.cells, v.cells]) s.R s.id s.l (by omega) hs
    have e : stV v f s = stIns v.num s := by rw [stV_eq, if_pos hk0]
    rw [e] at hlv ⊢
    unfold stIns at hlv ⊢
    simp [hk0] at he
    simp [Tryz.f20, evOps_cons, wantA_some, argsTm, ann_keep_20, ann_recov_20, ann_reg_20, reg20, ann_loop_20, loop20, headId, endRound_L, endRound_S, ann_draw_20, draw20, ann_dok_20, dok20, evDraw_cons, drawEnd, chkNeed, kindS, isEff, hk0, he, hlv]
  · have e : stV v f s = stL v.args (argF f v.num) 0 s := by rw [stV_eq, if_neg hk0]
    rw [e] at hlv ⊢
    simp [Tryz.f20, evOps_cons, wantA_some, argsTm, ann_keep_20, ann_recov_20, ann_reg_20, reg20, ann_loop_20, loop20, headId, endRound_L, endRound_S, ann_draw_20, draw20, ann_dok_20, dok20, evDraw_cons, drawEnd, chkNeed, kindS, isEff, hk0, hp]
    refine loop_in (fun x : Nat × StS => ⟨[(2, lsA x.2.id x.2.l), (7, .isl false P.length (Fun.cellsL P)), (25, .isl false v.args.length (Val.cellsL v.args)), (26, .int .i64 v.args.length), (27, .int .i64 x.1)], ⟨bx ++ [f.cells, v.cells], x.2.R⟩⟩)
      (fun x => some (.ret (lsA (stL v.args (argF f v.num) 0 s).id (stL v.args (argF f v.num) 0 s).l), ⟨bx, (stL v.args (argF f v.num) 0 s).R⟩)) (fun x => v.args.length - x.1)
      (fun x => x.1 ≤ v.args.length ∧ stL v.args (argF f v.num) 0 s = stL (v.args.drop x.1) (argF f v.num) x.1 x.2 ∧ x.2.l.length + Val.nodesL (v.args.drop x.1) ≤ 1000000000 ∧ OkL x.2.R x.2.id x.2.l) (0, s) ?_ ?_ ?_ ?_ ?_
    · simp
    · simp
    · have := Val.nodes_eq v
      exact ⟨by simp, by simp, by simp; omega, hs⟩
    · intro x; simp [Tryz.f20, evOps_cons, wantA_some, argsTm, ann_keep_20, ann_recov_20, ann_reg_20, reg20, ann_loop_20, loop20, headId, endRound_L, endRound_S, ann_draw_20, draw20, ann_dok_20, dok20, evDraw_cons, drawEnd, chkNeed, kindS, isEff]
    · rintro ⟨i, y⟩ ⟨hi, hy, hyl, hyo⟩ hrec
      simp only at hi hy hyl hyo ⊢
      by_cases hlt : i < v.args.length
      · have w2 : IntKind.i64.wrap (i + 1) = i + 1 := wrap_id _ (by omega)
        have h3 : (i + 1) * 3 ≤ v.args.length * 3 := by omega
        have hiP : i < P.length := by omega
        have hgi := hPa i hiP
        have hk1 : ¬ f.kind = 1 := fun h => by have := (head_num hh).2.2 (.inr h); omega
        have hgs := argF_shaped hf hk0 hk1 hh i hlt
        have o0 := okL_mem hokl i hlt
        rw [Nat.zero_add] at hgs o0
        have hm := Val.nodes_arg (List.getElem_mem hlt)
        rw [Val.nodesL_drop hlt] at hyl
        rw [stL_drop hlt] at hy
        have he := ih v.args[i] (by omega) (by omega) (argF f v.num i) hgs o0 (bx ++ [f.cells, v.cells, v.args[i].cells]) y (by omega) hyo
        have hz := stV_l v.args[i] (argF f v.num i) y
        have hg := stV_grow v.args[i] (argF f v.num i) y
        generalize stV v.args[i] (argF f v.num i) y = z at he hy hz hg
        have hzo := hz.2.1 hyo
        have hzc := lsA_closed2 hzo
        simp at he
        simp [round, Tryz.f20, evOps_cons, wantA_some, argsTm, ann_keep_20, ann_recov_20, ann_reg_20, reg20, ann_loop_20, loop20, headId, endRound_L, endRound_S, ann_draw_20, draw20, ann_dok_20, dok20, evDraw_cons, drawEnd, chkNeed, kindS, isEff, hlt, w2, h3, hiP, show (i + 1) * 3 ≤ P.length * 3 by omega, hgi, he, endRound_K, hg, hzc]
        refine hrec (i + 1, z) _ _ ?_ ?_ ?_ ?_
        · simp; omega
        · exact ⟨by simp only; omega, hy, by simp only; omega, hzo⟩
        · simp
        · simp
      · clear hrec
        rw [List.drop_eq_nil_of_le (by omega), stL] at hy
        rw [hy] at hlv ⊢
        have hlv' := hlv [f.cells, v.cells]
        simp at hlv'
        simp [round, Tryz.f20, evOps_cons, wantA_some, argsTm, ann_keep_20, ann_recov_20, ann_reg_20, reg20, ann_loop_20, loop20, headId, endRound_L, endRound_S, ann_draw_20, draw20, ann_dok_20, dok20, evDraw_cons, drawEnd, chkNeed, kindS, isEff, hlt, hlv']
end AE
end Go.Proofs.YthoomlenmgdebaaGreatDoor

/- The statement about the forms of values; evaluated. -/
set_option linter.unusedVariables false
set_option linter.unusedSimpArgs false
namespace Go.Proofs.YthoomlenmgdebaaGreatDoor
namespace AE
open Go

theorem ev_SameIntsN (f1 : Bool) (a : List Int) (m : Mem) : evCall C0 22 [.isl f1 a.length (ints a), .nils] m = some (.ret (.bool (decide (a = []))), m) := by
  rw [evCall_body C0 (C0_ext _ (by decide)) (by rw [C0_P]; exact Tryz.func22) rfl (by rw [C0_ann]; rfl) (by decide) (by simp [Tryz.f22])]
  by_cases h : a = []
  · subst h
    simp [Tryz.f22, evOps_cons, wantA_some, argsTm, ann_keep_22, ann_recov_22, ann_reg_22, reg22, ann_loop_22, loop22, headId, endRound_L, endRound_S, ann_draw_22, draw22, ann_dok_22, dok22, evDraw_cons, drawEnd, chkNeed, kindS, isEff]
    rw [evCode_loop]
    simp [round, Tryz.f22, evOps_cons, wantA_some, argsTm, ann_keep_22, ann_recov_22, ann_reg_22, reg22, ann_loop_22, loop22, headId, endRound_L, endRound_S, ann_draw_22, draw22, ann_dok_22, dok22, evDraw_cons, drawEnd, chkNeed, kindS, isEff]
  · have h0 : ¬ (a.length : Int) = 0 := fun e => h (List.eq_nil_of_length_eq_zero (by omega))
    simp [Tryz.f22, evOps_cons, wantA_some, argsTm, ann_keep_22, ann_recov_22, ann_reg_22, reg22, ann_loop_22, loop22, headId, endRound_L, endRound_S, ann_draw_22, draw22, ann_dok_22, dok22, evDraw_cons, drawEnd, chkNeed, kindS, isEff, h, h0]
set_option maxHeartbeats 1000000 in
theorem ev_SameIntsR (f1 : Bool) (a b : List Int) (id : Nat) (ha : a.length ≤ 1000000000) (m : Mem) (hR : m.rw[id]? = some ⟨3, ints b⟩) : evCall C0 22 [.isl f1 a.length (ints a), .sl id b.length 0 b.length] m = some (.ret (.bool (decide (a = b))), m) := by
  have hid : id < m.rw.length := (List.getElem?_eq_some_iff.1 hR).1
  have hR2 := (List.getElem?_eq_some_iff.1 hR).2
  rw [evCall_body C0 (C0_ext _ (by decide)) (by rw [C0_P]; exact Tryz.func22) rfl (by rw [C0_ann]; rfl) (by decide) (by simp [Tryz.f22])]
  by_cases hl : a.length = b.length
  case neg =>
    have hl' : ¬ (a.length : Int) = b.length := by omega
    have hne : ¬ a = b := fun e => hl (by rw [e])
    simp [Tryz.f22, evOps_cons, wantA_some, argsTm, ann_keep_22, ann_recov_22, ann_reg_22, reg22, ann_loop_22, loop22, headId, endRound_L, endRound_S, ann_draw_22, draw22, ann_dok_22, dok22, evDraw_cons, drawEnd, chkNeed, kindS, isEff, hl', hne]
  have hl' : (a.length : Int) = b.length := by omega
  simp [Tryz.f22, evOps_cons, wantA_some, argsTm, ann_keep_22, ann_recov_22, ann_reg_22, reg22, ann_loop_22, loop22, headId, endRound_L, endRound_S, ann_draw_22, draw22, ann_dok_22, dok22, evDraw_cons, drawEnd, chkNeed, kindS, isEff, eq_true hl']
  refine loop_in (fun i : Nat => ⟨[(0, .isl f1 a.length (ints a)), (1, .sl id b.length 0 b.length), (12, .int .i64 a.length), (13, .int .i64 i)], m⟩)
    (fun i => some (.ret (.bool (decide (a.drop i = b.drop i))), m)) (fun i => a.length - i) (fun i => i ≤ a.length) 0 ?_ ?_ ?_ ?_ ?_
  · simp
  · simp
  · simp
  · intro x; simp [Tryz.f22, evOps_cons, wantA_some, argsTm, ann_keep_22, ann_recov_22, ann_reg_22, reg22, ann_loop_22, loop22, headId, endRound_L, endRound_S, ann_draw_22, draw22, ann_dok_22, dok22, evDraw_cons, drawEnd, chkNeed, kindS, isEff]
  · intro i hi hrec
    by_cases hlt : i < a.length
    · have w2 : IntKind.i64.wrap (i + 1) = i + 1 := wrap_id _ (by omega)
      have hlt' : i < b.length := by omega
      have h3 : i + 1 ≤ a.length := by omega
      have h3' : i + 1 ≤ b.length := by omega
      have hd : (a.drop i = b.drop i) ↔ (a[i] = b[i] ∧ a.drop (i + 1) = b.drop (i + 1)) := by rw [List.drop_eq_getElem_cons hlt, List.drop_eq_getElem_cons hlt', List.cons.injEq]
      by_cases hc : a[i] = b[i]
      · simp [round, Tryz.f22, evOps_cons, wantA_some, argsTm, ann_keep_22, ann_recov_22, ann_reg_22, reg22, ann_loop_22, loop22, headId, endRound_L, endRound_S, ann_draw_22, draw22, ann_dok_22, dok22, evDraw_cons, drawEnd, chkNeed, kindS, isEff, hlt, hlt', w2, h3, h3', hid, hR2, ints_at hlt, ints_at hlt', eq_true hc, endRound_M0]
        refine hrec (i + 1) _ _ ?_ ?_ ?_ ?_
        · omega
        · omega
        · simp
        · simp [hd, hc]
      · simp [round, Tryz.f22, evOps_cons, wantA_some, argsTm, ann_keep_22, ann_recov_22, ann_reg_22, reg22, ann_loop_22, loop22, headId, endRound_L, endRound_S, ann_draw_22, draw22, ann_dok_22, dok22, evDraw_cons, drawEnd, chkNeed, kindS, isEff, hlt, hlt', w2, h3, h3', hid, hR2, ints_at hlt, ints_at hlt', hc, hd]
    · clear hrec
      have h5 : a.drop i = [] := List.drop_eq_nil_of_le (by omega)
      have h6 : b.drop i = [] := List.drop_eq_nil_of_le (by omega)
      simp [round, Tryz.f22, evOps_cons, wantA_some, argsTm, ann_keep_22, ann_recov_22, ann_reg_22, reg22, ann_loop_22, loop22, headId, endRound_L, endRound_S, ann_draw_22, draw22, ann_dok_22, dok22, evDraw_cons, drawEnd, chkNeed, kindS, isEff, hlt, h5, h6]
theorem ev_vfew (f : Fun) (fl : Bool) (l : List Val) (hl : l.length ≤ 1000) (m : Mem) : evCall C0 8 [.agg f.cells, .isl fl l.length (Val.cellsL l)] m = some (.ret (.bool ((l.all fun v => fewV v 3000) && decide (0 < leftF f 101))), m) := by
  rw [evCall_body C0 (C0_ext _ (by decide)) (by rw [C0_P]; exact Tryz.func8) rfl (by rw [C0_ann]; rfl) (by decide) (by simp [Tryz.f8])]
  simp [Tryz.f8, evOps_cons, wantA_some, argsTm, ann_keep_8, ann_recov_8, ann_reg_8, reg8, ann_loop_8, loop8, headId, endRound_L, endRound_S]
  refine loop_in (fun i : Nat => ⟨[(2, .ptr m.bx.length 0), (7, .isl fl l.length (Val.cellsL l)), (8, .int .i64 l.length), (9, .int .i64 i)], ⟨m.bx ++ [f.cells], m.rw⟩⟩)
    (fun i => some (.ret (.bool (((l.drop i).all fun v => fewV v 3000) && decide (0 < leftF f 101))), m)) (fun i => l.length - i) (fun i => i ≤ l.length) 0 ?_ ?_ ?_ ?_ ?_
  · simp
  · simp
  · simp
  · intro x; simp [Tryz.f8, evOps_cons, wantA_some, argsTm, ann_keep_8, ann_recov_8, ann_reg_8, reg8, ann_loop_8, loop8, headId, endRound_L, endRound_S]
  · intro i hi hrec
    by_cases hlt : i < l.length
    · have w2 : IntKind.i64.wrap (i + 1) = i + 1 := wrap_id _ (by omega)
      have he := ev_FewV l[i] 3000
      simp at he
      have h3 : (i + 1) * 3 ≤ l.length * 3 := by omega
      rw [List.drop_eq_getElem_cons hlt, List.all_cons]
      cases hc : fewV l[i] 3000
      · simp [hc] at he
        simp [round, Tryz.f8, evOps_cons, wantA_some, argsTm, ann_keep_8, ann_recov_8, ann_reg_8, reg8, ann_loop_8, loop8, headId, endRound_L, endRound_S, hlt, w2, h3, he]
      · simp [hc] at he
        simp [round, Tryz.f8, evOps_cons, wantA_some, argsTm, ann_keep_8, ann_recov_8, ann_reg_8, reg8, ann_loop_8, loop8, headId, endRound_L, endRound_S, hlt, w2, h3, he, endRound_M]
        refine hrec (i + 1) _ _ ?_ ?_ ?_ ?_
        · omega
        · omega
        · simp
        · simp
    · clear hrec
      have he := ev_Few f 100
      simp at he
      simp [round, Tryz.f8, evOps_cons, wantA_some, argsTm, ann_keep_8, ann_recov_8, ann_reg_8, reg8, ann_loop_8, loop8, headId, endRound_L, endRound_S, hlt, he]
      rw [List.drop_eq_nil_of_le (by omega)]
      simp
set_option maxHeartbeats 1000000 in
theorem ev_vfault (f : Fun) (n : Int) (fl : Bool) (l : List Val) (hbf : f.nodes ≤ 1000000000) (hl : l.length ≤ 1000) (hv : ∀ v, v ∈ l → v.nodes ≤ 1000000 ∧ slimV v) (m : Mem) : evCall C0 11 [.agg f.cells, .int .i64 n, .isl fl l.length (Val.cellsL l)] m = some (.ret (.int .i64 (if errF f n = 0 then (if (l.all fun v => (chkV exS n v f 2000).1) then 0 else 20) else errF f n)), m) := by
  rw [evCall_body C0 (C0_ext _ (by decide)) (by rw [C0_P]; exact Tryz.func11) rfl (by rw [C0_ann]; rfl) (by decide) (by simp [Tryz.f11])]
  have he := ev_Is f hbf
  rw [show (decide (0 < leftF f 21) && decide (f.depth ≤ 8) && shapedF f) = okF f from isF_okF f] at he
  simp at he
  unfold errF
  cases hc : okF f
  · simp [hc] at he
    simp [Tryz.f11, evOps_cons, wantA_some, argsTm, ann_keep_11, ann_recov_11, ann_reg_11, reg11, ann_loop_11, loop11, headId, endRound_L, endRound_S, he]
  · simp [hc] at he
    by_cases h1 : n < 0
    · simp [Tryz.f11, evOps_cons, wantA_some, argsTm, ann_keep_11, ann_recov_11, ann_reg_11, reg11, ann_loop_11, loop11, headId, endRound_L, endRound_S, he, h1]
    by_cases h2 : 100 < n
    · simp [Tryz.f11, evOps_cons, wantA_some, argsTm, ann_keep_11, ann_recov_11, ann_reg_11, reg11, ann_loop_11, loop11, headId, endRound_L, endRound_S, he, h1, h2]
    have hz2 := errF_zero (f := f) (n := n) (by unfold errF; rw [hc, if_pos rfl, if_neg (by omega)])
    simp [Tryz.f11, evOps_cons, wantA_some, argsTm, ann_keep_11, ann_recov_11, ann_reg_11, reg11, ann_loop_11, loop11, headId, endRound_L, endRound_S, he, h1, h2]
    refine loop_in (fun i : Nat => ⟨[(1, .int .i64 n), (3, .ptr m.bx.length 0), (20, .isl fl l.length (Val.cellsL l)), (21, .int .i64 l.length), (22, .int .i64 i)], ⟨m.bx ++ [f.cells], m.rw⟩⟩)
      (fun i => some (.ret (.int .i64 (if ((l.drop i).all fun v => (chkV exS n v f 2000).1) then 0 else 20)), m)) (fun i => l.length - i) (fun i => i ≤ l.length) 0 ?_ ?_ ?_ ?_ ?_
    · simp
    · simp
    · simp
    · intro x; simp [Tryz.f11, evOps_cons, wantA_some, argsTm, ann_keep_11, ann_recov_11, ann_reg_11, reg11, ann_loop_11, loop11, headId, endRound_L, endRound_S]
    · intro i hi hrec
      by_cases hlt : i < l.length
      · have w2 : IntKind.i64.wrap (i + 1) = i + 1 := wrap_id _ (by omega)
        have hvi := hv l[i] (List.getElem_mem hlt)
        have he2 := ev_RIsV f n l[i] hz2.1 (by omega) (by omega) hvi.1 hvi.2
        simp at he2
        have h3 : (i + 1) * 3 ≤ l.length * 3 := by omega
        rw [List.drop_eq_getElem_cons hlt, List.all_cons]
        cases hc2 : (chkV exS n l[i] f 2000).1
        · simp [hc2] at he2
          simp [round, Tryz.f11, evOps_cons, wantA_some, argsTm, ann_keep_11, ann_recov_11, ann_reg_11, reg11, ann_loop_11, loop11, headId, endRound_L, endRound_S, hlt, w2, h3, he2]
        · simp [hc2] at he2
          simp [round, Tryz.f11, evOps_cons, wantA_some, argsTm, ann_keep_11, ann_recov_11, ann_reg_11, reg11, ann_loop_11, loop11, headId, endRound_L, endRound_S, hlt, w2, h3, he2, endRound_M]
          refine hrec (i + 1) _ _ ?_ ?_ ?_ ?_
          · omega
          · omega
          · simp
          · simp
      · clear hrec
        simp [round, Tryz.f11, evOps_cons, wantA_some, argsTm, ann_keep_11, ann_recov_11, ann_reg_11, reg11, ann_loop_11, loop11, headId, endRound_L, endRound_S, hlt]
        rw [List.drop_eq_nil_of_le (by omega)]
        simp
/-- The rows that were there lie ahead. -/
def Pre (R0 : List Row) (s : StS) : Prop := (∃ J, s.R = R0 ++ J) ∧ (¬ s.l.length = 0 → R0.length ≤ s.id)
theorem pre_ins {R0 : List Row} {s : StS} (n : Int) (h : Pre R0 s) : Pre R0 (stIns n s) := by
  obtain ⟨⟨J, hJ⟩, h2⟩ := h
  unfold stIns insR
  split
  · rename_i hf
    refine ⟨⟨J, hJ⟩, fun _ => h2 ?_⟩
    intro h0
    have : s.l = [] := List.eq_nil_of_length_eq_zero h0
    rw [this, fate] at hf
    cases hf
  · split
    · refine ⟨⟨J ++ [⟨3, ints (insI n s.l)⟩], by simp only; rw [hJ, List.append_assoc]⟩, fun _ => by simp only; rw [hJ]; simp⟩
    · rename_i hf
      have h3 := h2 (fun e => hf (.inr e))
      refine ⟨⟨J.set (s.id - R0.length) ⟨3, ints (insI n s.l)⟩, ?_⟩, fun _ => h3⟩
      simp only
      rw [hJ, List.set_append_right _ _ h3]
mutual
theorem stV_pre {R0 : List Row} : ∀ (v : Val) (f : Fun) (s : StS), Pre R0 s → Pre R0 (stV v f s)
  | .mk k l w, f, s, h => by
    rw [stV]
    split
    · exact pre_ins k h
    · exact stL_pre l _ 0 s h
theorem stL_pre {R0 : List Row} : ∀ (l : List Val) (g : Nat → Fun) (i : Nat) (s : StS), Pre R0 s → Pre R0 (stL l g i s)
  | [], g, i, s, h => by rw [stL]; exact h
  | v :: r, g, i, s, h => by rw [stL]; exact stL_pre r g (i + 1) _ (stV_pre v (g i) s h)
end
set_option maxHeartbeats 4000000 in
theorem ev_ValueForms (f : Fun) (n : Int) (u v : Val) (m : Mem) : evCall C0 5 [.agg f.cells, .int .i64 n, .agg u.cells, .agg v.cells] m = some (.ret (.bool true), m) := by
  rw [evCall_body C0 (C0_ext _ (by decide)) (by rw [C0_P]; exact Tryz.func5) rfl (by rw [C0_ann]; rfl) (by decide) (by simp [Tryz.f5])]
  have hfew := ev_vfew f true [u, v] (by simp)
  have haw := ev_awake
  simp [Val.cellsL] at hfew
  cases hq : ((fewV u 3000 && fewV v 3000) && decide (0 < leftF f 101))
  case false =>
    rw [Bool.and_assoc] at hq
    rw [← Bool.and_assoc] at hq
    simp only [hq] at hfew
    simp [Tryz.f5, evOps_cons, wantA_some, argsTm, ann_keep_5, ann_recov_5, ann_reg_5, reg5, ann_draw_5, draw5, ann_dok_5, dok5, evDraw_cons, drawEnd, chkNeed, kindS, isEff, hfew, haw]
  simp only [hq] at hfew
  rw [Bool.and_eq_true, Bool.and_eq_true, decide_eq_true_eq] at hq
  obtain ⟨⟨hu, hv⟩, hfl⟩ := hq
  have hun := fewV_nodes (by omega) hu
  have hvn := fewV_nodes (by omega) hv
  have hus : slimV u := light_slim (most := 3000) (by omega) u (by unfold fewV at hu; rw [Bool.and_eq_true] at hu; exact hu.2)
  have hvs : slimV v := light_slim (most := 3000) (by omega) v (by unfold fewV at hv; rw [Bool.and_eq_true] at hv; exact hv.2)
  have hfn : f.nodes ≤ 1000000000 := by rw [leftF_nodes f 101 (by omega)] at hfl; omega
  have h1 := ev_VStates f n u hfn (by omega) hus
  have h2 := ev_vfault f n true [u] hfn (by simp) (by intro x hx; rw [List.mem_singleton] at hx; subst hx; exact ⟨by omega, hus⟩)
  have h3 := ev_VCheck f n u hfn (by omega) hus
  have h4 := ev_Compare u.nodes u (Nat.le_refl _) (by omega) hus v
  have h5 := ev_RCompare u.nodes u (Nat.le_refl _) (by omega) hus v
  have he : (if errF f n = 0 then (if ([u].all fun v => (chkV exS n v f 2000).1) then (0 : Int) else 20) else errF f n) = errV f n u := by
    unfold errV
    simp
  rw [he] at h2
  simp [Val.cellsL] at h2
  simp at h3 h4 h5
  by_cases h0 : errV f n u = 0
  case neg =>
    have h6 := ev_SameIntsN false []
    simp [h0] at h1
    simp at h6
    simp [Tryz.f5, evOps_cons, wantA_some, argsTm, ann_keep_5, ann_recov_5, ann_reg_5, reg5, ann_draw_5, draw5, ann_dok_5, dok5, evDraw_cons, drawEnd, chkNeed, kindS, isEff, hfew, h1, h2, h3, h4, h5, h6, h0, haw]
  have hq : errF f n = 0 ∧ (chkV exS n u f 2000).1 = true := by
    unfold errV at h0
    by_cases hx : errF f n = 0
    · rw [if_pos hx] at h0
      refine ⟨hx, ?_⟩
      cases hc : (chkV exS n u f 2000).1
      · rw [hc] at h0; simp at h0
      · rfl
    · rw [if_neg hx] at h0; exact absurd h0 hx
  have hok := (((chkV_spec exS n u f 2000 (by omega)).1).1 hq.2).2
  have h7 := ev_RStates exS n u.nodes u (Nat.le_refl _) (by omega) f (errF_zero hq.1).1 hok (m.bx ++ [f.cells, u.cells, v.cells]) ⟨m.rw, 0, []⟩ (by simp; omega) (fun h => absurd rfl h)
  have h8 := stV_l u f ⟨m.rw, 0, []⟩
  have h9 := stV_pre (R0 := m.rw) u f ⟨m.rw, 0, []⟩ ⟨⟨[], by simp⟩, fun h => absurd rfl h⟩
  rw [statesV_eq] at h8
  simp only at h8
  rw [if_pos h0] at h1
  rw [← h8.1] at h1
  have hlen := h8.2.2
  have hO := h8.2.1 (fun h => absurd rfl h)
  clear h8
  generalize stV u f ⟨m.rw, 0, []⟩ = s at h1 h7 h9 hlen hO
  obtain ⟨R, id, l⟩ := s
  simp only at h1 h7 h9 hlen hO
  obtain ⟨⟨J, rfl⟩, _⟩ := h9
  simp [h0] at h1
  simp [lsA] at h7
  by_cases hl : l.length = 0
  · have hl0 : l = [] := List.eq_nil_of_length_eq_zero hl
    subst hl0
    have h6 := ev_SameIntsN false []
    simp at h6 h1 h7
    simp [Tryz.f5, evOps_cons, wantA_some, argsTm, ann_keep_5, ann_recov_5, ann_reg_5, reg5, ann_draw_5, draw5, ann_dok_5, dok5, evDraw_cons, drawEnd, chkNeed, kindS, isEff, hfew, h1, h2, h3, h4, h5, h6, h7, h0, haw]
  · have hl0 : ¬ l = [] := fun h => hl (by rw [h]; rfl)
    have h6 := ev_SameIntsR false l l id (by simp at hlen; omega) ⟨m.bx ++ [f.cells, u.cells, v.cells], m.rw ++ J⟩ (hO hl)
    simp [hl0] at h6 h7
    simp [Tryz.f5, evOps_cons, wantA_some, argsTm, ann_keep_5, ann_recov_5, ann_reg_5, reg5, ann_draw_5, draw5, ann_dok_5, dok5, evDraw_cons, drawEnd, chkNeed, kindS, isEff, hfew, h1, h2, h3, h4, h5, h6, h7, h0, haw]
end AE
end Go.Proofs.YthoomlenmgdebaaGreatDoor
