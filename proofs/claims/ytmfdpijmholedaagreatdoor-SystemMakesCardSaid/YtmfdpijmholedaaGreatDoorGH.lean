/- The reference's states of a value; evaluated. -/
import Derived.Test.YtmfdpijmholedaaGreatDoorGG
import Derived.Test.YtmfdpijmholedaaGreatDoorGF
set_option linter.unusedVariables false
set_option linter.unusedSimpArgs false
namespace Go.Proofs.YtmfdpijmholedaaGreatDoor
namespace AE
open Go
def fate (n : Int) : List Int → Nat
  | [] => 2
  | x :: r => if x = n then 0 else if n < x then 1 else fate n r
theorem fate_drop {n : Int} {l : List Int} {i : Nat} (h : i < l.length) : fate n (l.drop i) = if l[i] = n then 0 else if n < l[i] then 1 else fate n (l.drop (i + 1)) := by rw [List.drop_eq_getElem_cons h, fate]
theorem insI_drop {n : Int} {l : List Int} {i : Nat} (h : i < l.length) : insI n (l.drop i) = if l[i] = n then l.drop i else if n < l[i] then n :: l.drop i else l[i] :: insI n (l.drop (i + 1)) := by rw [List.drop_eq_getElem_cons h, insI]
theorem insI_ne (n : Int) (l : List Int) : insI n l ≠ [] := by
  cases l with
  | nil => rw [insI]; simp
  | cons x r => rw [insI]; split <;> (try split) <;> simp
theorem insI_len (n : Int) : ∀ l : List Int, (insI n l).length ≤ l.length + 1
  | [] => by rw [insI]; simp
  | x :: r => by
    rw [insI]
    have := insI_len n r
    split <;> (try split) <;> simp <;> omega
def insR (R : List Row) (id : Nat) (l : List Int) (n : Int) : List Row × Nat := if fate n l = 0 then (R, id) else if fate n l = 1 ∨ l.length = 0 then (R ++ [⟨3, ints (insI n l)⟩], R.length) else (R.set id ⟨3, ints (insI n l)⟩, id)
def OkL (R : List Row) (id : Nat) (l : List Int) : Prop := ¬ l.length = 0 → R[id]? = some ⟨3, ints l⟩
theorem insR_ok {R : List Row} {id : Nat} {l : List Int} (n : Int) (h : OkL R id l) : OkL (insR R id l n).1 (insR R id l n).2 (insI n l) := by
  intro h0
  unfold insR
  split
  · rename_i hf
    have : insI n l = l := by
      clear h h0
      induction l with
      | nil => cases hf
      | cons x r ih =>
        rw [fate] at hf
        rw [insI]
        split
        · rfl
        · rename_i h1
          rw [if_neg h1] at hf
          split at hf
          · cases hf
          · rename_i h2
            rw [if_neg h2, ih hf]
    rw [this] at h0 ⊢
    exact h h0
  · split
    · simp
    · rename_i hf
      have hid : id < R.length := (List.getElem?_eq_some_iff.1 (h (fun e => hf (.inr e)))).1
      simp [hid]
theorem insR_rows (nb : Nat) (R : List Row) (id : Nat) (l : List Int) (n : Int) : RowsOk nb R (insR R id l n).1 ∧ R.length ≤ (insR R id l n).1.length := by
  unfold insR
  split
  · exact ⟨RowsOk.refl _ _, Nat.le_refl _⟩
  · split
    · exact ⟨RowsOk.more (by simp), by simp⟩
    · refine ⟨fun i hi => ?_, by simp⟩
      by_cases h : id = i
      · subst h
        exact .inr ⟨⟨3, ints (insI n l)⟩, by simp at hi; simp [hi], by simp⟩
      · exact .inl (by simp [h])
theorem lsA_closed2 {R : List Row} {id : Nat} {l : List Int} (h : OkL R id l) (nb : Nat) : closed nb R.length (lsA id l) = true := by
  unfold lsA
  split
  · simp
  · rename_i h0
    have := (List.getElem?_eq_some_iff.1 (h h0)).1
    simp
    exact this
set_option maxHeartbeats 4000000 in
theorem ev_Insert (n : Int) (bx : List (List A)) (R : List Row) (id : Nat) (l : List Int) (hl : l.length ≤ 1000000000) (hR : OkL R id l) : evCall C0 121 [lsA id l, .int .i64 n] ⟨bx, R⟩ = some (.ret (lsA (insR R id l n).2 (insI n l)), ⟨bx, (insR R id l n).1⟩) := by
  rw [evCall_body C0 (C0_ext _ (by decide)) (by rw [C0_P]; exact Tryz.func121) rfl (by rw [C0_ann]; rfl) (by rw [C0_ann]; rfl) (by decide) (by simp [Tryz.f121])]
  have hk := leave_keep0 Tryz.prog ⟨bx, R⟩ [] (insR R id l n).1 (.ret (lsA (insR R id l n).2 (insI n l))) (insR_rows _ R id l n).1 (lsA_closed2 (insR_ok n hR) _)
  simp only [List.append_nil] at hk
  by_cases h0 : l.length = 0
  · have hl0 : l = [] := List.eq_nil_of_length_eq_zero h0
    subst hl0
    simp [insR, fate, insI, lsA, ints_cons] at hk
    simp [Tryz.f121, a121, reg121, loop121, draw121, dok121, lsA]
    rw [evCode_loop]
    simp [round, Tryz.f121, a121, reg121, loop121, draw121, dok121, insR, fate, insI, ints_cons, hk]
  · have hne : ¬ l = [] := fun h => h0 (by rw [h]; rfl)
    have hRa := hR h0
    have hid : id < R.length := (List.getElem?_eq_some_iff.1 hRa).1
    have hR2 := (List.getElem?_eq_some_iff.1 hRa).2
    have e1 : lsA id l = .sl id l.length 0 l.length := by unfold lsA; rw [if_neg h0]
    have hin : ¬ insI n l = [] := insI_ne n l
    rw [e1]
    simp [Tryz.f121, a121, reg121, loop121, draw121, dok121]
    refine loop_in (fun i : Nat => ⟨[(0, .sl id l.length 0 l.length), (1, .int .i64 n), (7, .sl id l.length 0 l.length), (8, .int .i64 l.length), (9, .int .i64 i)], ⟨bx, R⟩⟩)
      (fun i => some (.ret (lsA (insR R id l n).2 (insI n l)), ⟨bx, (insR R id l n).1⟩)) (fun i => l.length - i) (fun i => i ≤ l.length ∧ fate n l = fate n (l.drop i) ∧ insI n l = l.take i ++ insI n (l.drop i)) 0 ?_ ?_ ?_ ?_ ?_
    · simp
    · simp
    · simp
    · intro x; simp [Tryz.f121, a121, reg121, loop121, draw121, dok121]
    · rintro i ⟨hi, hf, hI⟩ hrec
      by_cases hlt : i < l.length
      · have w2 : IntKind.i64.wrap (i + 1) = i + 1 := wrap_id _ (by omega)
        have hat := ints_at hlt
        rw [fate_drop hlt] at hf
        rw [insI_drop hlt] at hI
        by_cases c1 : l[i] = n
        · clear hrec
          rw [if_pos c1] at hf hI
          rw [List.take_append_drop] at hI
          have hr : insR R id l n = (R, id) := by unfold insR; rw [if_pos hf]
          rw [hr, hI, e1] at hk
          rw [hr, hI, e1]
          simp at hk
          simp [round, Tryz.f121, a121, reg121, loop121, draw121, dok121, hlt, hid, hR2, show i + 1 ≤ l.length by omega, hat, c1, hk]
        rw [if_neg c1] at hf hI
        by_cases c2 : n < l[i]
        · clear hrec
          rw [if_pos c2] at hf hI
          have hr : insR R id l n = (R ++ [⟨3, ints (insI n l)⟩], R.length) := by unfold insR; rw [if_neg (by omega), if_pos (.inl hf)]
          have hlen : (insI n l).length = l.length + 1 := by rw [hI]; simp; omega
          have e2 : lsA R.length (insI n l) = .sl R.length (l.length + 1) 0 (l.length + 1) := by unfold lsA; rw [if_neg (by omega), hlen]
          have hc : List.take i (ints l) ++ A.int .i64 n :: List.drop i (ints l) = ints (insI n l) := by rw [hI]; simp [ints]
          rw [hr, e2] at hk
          rw [hr, e2]
          simp only at hk ⊢
          by_cases hi0 : i = 0
          · subst hi0
            have hall : List.take l.length (ints l) = ints l := List.take_of_length_le (by simp)
            simp at hc hat
            simp [round, Tryz.f121, a121, reg121, loop121, draw121, dok121, hlt, hid, hR2, at_lt, show 1 ≤ l.length by omega, hat, c1, c2, show ¬ (0 : Int) = l.length by omega, hne, hall, flat_mem_ints, show (1 + l.length) * 8 ≤ 70368744177664 by omega, show 1 + l.length ≤ 70368744177664 by omega, show (l.length + 1) * 8 ≤ 70368744177664 by omega, show l.length ≤ 70368744177663 by omega, hc, Nat.add_comm 1 l.length, hk]
          · have hwft : (∀ x, x ∈ List.take i (ints l) → flat x = true) = True := eq_true fun x hx => List.all_eq_true.1 (flat_ints _) x (List.mem_of_mem_take hx)
            have hwfd : (∀ x, x ∈ List.drop i (ints l) → flat x = true) = True := eq_true fun x hx => List.all_eq_true.1 (flat_ints _) x (List.mem_of_mem_drop hx)
            have hwtd : List.take (l.length - i) (List.drop i (ints l)) = List.drop i (ints l) := List.take_of_length_le (by simp)
            simp [round, Tryz.f121, a121, reg121, loop121, draw121, dok121, hlt, hid, hR2, at_lt, show i + 1 ≤ l.length by omega, hat, c1, c2, hi0, show ¬ (0 : Int) = i by omega, show (i : Int) ≤ l.length by omega, show i ≤ l.length by omega, show ¬ (i : Int) = l.length by omega, show ¬ i = l.length by omega, show ((l.length : Int) - i).toNat = l.length - i by omega, show min i l.length = i by omega, hwft, hwfd, hwtd, show i + (l.length - i) = l.length by omega, show i * 8 ≤ 70368744177664 by omega, show i ≤ 70368744177664 by omega, show (i + 1) * 8 ≤ 70368744177664 by omega, show i + 1 ≤ 70368744177664 by omega, show (i + 1 + (l.length - i)) * 8 ≤ 70368744177664 by omega, show i + 1 + (l.length - i) ≤ 70368744177664 by omega, show (l.length + 1) * 8 ≤ 70368744177664 by omega, show l.length ≤ 70368744177663 by omega, hc, show i + 1 + (l.length - i) = l.length + 1 by omega, hk]
        · rw [if_neg c2] at hf hI
          simp [round, Tryz.f121, a121, reg121, loop121, draw121, dok121, hlt, w2, hid, hR2, show i + 1 ≤ l.length by omega, hat, c1, c2, endRound_M0]
          refine hrec (i + 1) _ _ ?_ ?_ ?_ ?_
          · omega
          · refine ⟨by omega, hf, ?_⟩
            rw [hI, List.take_succ_eq_append_getElem hlt, List.append_assoc]
            rfl
          · simp
          · simp
      · clear hrec
        have hie : i = l.length := by omega
        subst hie
        rw [List.drop_eq_nil_of_le (Nat.le_refl _), fate] at hf
        rw [List.drop_eq_nil_of_le (Nat.le_refl _), insI, List.take_of_length_le (Nat.le_refl _)] at hI
        have hr : insR R id l n = (R.set id ⟨3, ints (insI n l)⟩, id) := by unfold insR; rw [if_neg (by omega), if_neg (by rw [hf]; omega)]
        have hlen : (insI n l).length = l.length + 1 := by rw [hI]; simp
        have e2 : lsA id (insI n l) = .sl id (l.length + 1) 0 (l.length + 1) := by unfold lsA; rw [if_neg (by omega), hlen]
        have hc : ints l ++ [A.int .i64 n] = ints (insI n l) := by rw [hI]; simp [ints]
        rw [hr, e2] at hk
        rw [hr, e2]
        simp only at hk ⊢
        simp [round, Tryz.f121, a121, reg121, loop121, draw121, dok121, hid, hR2, show (l.length + 1) * 8 ≤ 70368744177664 by omega, show l.length + 1 ≤ 70368744177664 by omega, show l.length ≤ 70368744177663 by omega, hc, hk]
structure StS where
  R : List Row
  id : Nat
  l : List Int
def stIns (n : Int) (s : StS) : StS := ⟨(insR s.R s.id s.l n).1, (insR s.R s.id s.l n).2, insI n s.l⟩
mutual
def stV : Val → Fun → StS → StS
  | .mk k l w, f, s => if f.kind = 0 then stIns k s else stL l (argF f k) 0 s
def stL : List Val → (Nat → Fun) → Nat → StS → StS
  | [], _, _, s => s
  | v :: r, g, i, s => stL r g (i + 1) (stV v (g i) s)
end
theorem stV_eq (v : Val) (f : Fun) (s : StS) : stV v f s = if f.kind = 0 then stIns v.num s else stL v.args (argF f v.num) 0 s := by cases v; rw [stV]; rfl
theorem stL_drop {l : List Val} {i : Nat} (h : i < l.length) (g : Nat → Fun) (s : StS) : stL (l.drop i) g i s = stL (l.drop (i + 1)) g (i + 1) (stV l[i] (g i) s) := by rw [List.drop_eq_getElem_cons h, stL]
mutual
theorem stV_l : ∀ (v : Val) (f : Fun) (s : StS), (stV v f s).l = statesV v f s.l ∧ (OkL s.R s.id s.l → OkL (stV v f s).R (stV v f s).id (stV v f s).l) ∧ (stV v f s).l.length ≤ s.l.length + v.nodes
  | .mk k l w, f, s => by
    rw [stV, statesV, Val.nodes_eq]
    split
    · exact ⟨rfl, fun h => insR_ok k h, by have := insI_len k s.l; simp [stIns]; omega⟩
    · have := stL_l l (argF f k) 0 s
      exact ⟨this.1, this.2.1, by simp; omega⟩
theorem stL_l : ∀ (l : List Val) (g : Nat → Fun) (i : Nat) (s : StS), (stL l g i s).l = statesL l g i s.l ∧ (OkL s.R s.id s.l → OkL (stL l g i s).R (stL l g i s).id (stL l g i s).l) ∧ (stL l g i s).l.length ≤ s.l.length + Val.nodesL l
  | [], g, i, s => by rw [stL, statesL, Val.nodesL]; exact ⟨rfl, id, by omega⟩
  | v :: r, g, i, s => by
    rw [stL, statesL, Val.nodesL]
    have h1 := stV_l v (g i) s
    have h2 := stL_l r g (i + 1) (stV v (g i) s)
    exact ⟨by rw [h2.1, h1.1], fun h => h2.2.1 (h1.2.1 h), by omega⟩
end
def Grow (R R' : List Row) : Prop := R.length ≤ R'.length ∧ ∀ i, i < R'.length → R'[i]? = R[i]? ∨ ∃ r, R'[i]? = some r ∧ r.cs.all (closed 0 0) = true
theorem Grow.refl (R : List Row) : Grow R R := ⟨Nat.le_refl _, fun _ _ => .inl rfl⟩
theorem Grow.trans {a b c : List Row} (h : Grow a b) (k : Grow b c) : Grow a c := by
  refine ⟨Nat.le_trans h.1 k.1, fun i hi => ?_⟩
  rcases k.2 i hi with h1 | h1
  · by_cases hb : i < b.length
    · rcases h.2 i hb with h2 | ⟨r, h2, h3⟩
      · exact .inl (h1.trans h2)
      · exact .inr ⟨r, h1.trans h2, h3⟩
    · rw [List.getElem?_eq_none (show b.length ≤ i by omega)] at h1
      rw [List.getElem?_eq_getElem hi] at h1
      cases h1
  · exact .inr h1
theorem Grow.rows {R R' : List Row} (h : Grow R R') (nb : Nat) : RowsOk nb R R' := fun i hi => by
  rcases h.2 i hi with h1 | ⟨r, h1, h2⟩
  · exact .inl h1
  · exact .inr ⟨r, h1, closed_up h2⟩
theorem insR_grow (R : List Row) (id : Nat) (l : List Int) (n : Int) : Grow R (insR R id l n).1 := by
  unfold insR
  split
  · exact Grow.refl _
  · split
    · refine ⟨by simp, fun i hi => ?_⟩
      by_cases h : i < R.length
      · exact .inl (List.getElem?_append_left h)
      · simp at hi
        have : i = R.length := by omega
        subst this
        exact .inr ⟨⟨3, ints (insI n l)⟩, by simp, by simp⟩
    · refine ⟨by simp, fun i hi => ?_⟩
      by_cases h : id = i
      · subst h
        exact .inr ⟨⟨3, ints (insI n l)⟩, by simp at hi; simp [hi], by simp⟩
      · exact .inl (by simp [h])
mutual
theorem stV_grow : ∀ (v : Val) (f : Fun) (s : StS), Grow s.R (stV v f s).R
  | .mk k l w, f, s => by
    rw [stV]
    split
    · exact insR_grow _ _ _ _
    · exact stL_grow l _ 0 s
theorem stL_grow : ∀ (l : List Val) (g : Nat → Fun) (i : Nat) (s : StS), Grow s.R (stL l g i s).R
  | [], g, i, s => by rw [stL]; exact Grow.refl _
  | v :: r, g, i, s => by rw [stL]; exact (stV_grow v (g i) s).trans (stL_grow r g (i + 1) _)
end
theorem endRound_K {l : List Nat} {M L' : List (List A)} {L : List (List A)} {R1 R2 : List Row} {tm : List (Nat × A)} (hR : Grow R1 R2) (hL : L.length ≤ L'.length) (hl : l.all (fun t => closed (M.length + L.length) R2.length (lk t tm)) = true) (hc : (L'.take L.length).all (fun cs => cs.all (closed (M.length + L.length) R2.length)) = true) :
    endRound (some l) ⟨M ++ L, R1⟩ ⟨tm, ⟨M ++ L', R2⟩⟩ = some ⟨prune (some l) tm, ⟨M ++ L'.take L.length, R2⟩⟩ := by
  refine endRound_eq (B := M ++ L'.take L.length) (J := L'.drop L.length) (by simp) (by simp; omega) (by simpa using List.all_eq_true.1 hl) (fun i hi => ?_) (fun i hi => by simpa using hR.rows (M.length + L.length) i hi)
  simp only [List.length_append] at hi ⊢
  by_cases h : i < M.length
  · exact .inl (by rw [List.getElem?_append_left h, List.getElem?_append_left h])
  · right
    have := all_take (B := M) hc (by simpa using h) (by simpa using hi) hL
    simpa using this
set_option maxHeartbeats 4000000 in
theorem ev_RStates (ex : Fun → List Val → List Int → Bool) (n : Int) (N : Nat) : ∀ (v : Val), v.nodes ≤ N → v.nodes ≤ 1000000 → ∀ (f : Fun), shapedF f = true → okV ex n v f = true → ∀ (bx : List (List A)) (s : StS), s.l.length + v.nodes ≤ 1000000000 → OkL s.R s.id s.l →
    evCall C0 122 [.agg f.cells, .agg v.cells, lsA s.id s.l] ⟨bx, s.R⟩ = some (.ret (lsA (stV v f s).id (stV v f s).l), ⟨bx, (stV v f s).R⟩) := by
  induction N with
  | zero => intro v hN; have := v.nodes_pos; omega
  | succ N ih =>
  intro v hN hb f hf hok bx s hsl hs
  have hlen := v.length_args
  have hst := stV_l v f s
  have hgr := stV_grow v f s
  rw [okV_eq, Bool.and_eq_true, Bool.and_eq_true] at hok
  obtain ⟨⟨hh, _⟩, hokl⟩ := hok
  have hpb : partsB f v = true := by
    rw [head_split hf, Bool.and_eq_true, Bool.and_eq_true] at hh
    exact hh.1.1
  have hp := ev_Parts f v hf (by omega)
  obtain ⟨hPl, hPa⟩ := parts_at hf hpb
  simp [hpb] at hp
  generalize partsL f v = P at hp hPl hPa
  have hlv : ∀ b, leave Tryz.prog true ⟨bx, s.R⟩ (.ret (lsA (stV v f s).id (stV v f s).l)) ⟨bx ++ b, (stV v f s).R⟩ = some (.ret (lsA (stV v f s).id (stV v f s).l), ⟨bx, (stV v f s).R⟩) := fun b =>
    leave_keep0 _ ⟨bx, s.R⟩ _ _ _ (hgr.rows _) (lsA_closed2 (hst.2.1 hs) _)
  rw [evCall_body C0 (C0_ext _ (by decide)) (by rw [C0_P]; exact Tryz.func122) rfl (by rw [C0_ann]; rfl) (by rw [C0_ann]; rfl) (by decide) (by simp [Tryz.f122])]
  by_cases hk0 : f.kind = 0
  · have he := ev_Insert v.num (bx ++ [f.cells, v.cells]) s.R s.id s.l (by omega) hs
    have e : stV v f s = stIns v.num s := by rw [stV_eq, if_pos hk0]
    rw [e] at hlv ⊢
    unfold stIns at hlv ⊢
    simp [hk0] at he
    simp [Tryz.f122, a122, reg122, loop122, draw122, dok122, hk0, he, hlv]
  · have e : stV v f s = stL v.args (argF f v.num) 0 s := by rw [stV_eq, if_neg hk0]
    rw [e] at hlv ⊢
    simp [Tryz.f122, a122, reg122, loop122, draw122, dok122, hk0, hp]
    refine loop_in (fun x : Nat × StS => ⟨[(2, lsA x.2.id x.2.l), (7, .isl false P.length (Fun.cellsL P)), (25, .isl false v.args.length (Val.cellsL v.args)), (26, .int .i64 v.args.length), (27, .int .i64 x.1)], ⟨bx ++ [f.cells, v.cells], x.2.R⟩⟩)
      (fun x => some (.ret (lsA (stL v.args (argF f v.num) 0 s).id (stL v.args (argF f v.num) 0 s).l), ⟨bx, (stL v.args (argF f v.num) 0 s).R⟩)) (fun x => v.args.length - x.1)
      (fun x => x.1 ≤ v.args.length ∧ stL v.args (argF f v.num) 0 s = stL (v.args.drop x.1) (argF f v.num) x.1 x.2 ∧ x.2.l.length + Val.nodesL (v.args.drop x.1) ≤ 1000000000 ∧ OkL x.2.R x.2.id x.2.l) (0, s) ?_ ?_ ?_ ?_ ?_
    · simp
    · simp
    · have := Val.nodes_eq v
      exact ⟨by simp, by simp, by simp; omega, hs⟩
    · intro x; simp [Tryz.f122, a122, reg122, loop122, draw122, dok122]
    · rintro ⟨i, y⟩ ⟨hi, hy, hyl, hyo⟩ hrec
      simp only at hi hy hyl hyo ⊢
      by_cases hlt : i < v.args.length
      · have w2 : IntKind.i64.wrap (i + 1) = i + 1 := wrap_id _ (by omega)
        have h3 : (i + 1) * 3 ≤ v.args.length * 3 := by omega
        have hiP : i < P.length := by omega
        have hgi := hPa i hiP
        have hk1 : ¬ f.kind = 1 := fun h => by have := (head_num hh).2.2 (.inr h); omega
        have hgs := argF_shaped hf hk0 hk1 hh i hlt
        have o0 := okL_mem hokl i hlt
        rw [Nat.zero_add] at hgs o0
        have hm := Val.nodes_arg (List.getElem_mem hlt)
        rw [Val.nodesL_drop hlt] at hyl
        rw [stL_drop hlt] at hy
        have he := ih v.args[i] (by omega) (by omega) (argF f v.num i) hgs o0 (bx ++ [f.cells, v.cells, v.args[i].cells]) y (by omega) hyo
        have hz := stV_l v.args[i] (argF f v.num i) y
        have hg := stV_grow v.args[i] (argF f v.num i) y
        generalize stV v.args[i] (argF f v.num i) y = z at he hy hz hg
        have hzo := hz.2.1 hyo
        have hzc := lsA_closed2 hzo
        simp at he
        simp [round, Tryz.f122, a122, reg122, loop122, draw122, dok122, hlt, w2, h3, hiP, show (i + 1) * 3 ≤ P.length * 3 by omega, hgi, he, endRound_K, hg, hzc]
        refine hrec (i + 1, z) _ _ ?_ ?_ ?_ ?_
        · simp; omega
        · exact ⟨by simp only; omega, hy, by simp only; omega, hzo⟩
        · simp
        · simp
      · clear hrec
        rw [List.drop_eq_nil_of_le (by omega), stL] at hy
        rw [hy] at hlv ⊢
        have hlv' := hlv [f.cells, v.cells]
        simp at hlv'
        simp [round, Tryz.f122, a122, reg122, loop122, draw122, dok122, hlt, hlv']
theorem ev_SameIntsN (f1 : Bool) (a : List Int) (m : Mem) : evCall C0 30 [.isl f1 a.length (ints a), .nils] m = some (.ret (.bool (decide (a = []))), m) := by
  rw [evCall_body C0 (C0_ext _ (by decide)) (by rw [C0_P]; exact Tryz.func30) rfl (by rw [C0_ann]; rfl) (by rw [C0_ann]; rfl) (by decide) (by simp [Tryz.f30])]
  by_cases h : a = []
  · subst h
    simp [Tryz.f30, a30, reg30, loop30, draw30, dok30]
    rw [evCode_loop]
    simp [round, Tryz.f30, a30, reg30, loop30, draw30, dok30]
  · have h0 : ¬ (a.length : Int) = 0 := fun e => h (List.eq_nil_of_length_eq_zero (by omega))
    simp [Tryz.f30, a30, reg30, loop30, draw30, dok30, h, h0]
theorem insP_app {u : Val} {w : Int} {r : List (Val × Int)} : ∀ {o : List (Val × Int)}, (∀ p, p ∈ o → cmpV p.1 u < 0) → insP u w (o ++ r) = o ++ insP u w r
  | [], _ => rfl
  | p :: o, h => by
    have h1 := h p List.mem_cons_self
    have h2 := cmpV_anti p.1 u
    rw [List.cons_append, insP, if_neg (by omega), if_neg (by omega), insP_app fun q hq => h q (List.mem_cons_of_mem _ hq)]
    rfl
theorem insP_top {u : Val} {w : Int} {o : List (Val × Int)} (hs : o.Pairwise LtP) (h : ∀ q, q ∈ o → cmpV q.1 u ≤ 0) (hl : 0 < o.length) :
    insP u w o = if cmpV (o[o.length - 1]).1 u = 0 then o.set (o.length - 1) ((o[o.length - 1]).1, (o[o.length - 1]).2 + w) else o ++ [(u, w)] := by
  have hne : o ≠ [] := List.length_pos_iff.1 hl
  obtain ⟨q, r, rfl⟩ : ∃ q r, o = r ++ [q] := ⟨o.getLast hne, o.dropLast, (List.dropLast_concat_getLast hne).symm⟩
  have hq : (r ++ [q])[(r ++ [q]).length - 1] = q := by simp
  rw [hq]
  have hr : ∀ p, p ∈ r → cmpV p.1 q.1 < 0 := fun p hp => (List.pairwise_append.1 hs).2.2 p hp q (by simp)
  have hqu := h q (by simp)
  by_cases hc : cmpV q.1 u = 0
  · rw [if_pos hc]
    have hu := (cmpV_zero _ _).1 hc
    rw [insP_app fun p hp => by rw [← hu]; exact hr p hp, insP, if_pos (by rw [hu]; exact cmpV_self _)]
    simp
  · rw [if_neg hc]
    refine insP_end fun p hp => ?_
    rcases List.mem_append.1 hp with hp | hp
    · exact cmpV_lt_trans (hr p hp) (by omega)
    · rw [List.mem_singleton.1 hp]
      omega
theorem at_elemsC : ∀ (l : List (Val × Int)) (i : Nat) (h : i < l.length), ((elemsC l).drop (i * 4)).take 4 = elemC l[i]
  | p :: r, 0, _ => by
    show (elemC p ++ elemsC r).take 4 = _
    rw [← elemC_length p, List.take_left]
    rfl
  | p :: r, i + 1, h => by
    have := at_elemsC r i (by simpa using h)
    show (List.drop ((i + 1) * 4) (elemC p ++ elemsC r)).take 4 = _
    rw [show (i + 1) * 4 = (elemC p).length + i * 4 by simp; omega, ← List.drop_drop, List.drop_left]
    simpa using this
theorem elemsC_append (l r : List (Val × Int)) : elemsC (l ++ r) = elemsC l ++ elemsC r := by unfold elemsC; rw [List.map_append, List.flatten_append]
theorem elemsC_one (p : Val × Int) : elemsC [p] = elemC p := by unfold elemsC; simp
theorem elemC_eq (p : Val × Int) : elemC p = [.int .i64 p.1.num, .isl false p.1.args.length (Val.cellsL p.1.args), .isl false p.1.ws.length (ints p.1.ws), .int .i64 p.2] := by unfold elemC; rw [Val.cells_eq]; rfl
theorem elemsC_closed (nb nr : Nat) : ∀ l : List (Val × Int), (elemsC l).all (closed nb nr) = true
  | [] => rfl
  | p :: r => by
    show (elemC p ++ elemsC r).all _ = true
    rw [List.all_append, elemsC_closed nb nr r]
    unfold elemC
    rw [List.all_append, Val.closed_cells]
    rfl
theorem elemsC_flat : ∀ l : List (Val × Int), (elemsC l).all flat = true
  | [] => rfl
  | p :: r => by
    show (elemC p ++ elemsC r).all _ = true
    rw [List.all_append, elemsC_flat r]
    unfold elemC
    rw [List.all_append, Val.cells_eq]
    rfl
theorem app_at0 {α : Type} (R J : List α) : (R ++ J)[R.length]? = J[0]? := by
  rw [List.getElem?_append_right (Nat.le_refl _), Nat.sub_self]
theorem app_set0 {α : Type} (R J : List α) (x : α) : (R ++ J).set R.length x = R ++ J.set 0 x := by
  rw [List.set_append_right _ _ (Nat.le_refl _), Nat.sub_self]
theorem ev_vSame (u v : Val) (hb : u.nodes ≤ 1000000000) (hs : slimV u) (m : Mem) : evCall C0 38 [.agg u.cells, .agg v.cells] m = some (.ret (.bool (decide (cmpV u v = 0))), m) := by
  rw [evCall_body C0 (C0_ext _ (by decide)) (by rw [C0_P]; exact Tryz.func38) rfl (by rw [C0_ann]; rfl) (by rw [C0_ann]; rfl) (by decide) (by simp [Tryz.f38])]
  have he := ev_Compare u.nodes u (Nat.le_refl _) hb hs v
  simp at he
  simp [Tryz.f38, a38, reg38, he]
set_option maxHeartbeats 1000000 in
theorem ev_vgcdR (l : List Int) (id : Nat) (hl : l.length ≤ 1000000000) (hp : ∀ w, w ∈ l → 1 ≤ w ∧ w ≤ 1048576) (m : Mem) (hR : m.rw[id]? = some ⟨3, ints l⟩) : evCall C0 169 [.sl id l.length 0 l.length] m = some (.ret (.int .i64 (gcdN l)), m) := by
  have hid : id < m.rw.length := (List.getElem?_eq_some_iff.1 hR).1
  have hR2 := (List.getElem?_eq_some_iff.1 hR).2
  rw [evCall_body C0 (C0_ext _ (by decide)) (by rw [C0_P]; exact Tryz.func169) rfl (by rw [C0_ann]; rfl) (by rw [C0_ann]; rfl) (by decide) (by simp [Tryz.f169])]
  simp [Tryz.f169, a169, reg169, loop169, draw169, dok169]
  refine loop_in (fun x : Nat × Nat => ⟨[(3, .int .i64 x.2), (6, .sl id l.length 0 l.length), (7, .int .i64 l.length), (8, .int .i64 x.1)], m⟩)
    (fun x => some (.ret (.int .i64 (gcdF x.2 (l.drop x.1))), m)) (fun x => l.length - x.1) (fun x => x.1 ≤ l.length ∧ x.2 ≤ 1048576) (0, 0) ?_ ?_ ?_ ?_ ?_
  · simp
  · simp [gcdN]
  · simp
  · intro x; simp [Tryz.f169, a169, reg169, loop169, draw169, dok169]
  · rintro ⟨i, q⟩ hI hrec
    simp only at hI
    obtain ⟨hi, hq⟩ := hI
    by_cases hlt : i < l.length
    · have w2 : IntKind.i64.wrap (i + 1) = i + 1 := wrap_id _ (by omega)
      have hx := hp l[i] (List.getElem_mem hlt)
      have hat := ints_at hlt
      simp only
      rw [gcdF_drop hlt]
      obtain ⟨n, hn⟩ : ∃ n : Nat, l[i] = n := ⟨l[i].toNat, by omega⟩
      rw [hn] at hx hat ⊢
      simp only [Int.natAbs_natCast]
      have hle : Nat.gcd q n ≤ 1048576 := Nat.le_trans (Nat.le_of_dvd (by omega) (Nat.gcd_dvd_right q n)) (by omega)
      simp [round, Tryz.f169, a169, reg169, loop169, draw169, dok169, hlt, w2, hat, hid, hR2, show i + 1 ≤ l.length by omega]
      rw [loop_mp (fun y : Nat × Nat => ⟨[(3, .int .i64 y.1), (5, .int .i64 y.2), (6, .sl id l.length 0 l.length), (7, .int .i64 l.length), (8, .int .i64 i)], m⟩)
        (fun y => some (.normal, ⟨[(3, .int .i64 (Nat.gcd y.1 y.2 : Nat)), (5, .int .i64 0), (6, .sl id l.length 0 l.length), (7, .int .i64 l.length), (8, .int .i64 i), (13, .bool false)], m⟩)) (fun y => y.2) (fun y => y.1 ≤ 1048576 ∧ y.2 ≤ 1048576) (q, n) ?_ rfl ?_ ?_ ?_]
      · simp [Tryz.f169, a169, reg169, loop169, draw169, dok169, w2, endRound_M0, hid]
        refine hrec (i + 1, Nat.gcd q n) _ _ ?_ ?_ ?_ ?_
        · simp; omega
        · exact ⟨by simp; omega, hle⟩
        · simp
        · simp
      · simp [Tryz.f169, a169, reg169, loop169, draw169, dok169]
      · exact ⟨hq, by omega⟩
      · intro x; simp [Tryz.f169, a169, reg169, loop169, draw169, dok169]
      · rintro ⟨a, c⟩ ⟨ha, hc⟩ hrec2
        clear hrec
        by_cases h0 : c = 0
        · subst h0
          simp [round, Tryz.f169, a169, reg169, loop169, draw169, dok169]
        · have ht : (a : Int).tmod (c : Int) = ((a % c : Nat) : Int) := tmod_nat a c
          have hne : ¬ (c : Int) = 0 := by omega
          have hm : a % c < c := Nat.mod_lt _ (by omega)
          simp [round, Tryz.f169, a169, reg169, loop169, draw169, dok169, h0, ht, endRound_M0, hid]
          refine hrec2 (c, a % c) _ _ ?_ ?_ ?_ ?_
          · exact hm
          · exact ⟨hc, by simp only; omega⟩
          · simp
          · simp only
            rw [Nat.gcd_comm c, ← Nat.gcd_rec, Nat.gcd_comm]
    · clear hrec
      simp [round, Tryz.f169, a169, reg169, loop169, draw169, dok169, hlt]
      rw [List.drop_eq_nil_of_le (by omega)]
      rfl
theorem ev_Nodes (N : Nat) : ∀ (f : Val), f.nodes ≤ N → f.nodes ≤ 1000000000 → ∀ (m : Mem), evCall C0 92 [.agg f.cells] m = some (.ret (.int .i64 f.nodes), m) := by
  induction N with
  | zero => intro f hN; have := f.nodes_pos; omega
  | succ N ih =>
  intro f hN hb m
  rw [evCall_body C0 (C0_ext _ (by decide)) (by rw [C0_P]; exact Tryz.func92) rfl (by rw [C0_ann]; rfl) (by rw [C0_ann]; rfl) (by decide) (by simp [Tryz.f92])]
  simp [Tryz.f92, a92, reg92, loop92]
  have hn := Val.nodes_eq f
  refine loop_in (fun x : Nat × Nat => ⟨[(3, .int .i64 x.2), (7, .isl false f.args.length (Val.cellsL f.args)), (8, .int .i64 f.args.length), (9, .int .i64 x.1)], ⟨m.bx ++ [f.cells], m.rw⟩⟩)
    (fun x => some (.ret (.int .i64 (x.2 + Val.nodesL (f.args.drop x.1) : Nat)), m)) (fun x => f.args.length - x.1) (fun x => x.1 ≤ f.args.length ∧ x.2 + Val.nodesL (f.args.drop x.1) ≤ 1000000000) (0, 1) ?_ ?_ ?_ ?_ ?_
  · simp
  · simp [hn]
  · simp; omega
  · intro x; simp [Tryz.f92, a92, reg92, loop92]
  · rintro ⟨i, a⟩ hI hrec
    simp only at hI
    obtain ⟨hi, ha⟩ := hI
    have hlen := f.length_args
    by_cases hlt : i < f.args.length
    · have w2 : IntKind.i64.wrap (i + 1) = i + 1 := wrap_id _ (by omega)
      have hmem := Val.nodes_arg (List.getElem_mem hlt)
      have he := ih f.args[i] (by omega) (by omega)
      simp at he
      rw [Val.nodesL_drop hlt] at ha
      have w3 : IntKind.i64.wrap (a + f.args[i].nodes) = a + f.args[i].nodes := wrap_id _ (by omega)
      clear ih
      have h3 : (i + 1) * 3 ≤ f.args.length * 3 := by omega
      simp [round, Tryz.f92, a92, reg92, loop92, hlt, w2, w3, h3, he]
      refine hrec (i + 1, a + f.args[i].nodes) _ _ ?_ ?_ ?_ ?_
      · simp; omega
      · simp; omega
      · simp
      · simp only
        rw [Val.nodesL_drop hlt]
        simp; omega
    · clear hrec ih
      simp [round, Tryz.f92, a92, reg92, loop92, hlt]
      rw [List.drop_eq_nil_of_le (by omega), Val.nodesL]
      simp
theorem ev_RNodes (N : Nat) : ∀ (f : Val), f.nodes ≤ N → f.nodes ≤ 1000000000 → ∀ (m : Mem), evCall C0 73 [.agg f.cells] m = some (.ret (.int .i64 f.nodes), m) := by
  induction N with
  | zero => intro f hN; have := f.nodes_pos; omega
  | succ N ih =>
  intro f hN hb m
  rw [evCall_body C0 (C0_ext _ (by decide)) (by rw [C0_P]; exact Tryz.func73) rfl (by rw [C0_ann]; rfl) (by rw [C0_ann]; rfl) (by decide) (by simp [Tryz.f73])]
  simp [Tryz.f73, a73, reg73, loop73]
  have hn := Val.nodes_eq f
  refine loop_in (fun x : Nat × Nat => ⟨[(3, .int .i64 x.2), (7, .isl false f.args.length (Val.cellsL f.args)), (8, .int .i64 f.args.length), (9, .int .i64 x.1)], ⟨m.bx ++ [f.cells], m.rw⟩⟩)
    (fun x => some (.ret (.int .i64 (x.2 + Val.nodesL (f.args.drop x.1) : Nat)), m)) (fun x => f.args.length - x.1) (fun x => x.1 ≤ f.args.length ∧ x.2 + Val.nodesL (f.args.drop x.1) ≤ 1000000000) (0, 1) ?_ ?_ ?_ ?_ ?_
  · simp
  · simp [hn]
  · simp; omega
  · intro x; simp [Tryz.f73, a73, reg73, loop73]
  · rintro ⟨i, a⟩ hI hrec
    simp only at hI
    obtain ⟨hi, ha⟩ := hI
    have hlen := f.length_args
    by_cases hlt : i < f.args.length
    · have w2 : IntKind.i64.wrap (i + 1) = i + 1 := wrap_id _ (by omega)
      have hmem := Val.nodes_arg (List.getElem_mem hlt)
      have he := ih f.args[i] (by omega) (by omega)
      simp at he
      rw [Val.nodesL_drop hlt] at ha
      have w3 : IntKind.i64.wrap (a + f.args[i].nodes) = a + f.args[i].nodes := wrap_id _ (by omega)
      clear ih
      have h3 : (i + 1) * 3 ≤ f.args.length * 3 := by omega
      simp [round, Tryz.f73, a73, reg73, loop73, hlt, w2, w3, h3, he]
      refine hrec (i + 1, a + f.args[i].nodes) _ _ ?_ ?_ ?_ ?_
      · simp; omega
      · simp; omega
      · simp
      · simp only
        rw [Val.nodesL_drop hlt]
        simp; omega
    · clear hrec ih
      simp [round, Tryz.f73, a73, reg73, loop73, hlt]
      rw [List.drop_eq_nil_of_le (by omega), Val.nodesL]
      simp
def sysX (f : Fun) (x : A) : List A := f.cells ++ [x]
@[simp] theorem sysX_eq (f : Fun) (x : A) : sysX f x = f.cells ++ [x] := _root_.id rfl
def okVs (f : Fun) (n : Nat) (vs : List Val) : Bool := vs.all fun v => (chkV exS n v f 2000).1
def okS (f : Fun) (vs : List Val) : Bool := okF f && decide (vs.length ≤ 100) && okVs f vs.length vs && decide (Val.nodesL vs ≤ 20000)
theorem okVs_drop {f : Fun} {n : Nat} {vs : List Val} {i : Nat} (h : i < vs.length) : okVs f n (vs.drop i) = ((chkV exS n vs[i] f 2000).1 && okVs f n (vs.drop (i + 1))) := by
  unfold okVs
  rw [List.drop_eq_getElem_cons h, List.all_cons]
theorem okF_shapedS {f : Fun} (h : okF f = true) : shapedF f = true := ((okF_iff f).1 h).2.2
set_option maxHeartbeats 1000000 in
theorem ev_SValid (f : Fun) (vs : List Val) (hf : f.nodes ≤ 1000000) (hb : Val.nodesL vs ≤ 1000000) (hs : ∀ v ∈ vs, slimV v) (m : Mem) : evCall C0 43 [.agg (sysX f (.isl false vs.length (Val.cellsL vs)))] m = some (.ret (.bool (okS f vs)), m) := by
  rw [evCall_body C0 (C0_ext _ (by decide)) (by rw [C0_P]; exact Tryz.func43) rfl (by rw [C0_ann]; rfl) (by rw [C0_ann]; rfl) (by decide) (by simp [Tryz.f43])]
  have hv := ev_Valid f (by omega)
  have hl := Val.length_nodesL vs
  simp at hv
  unfold okS
  cases hc : okF f
  · simp [Tryz.f43, a43, reg43, loop43, hv, hc]
  by_cases h100 : vs.length ≤ 100
  · have hsh := okF_shapedS hc
    have h100' : ¬ (100 : Int) < vs.length := by omega
    simp [Tryz.f43, a43, reg43, loop43, hv, hc, h100, h100']
    refine loop_in (fun x : Nat × Nat => ⟨[(1, .ptr m.bx.length 0), (3, .int .i64 x.2), (17, .isl false vs.length (Val.cellsL vs)), (18, .int .i64 vs.length), (19, .int .i64 x.1)], ⟨m.bx ++ [sysX f (.isl false vs.length (Val.cellsL vs))], m.rw⟩⟩)
      (fun x => some (.ret (.bool (okVs f vs.length (vs.drop x.1) && decide (x.2 + Val.nodesL (vs.drop x.1) ≤ 20000))), m)) (fun x => vs.length - x.1) (fun x => x.1 ≤ vs.length ∧ x.2 + Val.nodesL (vs.drop x.1) ≤ 1000000) (0, 0) ?_ ?_ ?_ ?_ ?_
    · simp
    · simp
    · simp; omega
    · intro x; simp [Tryz.f43, a43, reg43, loop43]
    · rintro ⟨i, a⟩ hI hrec
      simp only at hI
      obtain ⟨hi, ha⟩ := hI
      by_cases hlt : i < vs.length
      · have w2 : IntKind.i64.wrap (i + 1) = i + 1 := wrap_id _ (by omega)
        have hmem := List.getElem_mem hlt
        have hnm := Val.nodes_mem hmem
        have he := ev_VValid f vs.length vs[i] hsh (by omega) (hs _ hmem)
        have hn := ev_Nodes vs[i].nodes vs[i] (Nat.le_refl _) (by omega)
        simp at he hn
        rw [Val.nodesL_drop hlt] at ha
        have w3 : IntKind.i64.wrap (a + vs[i].nodes) = a + vs[i].nodes := wrap_id _ (by omega)
        have h3 : (i + 1) * 3 ≤ vs.length * 3 := by omega
        rw [okVs_drop hlt]
        cases hcv : (chkV exS vs.length vs[i] f 2000).1
        · simp [round, Tryz.f43, a43, reg43, loop43, hlt, w2, w3, h3, he, hn, hcv]
        · simp [round, Tryz.f43, a43, reg43, loop43, hlt, w2, w3, h3, he, hn, hcv, endRound_M]
          refine hrec (i + 1, a + vs[i].nodes) _ _ ?_ ?_ ?_ ?_
          · simp; omega
          · simp; omega
          · simp
          · simp only
            rw [Val.nodesL_drop hlt]
            simp [Nat.add_assoc]
      · clear hrec
        simp [round, Tryz.f43, a43, reg43, loop43, hlt]
        rw [List.drop_eq_nil_of_le (by omega), Val.nodesL]
        simp [okVs]
        omega
  · have h100' : (100 : Int) < vs.length := by omega
    simp [Tryz.f43, a43, reg43, loop43, hv, hc, h100, h100']
end AE
end Go.Proofs.YtmfdpijmholedaaGreatDoor
/- Systems that came in. -/
set_option linter.unusedVariables false
set_option linter.unusedSimpArgs false
namespace Go.Proofs.YtmfdpijmholedaaGreatDoor
namespace AE
open Go Go.RowKit
set_option maxRecDepth 1000000 in
theorem cSys : Tryz.prog.cellsOf 27 = 4 := by kernel_rfl
set_option maxRecDepth 1000000 in
theorem cFunS : Tryz.prog.cellsOf 24 = 3 := by kernel_rfl
set_option maxRecDepth 100000 in
theorem open_sys {H : Type} {enc : TypeId × Value → H} {W : World} (N fuel : Nat) (hfu : fuel ≤ N) (cs : List Value) (x : DataW H × List MemPlace) (h : DataW.trod enc Tryz.prog W 0 (fun _ => true) true fuel 27 cs = some x) : ∃ (f : Fun) (vs : List Val), VRs W (g0 W) (sysX f (.isl false vs.length (Val.cellsL vs))) cs := by
  cases fuel with
  | zero => simp [DataW.trod] at h
  | succ N' =>
    obtain ⟨xs, n, hn, rfl, hlen, hxl, hf⟩ := DataW.trod_struct Tryz.underlying27 h
    rw [cSys] at hlen
    have hxl2 : xs.length = 2 := hxl
    clear hxl
    obtain ⟨a0, a1, a2, a3, rfl⟩ : ∃ a0 a1 a2 a3, cs = [a0, a1, a2, a3] := by
      match cs, hlen with
      | [a0, a1, a2, a3], _ => exact ⟨a0, a1, a2, a3, rfl⟩
    obtain ⟨x0, x1, rfl⟩ : ∃ x0 x1, xs = [x0, x1] := by
      match xs, hxl2 with
      | [a0, a1], _ => exact ⟨a0, a1, rfl⟩
    have h0 := hf 0 _ rfl
    have h1 := hf 1 _ rfl
    simp [cFunS, cVals] at h0 h1
    obtain ⟨f, hf0⟩ := open_fun _ _ (Nat.le_refl _) _ _ h0
    obtain ⟨l, v, e1, hv⟩ := open_slice (by decide) Tryz.underlying25 cVal Val.cells Val.cells_length (fun n' hn' ds y hy => open_val _ _ (Nat.le_refl _) ds y hy) h1
    simp at e1
    subst e1
    rw [Val.flat] at hv
    exact ⟨f, l, hf0.append (.one hv)⟩
end AE
end Go.Proofs.YtmfdpijmholedaaGreatDoor
/- When a system is valid: the program, the reference; its values as they come, or in a row. Printed by mkY2.py. -/
set_option linter.unusedVariables false
set_option linter.unusedSimpArgs false
namespace Go.Proofs.YtmfdpijmholedaaGreatDoor
namespace AE
open Go
set_option maxHeartbeats 1000000 in
theorem ev_SRIs (f : Fun) (vs : List Val) (hf : f.nodes ≤ 1000000) (hb : Val.nodesL vs ≤ 1000000) (hs : ∀ v ∈ vs, slimV v) (m : Mem) : evCall C0 26 [.agg (sysX f (.isl false vs.length (Val.cellsL vs)))] m = some (.ret (.bool (okS f vs)), m) := by
  rw [evCall_body C0 (C0_ext _ (by decide)) (by rw [C0_P]; exact Tryz.func26) rfl (by rw [C0_ann]; rfl) (by rw [C0_ann]; rfl) (by decide) (by simp [Tryz.f26])]
  have hv := ev_Is f (by omega)
  have hl := Val.length_nodesL vs
  rw [show (decide (0 < leftF f 21) && decide (f.depth ≤ 8) && shapedF f) = isF f from rfl] at hv
  simp at hv
  unfold okS
  rw [← isF_okF]
  cases hc : isF f
  · simp [Tryz.f26, a26, reg26, loop26, hv, hc]
  by_cases h100 : vs.length ≤ 100
  · have hsh := okF_shapedS (by rw [← isF_okF]; exact hc)
    have h100' : ¬ (100 : Int) < vs.length := by omega
    simp [Tryz.f26, a26, reg26, loop26, hv, hc, h100, h100']
    refine loop_in (fun x : Nat × Nat => ⟨[(1, .ptr m.bx.length 0), (3, .int .i64 x.2), (17, (.isl false vs.length (Val.cellsL vs))), (18, .int .i64 vs.length), (19, .int .i64 x.1)], ⟨m.bx ++ [sysX f (.isl false vs.length (Val.cellsL vs))], m.rw⟩⟩)
      (fun x => some (.ret (.bool (okVs f vs.length (vs.drop x.1) && decide (x.2 + Val.nodesL (vs.drop x.1) ≤ 20000))), m)) (fun x => vs.length - x.1) (fun x => x.1 ≤ vs.length ∧ x.2 + Val.nodesL (vs.drop x.1) ≤ 1000000) (0, 0) ?_ ?_ ?_ ?_ ?_
    · simp
    · simp
    · simp; omega
    · intro x; simp [Tryz.f26, a26, reg26, loop26]
    · rintro ⟨i, a⟩ hI hrec
      simp only at hI
      obtain ⟨hi, ha⟩ := hI
      by_cases hlt : i < vs.length
      · have w2 : IntKind.i64.wrap (i + 1) = i + 1 := wrap_id _ (by omega)
        have hmem := List.getElem_mem hlt
        have hnm := Val.nodes_mem hmem
        have he := ev_RIsV f vs.length vs[i] hsh (by omega) (by omega) (by omega) (hs _ hmem)
        have hn := ev_RNodes vs[i].nodes vs[i] (Nat.le_refl _) (by omega)
        simp at he hn
        rw [Val.nodesL_drop hlt] at ha
        have w3 : IntKind.i64.wrap (a + vs[i].nodes) = a + vs[i].nodes := wrap_id _ (by omega)
        have h3 : (i + 1) * 3 ≤ vs.length * 3 := by omega
        have h3' : i * 3 + 3 ≤ vs.length * 3 := by omega
        rw [okVs_drop hlt]
        cases hcv : (chkV exS vs.length vs[i] f 2000).1
        · simp [round, Tryz.f26, a26, reg26, loop26, hlt, w2, w3, h3, h3', he, hn, hcv]
        · simp [round, Tryz.f26, a26, reg26, loop26, hlt, w2, w3, h3, h3', he, hn, hcv]
          refine hrec (i + 1, a + vs[i].nodes) _ _ ?_ ?_ ?_ ?_
          · simp; omega
          · simp; omega
          · simp
          · simp only
            rw [Val.nodesL_drop hlt]
            simp [Nat.add_assoc]
      · clear hrec
        simp [round, Tryz.f26, a26, reg26, loop26, hlt]
        rw [List.drop_eq_nil_of_le (by omega), Val.nodesL]
        simp [okVs]
        omega
  · have h100' : (100 : Int) < vs.length := by omega
    simp [Tryz.f26, a26, reg26, loop26, hv, hc, h100, h100']
theorem sameF_refl (f : Fun) : sameF f f = true := (sameF_iff f f).2 rfl
def fewS (f : Fun) (vs : List Val) (most : Int) : Bool := decide ((vs.length : Int) ≤ most) && decide (0 < leftF f (most + 1)) && (vs.all fun v => fewV v most) && decide ((Val.nodesL vs : Int) ≤ most)
theorem fewL_drop {vs : List Val} {most : Int} {i : Nat} (h : i < vs.length) : ((vs.drop i).all fun v => fewV v most) = (fewV vs[i] most && (vs.drop (i + 1)).all fun v => fewV v most) := by
  rw [List.drop_eq_getElem_cons h, List.all_cons]
set_option maxHeartbeats 1000000 in
theorem ev_SFew (f : Fun) (vs : List Val) (most : Int) (h0 : 0 ≤ most) (h1 : most ≤ 1000000) (m : Mem) : evCall C0 34 [.agg (sysX f (.isl false vs.length (Val.cellsL vs))), .int .i64 most] m = some (.ret (.bool (fewS f vs most)), m) := by
  rw [evCall_body C0 (C0_ext _ (by decide)) (by rw [C0_P]; exact Tryz.func34) rfl (by rw [C0_ann]; rfl) (by rw [C0_ann]; rfl) (by decide) (by simp [Tryz.f34])]
  have hfe := ev_Few f most
  simp at hfe
  have hfe' := fun m => hfe m (by omega) (by omega)
  unfold fewS
  by_cases hl : (vs.length : Int) ≤ most
  case neg =>
    have hl' : most < vs.length := by omega
    simp [Tryz.f34, a34, reg34, loop34, hl, hl']
  have hl' : ¬ most < vs.length := by omega
  by_cases hc : 0 < leftF f (most + 1)
  case neg => simp [Tryz.f34, a34, reg34, loop34, hl, hl', hfe', hc]
  simp [Tryz.f34, a34, reg34, loop34, hl, hl', hfe', hc]
  refine loop_in (fun x : Nat × Nat => ⟨[(1, .int .i64 most), (5, .int .i64 x.2), (21, .isl false vs.length (Val.cellsL vs)), (22, .int .i64 vs.length), (23, .int .i64 x.1)], ⟨m.bx ++ [sysX f (.isl false vs.length (Val.cellsL vs))], m.rw⟩⟩)
    (fun x => some (.ret (.bool (((vs.drop x.1).all fun v => fewV v most) && decide ((x.2 + Val.nodesL (vs.drop x.1) : Nat) ≤ most))), m)) (fun x => vs.length - x.1) (fun x => x.1 ≤ vs.length ∧ (x.2 : Int) ≤ most) (0, 0) ?_ ?_ ?_ ?_ ?_
  · simp
  · simp
  · simp; omega
  · intro x; simp [Tryz.f34, a34, reg34, loop34]
  · rintro ⟨i, a⟩ hI hrec
    simp only at hI
    obtain ⟨hi, ha⟩ := hI
    by_cases hlt : i < vs.length
    · have w2 : IntKind.i64.wrap (i + 1) = i + 1 := wrap_id _ (by omega)
      have he := ev_FewV vs[i] most
      simp at he
      have he' := fun m => he m (by omega) (by omega)
      have h3 : (i + 1) * 3 ≤ vs.length * 3 := by omega
      rw [fewL_drop hlt, Val.nodesL_drop hlt]
      cases hcv : fewV vs[i] most
      · simp [round, Tryz.f34, a34, reg34, loop34, hlt, w2, h3, he', hcv]
      · have hnd := fewV_nodes h0 hcv
        have hn := ev_RNodes vs[i].nodes vs[i] (Nat.le_refl _) (by omega)
        simp at hn
        have w3 : IntKind.i64.wrap (a + vs[i].nodes) = a + vs[i].nodes := wrap_id _ (by omega)
        by_cases hover : most < (a : Int) + vs[i].nodes
        · have hno : ¬ ((a : Int) + (vs[i].nodes + Val.nodesL (vs.drop (i + 1)))) ≤ most := by omega
          simp [round, Tryz.f34, a34, reg34, loop34, hlt, w2, w3, h3, he', hn, hcv, hover, hno]
        · simp [round, Tryz.f34, a34, reg34, loop34, hlt, w2, w3, h3, he', hn, hcv, hover]
          refine hrec (i + 1, a + vs[i].nodes) _ _ ?_ ?_ ?_ ?_
          · simp; omega
          · simp; omega
          · simp
          · simp [Int.add_assoc]
    · clear hrec
      simp [round, Tryz.f34, a34, reg34, loop34, hlt]
      rw [List.drop_eq_nil_of_le (by omega), Val.nodesL]
      simp
      omega
def chkE (f : Fun) (vs : List Val) : Int := if okS f vs then 0 else 30
theorem ev_lfew2 (f g : Fun) (vs ws : List Val) (m : Mem) (fl : Bool) : evCall C0 9 [.isl fl 2 (sysX f (.isl false vs.length (Val.cellsL vs)) ++ sysX g (.isl false ws.length (Val.cellsL ws)))] m = some (.ret (.bool (fewS f vs 1500 && fewS g ws 1500)), m) := by
  rw [evCall_body C0 (C0_ext _ (by decide)) (by rw [C0_P]; exact Tryz.func9) rfl (by rw [C0_ann]; rfl) (by rw [C0_ann]; rfl) (by decide) (by simp [Tryz.f9])]
  have he := ev_SFew f vs 1500 (by omega) (by omega)
  have he2 := ev_SFew g ws 1500 (by omega) (by omega)
  simp at he he2
  have w2 : IntKind.i64.wrap 2 = 2 := wrap_id _ (by omega)
  simp [Tryz.f9, a9, reg9, loop9]
  rw [evCode_loop]
  cases hc : fewS f vs 1500
  · simp [round, Tryz.f9, a9, reg9, loop9, he, hc]
  · simp [round, Tryz.f9, a9, reg9, loop9, he, hc, endRound_M0, endRound_M]
    rw [evCode_loop]
    cases hc2 : fewS g ws 1500
    · simp [round, Tryz.f9, a9, reg9, loop9, he2, hc2]
    · simp [round, Tryz.f9, a9, reg9, loop9, he2, hc2, endRound_M0, endRound_M]
      rw [evCode_loop]
      simp [round, Tryz.f9, a9, reg9, loop9, w2]
theorem ev_fault1 (f : Fun) (vs : List Val) (hf : f.nodes ≤ 1000000) (hb : Val.nodesL vs ≤ 1000000) (hs : ∀ v ∈ vs, slimV v) (m : Mem) (fl : Bool) : evCall C0 12 [.isl fl 1 (sysX f (.isl false vs.length (Val.cellsL vs)))] m = some (.ret (.int .i64 (chkE f vs)), m) := by
  rw [evCall_body C0 (C0_ext _ (by decide)) (by rw [C0_P]; exact Tryz.func12) rfl (by rw [C0_ann]; rfl) (by rw [C0_ann]; rfl) (by decide) (by simp [Tryz.f12])]
  have he := ev_SRIs f vs hf hb hs
  have hsm := ev_RSame f.nodes f f (Nat.le_refl _) (by omega)
  simp at he hsm
  unfold chkE
  simp [Tryz.f12, a12, reg12, loop12, draw12, dok12]
  rw [evCode_loop]
  cases hc : okS f vs
  · simp [round, Tryz.f12, a12, reg12, loop12, draw12, dok12, he, hc]
  · simp [round, Tryz.f12, a12, reg12, loop12, draw12, dok12, he, hc, endRound_M0, endRound_M]
    rw [evCode_loop]
    simp [round, Tryz.f12, a12, reg12, loop12, draw12, dok12]
    rw [evCode_loop]
    simp [round, Tryz.f12, a12, reg12, loop12, draw12, dok12, hsm, sameF_refl, endRound_M0, endRound_M]
    rw [evCode_loop]
    simp [round, Tryz.f12, a12, reg12, loop12, draw12, dok12]
def sameVL : List Val → List Val → Bool
  | [], [] => true
  | f :: r, g :: s => decide (cmpV f g = 0) && sameVL r s
  | _, _ => false
theorem sameVL_ne : ∀ {l r : List Val}, ¬ l.length = r.length → sameVL l r = false
  | [], [], h => absurd rfl h
  | [], _ :: _, _ => rfl
  | _ :: _, [], _ => rfl
  | f :: r, g :: s, h => by rw [sameVL, sameVL_ne (by simpa using h), Bool.and_false]
theorem sameVL_drop {l r : List Val} {i : Nat} (h : i < l.length) (h' : i < r.length) : sameVL (l.drop i) (r.drop i) = (decide (cmpV l[i] r[i] = 0) && sameVL (l.drop (i + 1)) (r.drop (i + 1))) := by
  rw [List.drop_eq_getElem_cons h, List.drop_eq_getElem_cons h', sameVL]
def sameS (f g : Fun) (vs ws : List Val) : Bool := sameF f g && sameVL vs ws
set_option maxHeartbeats 1000000 in
theorem ev_SRSame (f g : Fun) (vs ws : List Val) (hf : f.nodes ≤ 1000000) (hb : Val.nodesL vs ≤ 1000000) (hs : ∀ v ∈ vs, slimV v) (m : Mem) :
    evCall C0 16 [.agg (sysX f (.isl false vs.length (Val.cellsL vs))), .agg (sysX g (.isl false ws.length (Val.cellsL ws)))] m = some (.ret (.bool (sameS f g vs ws)), m) := by
  rw [evCall_body C0 (C0_ext _ (by decide)) (by rw [C0_P]; exact Tryz.func16) rfl (by rw [C0_ann]; rfl) (by rw [C0_ann]; rfl) (by decide) (by simp [Tryz.f16])]
  have h1 := ev_RSame f.nodes f g (Nat.le_refl _) (by omega)
  have hl := Val.length_nodesL vs
  simp at h1
  unfold sameS
  cases hc : sameF f g
  · simp [Tryz.f16, a16, reg16, loop16, draw16, dok16, h1, hc]
  by_cases c1 : vs.length = ws.length
  case neg =>
    have d1 : ¬ (vs.length : Int) = ws.length := by omega
    simp [Tryz.f16, a16, reg16, loop16, draw16, dok16, h1, hc, d1, sameVL_ne c1]
  have d1 : (vs.length : Int) = ws.length := by omega
  simp [Tryz.f16, a16, reg16, loop16, draw16, dok16, h1, hc, eq_true d1]
  refine loop_in (fun i : Nat => ⟨[(2, .ptr m.bx.length 0), (3, .ptr (m.bx.length + 1) 0), (23, .int .i64 vs.length), (24, .int .i64 i)], ⟨m.bx ++ [sysX f (.isl false vs.length (Val.cellsL vs)), sysX g (.isl false ws.length (Val.cellsL ws))], m.rw⟩⟩)
    (fun i => some (.ret (.bool (sameVL (vs.drop i) (ws.drop i))), m)) (fun i => vs.length - i) (fun i => i ≤ vs.length) 0 ?_ ?_ ?_ ?_ ?_
  · simp
  · simp
  · omega
  · intro x; simp [Tryz.f16, a16, reg16, loop16, draw16, dok16]
  · intro i hi hrec
    by_cases hlt : i < vs.length
    · have w2 : IntKind.i64.wrap (i + 1) = i + 1 := wrap_id _ (by omega)
      have hlt' : i < ws.length := by omega
      have hmem := List.getElem_mem hlt
      have he := ev_RSameV vs[i] ws[i] (by have := Val.nodes_mem hmem; omega) (hs _ hmem)
      simp at he
      have h3 : (i + 1) * 3 ≤ vs.length * 3 := by omega
      have h3' : (i + 1) * 3 ≤ ws.length * 3 := by omega
      rw [sameVL_drop hlt hlt']
      by_cases hc : cmpV vs[i] ws[i] = 0
      · simp [hc] at he
        simp [round, Tryz.f16, a16, reg16, loop16, draw16, dok16, hlt, hlt', w2, h3, h3', he, hc]
        refine hrec (i + 1) _ _ ?_ ?_ ?_ ?_
        · omega
        · omega
        · simp
        · simp
      · simp [hc] at he
        simp [round, Tryz.f16, a16, reg16, loop16, draw16, dok16, hlt, hlt', w2, h3, h3', he, hc]
    · clear hrec
      simp [round, Tryz.f16, a16, reg16, loop16, draw16, dok16, hlt]
      rw [List.drop_eq_nil_of_le (by omega), List.drop_eq_nil_of_le (by omega), sameVL]
set_option maxHeartbeats 2000000 in
theorem ev_SCopyK (f : Fun) (vs : List Val) (hf : f.nodes ≤ 1000000) (hb : Val.nodesL vs ≤ 1000000) (hs : ∀ v ∈ vs, slimV v) (m : Mem) : evCall C0 23 [.agg (sysX f (.isl false vs.length (Val.cellsL vs)))] m = some (.ret (.agg (sysX f (xA m.rw.length vs))), ⟨m.bx, m.rw ++ xR vs⟩) := by
  rw [evCall_body C0 (C0_ext _ (by decide)) (by rw [C0_P]; exact Tryz.func23) rfl (by rw [C0_ann]; rfl) (by rw [C0_ann]; rfl) (by decide) (by simp [Tryz.f23])]
  have hlen := Val.length_nodesL vs
  have hcf := ev_Copy f.nodes f (Nat.le_refl _) (by omega)
  simp at hcf
  simp [Tryz.f23, a23, reg23, loop23, draw23, dok23, hcf]
  by_cases h0 : 0 < vs.length
  case neg =>
    have : vs = [] := List.eq_nil_of_length_eq_zero (by omega)
    subst this
    have hk : ∀ b, leave Tryz.prog true m (.ret (.agg (sysX f .nils))) ⟨m.bx ++ b, m.rw⟩ = some (.ret (.agg (sysX f .nils)), m) := fun b => leave_keep0 _ m b m.rw _ (RowsOk.refl _ _) (by simp [Res.val, sysX])
    simp [sysX] at hk
    rw [evCode_loop]
    simp [round, Tryz.f23, a23, reg23, loop23, draw23, dok23, hk, xA, xR, sysX]
  have hne : vs ≠ [] := by rintro rfl; simp at h0
  have hm0 := List.getElem_mem h0
  have he0 := ev_VCopy vs[0].nodes vs[0] (Nat.le_refl _) (by have := Val.nodes_mem hm0; omega) (hs _ hm0)
  simp at he0
  rw [evCode_loop]
  have h3 : 3 ≤ vs.length * 3 := by omega
  have g3 := Val.at_cellsL vs 0 h0
  simp at g3
  simp [round, Tryz.f23, a23, reg23, loop23, draw23, dok23, h0, he0, h3, g3, endRound_R0]
  refine loop_in (fun i : Nat => ⟨[(2, .ptr (m.bx.length + 1) 0), (3, .ptr (m.bx.length + 2) 0), (11, .isl false vs.length (Val.cellsL vs)), (12, .int .i64 vs.length), (13, .int .i64 i)],
    ⟨m.bx ++ [sysX f (.isl false vs.length (Val.cellsL vs)), [.int .i64 0, .int .i64 0, .nils, .nils], sysX f (.sl (m.rw.length + 0) (i * 3) 0 i)], m.rw ++ [⟨47, Val.cellsL (vs.take i)⟩]⟩⟩)
    (fun i => some (.ret (.agg (sysX f (xA m.rw.length vs))), ⟨m.bx, m.rw ++ xR vs⟩)) (fun i => vs.length - i) (fun i => 0 < i ∧ i ≤ vs.length) 1 ?_ ?_ ?_ ?_ ?_
  · have : vs.take 1 = [vs[0]] := by rw [List.take_succ_eq_append_getElem h0]; simp
    simp [this, Val.cellsL]
  · simp
  · omega
  · intro x; simp [Tryz.f23, a23, reg23, loop23, draw23, dok23]
  · rintro i ⟨hi0, hi⟩ hrec
    have hmin : min i vs.length = i := by omega
    by_cases hlt : i < vs.length
    · have w2 : IntKind.i64.wrap (i + 1) = i + 1 := wrap_id _ (by omega)
      have hmem := List.getElem_mem hlt
      have he := ev_VCopy vs[i].nodes vs[i] (Nat.le_refl _) (by have := Val.nodes_mem hmem; omega) (hs _ hmem)
      simp at he
      have h3 : (i + 1) * 3 ≤ vs.length * 3 := by omega
      have h4 : (i + 1) * 56 ≤ 70368744177664 := by omega
      have h5 : i + 1 ≤ 70368744177664 := by omega
      simp [round, Tryz.f23, a23, reg23, loop23, draw23, dok23, hlt, w2, h3, h4, h5, he, hmin, endRound_R]
      refine hrec (i + 1) _ _ ?_ ?_ ?_ ?_
      · omega
      · omega
      · simp [Val.cellsL_snoc hlt]
      · simp
    · clear hrec
      have : vs.take i = vs := List.take_of_length_le (by omega)
      have hl : i = vs.length := by omega
      subst hl
      have hk : ∀ b, leave Tryz.prog true m (.ret (.agg (sysX f (.sl m.rw.length (vs.length * 3) 0 vs.length)))) ⟨m.bx ++ b, m.rw ++ [⟨47, Val.cellsL vs⟩]⟩ = some (.ret (.agg (sysX f (.sl m.rw.length (vs.length * 3) 0 vs.length))), ⟨m.bx, m.rw ++ [⟨47, Val.cellsL vs⟩]⟩) := fun b => leave_keep0 _ m b _ _ (RowsOk.more (by simp)) (by simp [Res.val, sysX])
      simp [sysX] at hk
      simp [round, Tryz.f23, a23, reg23, loop23, draw23, dok23, this, hk, xA, xR, hne, sysX]
theorem fewS_spec {f : Fun} {vs : List Val} (h : fewS f vs 1500 = true) : f.nodes ≤ 1500 ∧ vs.length ≤ 1500 ∧ Val.nodesL vs ≤ 1500 ∧ ∀ v ∈ vs, fewV v 1500 = true := by
  unfold fewS at h
  simp only [Bool.and_eq_true, decide_eq_true_eq] at h
  obtain ⟨⟨⟨h1, h2⟩, h3⟩, h4⟩ := h
  rw [leftF_nodes f _ (by omega)] at h2
  exact ⟨by omega, by omega, by omega, fun v hv => List.all_eq_true.1 h3 v hv⟩
theorem sameVL_refl : ∀ vs : List Val, sameVL vs vs = true
  | [] => rfl
  | v :: r => by rw [sameVL, sameVL_refl r, (show cmpV v v = 0 from (cmpV_zero v v).2 rfl)]; rfl
theorem sameS_refl (f : Fun) (vs : List Val) : sameS f f vs vs = true := by rw [sameS, sameF_refl, sameVL_refl]; rfl
theorem nodesL_bound {k : Nat} : ∀ {bs : List Val}, (∀ v ∈ bs, v.nodes ≤ k) → Val.nodesL bs ≤ bs.length * k
  | [], _ => by rw [Val.nodesL]; omega
  | v :: r, h => by
    rw [Val.nodesL, List.length_cons, Nat.add_mul]
    have h1 := h v (List.mem_cons_self ..)
    have h2 := nodesL_bound fun u hu => h u (List.mem_cons_of_mem _ hu)
    omega
theorem few_slimS {vs : List Val} (h : ∀ v ∈ vs, fewV v 1500 = true) : ∀ v ∈ vs, slimV v := fun v hv => by
  have := h v hv
  unfold fewV at this
  rw [Bool.and_eq_true] at this
  exact light_slim (by omega) v this.2
theorem perm_sum {l r : List Int} (h : l.Perm r) : l.sum = r.sum := by
  induction h with
  | nil => rfl
  | cons x _ ih => simp [ih]
  | swap x y l => simp only [List.sum_cons]; omega
  | trans _ _ ih1 ih2 => rw [ih1, ih2]
theorem insP_len (u : Val) (w : Int) : ∀ o : List (Val × Int), (insP u w o).length ≤ o.length + 1
  | [] => by rw [insP]; simp
  | p :: r => by
    have := insP_len u w r
    rw [insP]
    split
    · simp
    · split
      · simp
      · simp; omega
def elA (n : Nat) (ps : List (Val × Int)) : A := if ps.length = 0 then .nils else .sl n (ps.length * 4) 0 ps.length
def elR (ps : List (Val × Int)) : List Row := if ps.length = 0 then [] else [⟨196, elemsC ps⟩]
theorem ev_vMerged0 (f : Fun) (hk : setsK f.kind = true) (h7 : f.kind ≠ 7) (m : Mem) : evCall C0 129 [.agg f.cells, .agg [.int .i64 0, .nils, .isl false 0 []]] m = some (.ret (.agg (Val.mk 0 [] []).cells), m) := by
  rw [evCall_body C0 (C0_ext _ (by decide)) (by rw [C0_P]; exact Tryz.func129) rfl (by rw [C0_ann]; rfl) (by rw [C0_ann]; rfl) (by decide) (by simp [Tryz.f129])]
  simp [Tryz.f129, a129, reg129, loop129, draw129, dok129]
  rw [evCode_loop]
  simp [round, Tryz.f129, a129, reg129, loop129, draw129, dok129, ev_SortFunc, sortFG_nil]
  rw [evCode_loop]
  simp [round, Tryz.f129, a129, reg129, loop129, draw129, dok129, h7]
set_option maxHeartbeats 8000000 in
theorem ev_vMerged (f : Fun) (xs : List Val) (ws : List Int) (ia : Nat) (hx0 : 0 < xs.length) (hk : setsK f.kind = true) (hb : ∀ x, x ∈ xs → x.nodes ≤ 1000000 ∧ slimV x) (hl : xs.length ≤ 1000000) (hw : wtd f.kind = true → ws.length = xs.length ∧ (∀ w, w ∈ ws → 1 ≤ w) ∧ ws.sum ≤ 1048576) (m : Mem) (hRa : m.rw[ia]? = some ⟨47, Val.cellsL xs⟩) :
    evCall C0 129 [.agg f.cells, .agg [.int .i64 0, .sl ia (xs.length * 3) 0 xs.length, .isl false ws.length (ints ws)]] m = some (.ret (.agg (mergeV f.kind 0 xs ws).cells), m) := by
  have hia : ia < m.rw.length := (List.getElem?_eq_some_iff.1 hRa).1
  have hia2 : ∀ x, ia < m.rw.length + x := fun x => by omega
  have hRa2 := (List.getElem?_eq_some_iff.1 hRa).2
  have hwl : (wsOf f.kind xs ws).length = xs.length := by
    unfold wsOf
    cases hwk : wtd f.kind
    · simp
    · simpa using (hw hwk).1
  have hk5 : wtd f.kind = false → f.kind = 5 := fun h => by
    unfold setsK at hk
    rw [h, Bool.or_false] at hk
    simpa using hk
  have hk5' : wtd f.kind = true → ¬ f.kind = 5 := fun h h5 => by rw [h5] at h; exact absurd h (by decide)
  generalize hps : xs.zip (wsOf f.kind xs ws) = ps
  have hpl : ps.length = xs.length := by rw [← hps, List.length_zip]; omega
  have hpf : ps.map (·.1) = xs := by rw [← hps]; exact List.map_fst_zip (by omega)
  have hsnd : ps.map (·.2) = wsOf f.kind xs ws := by rw [← hps]; exact List.map_snd_zip (by omega)
  have hmem : ∀ p, p ∈ ps → p.1.nodes ≤ 1000000000 ∧ slimV p.1 := fun p hp => by
    have h1 : p.1 ∈ xs := by rw [← hpf]; exact List.mem_map_of_mem hp
    exact ⟨by have := (hb _ h1).1; omega, (hb _ h1).2⟩
  have hsort : ∀ bx, evCall C0 167 [.sl m.rw.length (ps.length * 4) 0 ps.length, .fn 168 []] ⟨bx, m.rw ++ [⟨196, elemsC ps⟩]⟩ = some (.ret (.tup []), ⟨bx, m.rw ++ [⟨196, elemsC (sortP ps)⟩]⟩) := fun bx => by
    rw [ev_SortFunc, sortFG_row (ps := ps) (t := 196) (by simp) rfl rfl (by omega) (by omega) hmem]
    simp
  rw [evCall_body C0 (C0_ext _ (by decide)) (by rw [C0_P]; exact Tryz.func129) rfl (by rw [C0_ann]; rfl) (by rw [C0_ann]; rfl) (by decide) (by simp [Tryz.f129])]
  simp [Tryz.f129, a129, reg129, loop129, draw129, dok129, at_lt, hia, hia2, hRa2]
  refine loop_in (fun x : Nat × List (Val × Int) => ⟨[(2, .ptr m.bx.length 0), (3, .ptr (m.bx.length + 1) 0), (4, .ptr (m.bx.length + 2) 0), (5, elA m.rw.length x.2), (16, .sl ia (xs.length * 3) 0 xs.length), (17, .int .i64 xs.length), (18, .int .i64 x.1)],
      ⟨m.bx ++ [f.cells, [.int .i64 0, .sl ia (xs.length * 3) 0 xs.length, .isl false ws.length (ints ws)], [.int .i64 0, .nils, .nils]], m.rw ++ elR x.2⟩⟩)
    (fun x => some (.ret (.agg (mergeV f.kind 0 xs ws).cells), m)) (fun x => xs.length - x.1)
    (fun x => x.1 ≤ xs.length ∧ x.2 = ps.take x.1) (0, []) ?_ ?_ ?_ ?_ ?_
  · simp [elA, elR]
  · simp
  · simp
  · intro x; simp [Tryz.f129, a129, reg129, loop129, draw129, dok129]
  · rintro ⟨i, o⟩ ⟨hi, ho⟩ hrec
    simp only at hi ho ⊢
    by_cases hlt : i < xs.length
    · have w2 : IntKind.i64.wrap (i + 1) = i + 1 := wrap_id _ (by omega)
      have h3 : (i + 1) * 3 ≤ xs.length * 3 := by omega
      have h3' : i * 3 + 3 ≤ xs.length * 3 := by omega
      have hip : i < ps.length := by omega
      have hol : o.length = i := by rw [ho, List.length_take]; omega
      have hp1 : ps[i].1 = xs[i] := by simp only [← hpf, List.getElem_map]
      have hnx : ps.take (i + 1) = o ++ [ps[i]] := by rw [ho, List.take_succ_eq_append_getElem hip]
      have hec := elemC_eq ps[i]
      rw [hp1] at hec
      have hp2 : ps[i].2 = (wsOf f.kind xs ws)[i]'(by omega) := by simp only [← hsnd, List.getElem_map]
      have helc := elemsC_closed
      have helf := elemsC_flat
      have hes1 : (o.length + 1) * 64 ≤ 70368744177664 := by omega
      have hes2 : o.length ≤ 70368744177663 := by omega
      have hes3 := elemsC_length o
      cases hwk : wtd f.kind
      · have h5 := hk5 hwk
        have hz : ps[i].2 = 0 := by rw [hp2]; simp [wsOf, hwk]
        rw [hz] at hec
        by_cases ho0 : o.length = 0
        · have hoe : o = [] := List.eq_nil_of_length_eq_zero ho0
          simp [round, Tryz.f129, a129, reg129, loop129, draw129, dok129, at_lt, hia, hia2, hRa2, hlt, w2, h3, h3', h5, elA, elR, hoe, app_at, app_set, app_at0, app_set0, endRound_R0, helc]
          refine hrec (i + 1, [ps[i]]) _ _ ?_ ?_ ?_ ?_
          · simp; omega
          · exact ⟨by simp only; omega, by rw [hnx, hoe]; rfl⟩
          · simp [elA, elR, elemsC_one, hec, h5]
          · simp [h5]
        · have hoz : ¬ o = [] := fun h => ho0 (by rw [h]; rfl)
          simp [round, Tryz.f129, a129, reg129, loop129, draw129, dok129, at_lt, hia, hia2, hRa2, hlt, w2, h3, h3', h5, elA, elR, ho0, hoz, app_at, app_set, app_at0, app_set0, endRound_J, helc, hes1, hes2, hes3]
          refine hrec (i + 1, o ++ [ps[i]]) _ _ ?_ ?_ ?_ ?_
          · simp; omega
          · exact ⟨by simp only; omega, by rw [hnx]⟩
          · simp [elA, elR, elemsC_append, elemsC_one, hec, h5]
          · simp [h5]
      · have h5 := hk5' hwk
        have hiw : i < ws.length := by have := (hw hwk).1; omega
        have hz : ps[i].2 = ws[i] := by rw [hp2]; simp [wsOf, hwk]
        rw [hz] at hec
        have hat := ints_at hiw
        by_cases ho0 : o.length = 0
        · have hoe : o = [] := List.eq_nil_of_length_eq_zero ho0
          simp [round, Tryz.f129, a129, reg129, loop129, draw129, dok129, at_lt, hia, hia2, hRa2, hlt, w2, h3, h3', h5, elA, elR, hoe, app_at, app_set, app_at0, app_set0, endRound_R0, helc, hat, hiw, show i + 1 ≤ ws.length by omega]
          refine hrec (i + 1, [ps[i]]) _ _ ?_ ?_ ?_ ?_
          · simp; omega
          · exact ⟨by simp only; omega, by rw [hnx, hoe]; rfl⟩
          · simp [elA, elR, elemsC_one, hec]
          · simp
        · have hoz : ¬ o = [] := fun h => ho0 (by rw [h]; rfl)
          simp [round, Tryz.f129, a129, reg129, loop129, draw129, dok129, at_lt, hia, hia2, hRa2, hlt, w2, h3, h3', h5, elA, elR, ho0, hoz, app_at, app_set, app_at0, app_set0, endRound_J, helc, hes1, hes2, hes3, hat, hiw, show i + 1 ≤ ws.length by omega]
          refine hrec (i + 1, o ++ [ps[i]]) _ _ ?_ ?_ ?_ ?_
          · simp; omega
          · exact ⟨by simp only; omega, by rw [hnx]⟩
          · simp [elA, elR, elemsC_append, elemsC_one, hec]
          · simp
    · clear hrec
      have hie : i = xs.length := by omega
      subst hie
      have hoe : o = ps := by rw [ho, List.take_of_length_le (by omega)]
      rw [hoe]
      clear ho hoe o
      have hpe : ¬ ps.length = 0 := by omega
      have hpe' : ¬ ps = [] := fun h => hpe (by rw [h]; rfl)
      have hql := sortP_length ps
      have hqs := sortP_sorted ps
      have hqp := sortP_perm ps
      have hqn : ∀ p, p ∈ sortP ps → p.1.nodes ≤ 1000000000 ∧ slimV p.1 := fun p hp => hmem p (hqp.mem_iff.1 hp)
      have hmq : mergeF [] (sortP ps) = mergeP f.kind xs ws := by rw [merge_perm hqp, ← hps]; rfl
      have hqw : wtd f.kind = true → (∀ p, p ∈ sortP ps → 1 ≤ p.2) ∧ ((sortP ps).map (·.2)).sum ≤ 1048576 := fun h => by
        have hz : wsOf f.kind xs ws = ws := by unfold wsOf; rw [h, if_pos rfl]
        obtain ⟨h1, h2, h3⟩ := hw h
        refine ⟨fun p hp => h2 _ ?_, ?_⟩
        · rw [← hz, ← hsnd]
          exact List.mem_map_of_mem (hqp.mem_iff.1 hp)
        · have h4 : ((sortP ps).map (·.2)).sum = (ps.map (·.2)).sum := perm_sum (hqp.map _)
          rw [h4, hsnd, hz]
          exact h3
      have hqz : wtd f.kind = false → ∀ p, p ∈ sortP ps → p.2 = 0 := fun h p hp => by
        have h1 : p.2 ∈ ps.map (·.2) := List.mem_map_of_mem (hqp.mem_iff.1 hp)
        rw [hsnd] at h1
        unfold wsOf at h1
        rw [h] at h1
        simp at h1
        exact h1.2.symm
      simp [round, Tryz.f129, a129, reg129, loop129, draw129, dok129, elA, elR, hpe, hpe', hsort]
      clear hsort
      generalize sortP ps = qs at *
      refine loop_in (fun s : MgS => ⟨[(2, .ptr m.bx.length 0), (4, .ptr (m.bx.length + 2) 0), (9, .ptr (m.bx.length + 3) 0), (40, .sl m.rw.length (ps.length * 4) 0 ps.length), (41, .int .i64 ps.length), (42, .int .i64 s.i)],
          ⟨m.bx ++ [f.cells, [.int .i64 0, .sl ia (xs.length * 3) 0 xs.length, .isl false ws.length (ints ws)], [.int .i64 0, .nils, .nils], [.int .i64 0, mgA (m.rw.length + s.ja) s.o, mgW f.kind (m.rw.length + s.jw) s.o]], m.rw ++ s.J⟩⟩)
        (fun s => some (.ret (.agg (mergeV f.kind 0 xs ws).cells), m)) (fun s => ps.length - s.i)
        (fun s => s.i ≤ ps.length ∧ s.o.length ≤ s.i ∧ (0 < s.i → 0 < s.o.length) ∧ mergeF s.o (qs.drop s.i) = mergeF [] qs ∧ s.o.Pairwise LtP ∧ (∀ p, p ∈ s.o → ∀ q, q ∈ qs.drop s.i → cmpV p.1 q.1 ≤ 0) ∧ (∀ p, p ∈ s.o → p.1.nodes ≤ 1000000000 ∧ slimV p.1) ∧ MgOk f.kind m.rw.length s ∧ s.J[0]? = some ⟨196, elemsC qs⟩ ∧ (0 < s.o.length → 0 < s.ja) ∧ (0 < s.o.length → wtd f.kind = true → 0 < s.jw))
        ⟨0, [], [⟨196, elemsC qs⟩], 0, 0⟩ ?_ ?_ ?_ ?_ ?_
      · simp [mgA, mgW]
      · simp
      · refine ⟨by simp, by simp, by simp, rfl, List.Pairwise.nil, fun p hp => (by cases hp), fun p hp => (by cases hp), ⟨by simp [elemsC_closed], fun h => by simp at h, fun h => by simp at h, fun _ p hp => by cases hp⟩, rfl, fun h => by simp at h, fun h => by simp at h⟩
      · intro x; simp [Tryz.f129, a129, reg129, loop129, draw129, dok129]
      · rintro ⟨i, o, J, ja, jw⟩ ⟨hi, hol, hi0, hmg, hos, hle, hsm, ⟨hcl, hra, hrw, hps1⟩, hJ0, hja0, hjw0⟩ hrec
        simp only at hi hol hi0 hmg hos hle hsm hcl hra hrw hps1 hJ0 hja0 hjw0 ⊢
        have hJp : 0 < J.length := (List.getElem?_eq_some_iff.1 hJ0).1
        have hJ2 := (List.getElem?_eq_some_iff.1 hJ0).2
        by_cases hlt : i < ps.length
        · have w2 : IntKind.i64.wrap (i + 1) = i + 1 := wrap_id _ (by omega)
          have hiq : i < qs.length := by omega
          have h4 : (i + 1) * 4 ≤ ps.length * 4 := by omega
          have h4' : i * 4 + 4 ≤ ps.length * 4 := by omega
          have hat4 := at_elemsC qs i hiq
          have hqi := hqn _ (List.getElem_mem hiq)
          have hdr : qs.drop i = qs[i] :: qs.drop (i + 1) := List.drop_eq_getElem_cons hiq
          have hmg2 : mergeF (insP qs[i].1 qs[i].2 o) (qs.drop (i + 1)) = mergeF [] qs := by rw [← hmg, hdr]; rfl
          have hos2 := insP_sorted (u := qs[i].1) (w := qs[i].2) hos
          have hle2 : ∀ p, p ∈ o → cmpV p.1 qs[i].1 ≤ 0 := fun p hp => hle p hp _ (by rw [hdr]; exact List.mem_cons_self)
          have hnext : ∀ q, q ∈ qs.drop (i + 1) → cmpV qs[i].1 q.1 ≤ 0 := by
            have h1 := hqs.sublist (List.drop_sublist i qs)
            rw [hdr, List.pairwise_cons] at h1
            exact h1.1
          have hle3 : ∀ p, p ∈ insP qs[i].1 qs[i].2 o → ∀ q, q ∈ qs.drop (i + 1) → cmpV p.1 q.1 ≤ 0 := fun p hp q hq => by
            rcases insP_fst hp with h1 | ⟨r, hr, h1⟩
            · rw [h1]; exact hnext q hq
            · rw [h1]; exact hle r hr q (by rw [hdr]; exact List.mem_cons_of_mem _ hq)
          have hsm2 : ∀ p, p ∈ insP qs[i].1 qs[i].2 o → p.1.nodes ≤ 1000000000 ∧ slimV p.1 := fun p hp => by
            rcases insP_fst hp with h1 | ⟨r, hr, h1⟩
            · rw [h1]; exact hqi
            · rw [h1]; exact hsm r hr
          have hps2 : wtd f.kind = true → ∀ p, p ∈ insP qs[i].1 qs[i].2 o → 1 ≤ p.2 := fun h => insP_pos ((hqw h).1 _ (List.getElem_mem hiq)) (hps1 h)
          have hec := elemC_eq qs[i]
          have hw5 : wtd 5 = false := rfl
          have hine := insP_ne qs[i].1 qs[i].2 o
          have hine1 : 0 < (insP qs[i].1 qs[i].2 o).length := List.length_pos_iff.2 hine
          have hinl := insP_len qs[i].1 qs[i].2 o
          have hql4 := elemsC_length qs
          have hcle : ∀ nb nr, (elemC qs[i]).all (closed nb nr) = true := fun nb nr => by have := elemsC_closed nb nr [qs[i]]; rwa [elemsC_one] at this
          rw [hec] at hcle
          have hI : ∀ (J' : List Row) (ja' jw' : Nat), J'.all (fun r => r.cs.all (closed 0 0)) = true → J'[ja']? = some ⟨47, Val.cellsL ((insP qs[i].1 qs[i].2 o).map (·.1))⟩ → (wtd f.kind = true → J'[jw']? = some ⟨3, ints ((insP qs[i].1 qs[i].2 o).map (·.2))⟩ ∧ ja' ≠ jw') → J'[0]? = some ⟨196, elemsC qs⟩ → 0 < ja' → (wtd f.kind = true → 0 < jw') →
              (i + 1 ≤ ps.length ∧ (insP qs[i].1 qs[i].2 o).length ≤ i + 1 ∧ (0 < i + 1 → 0 < (insP qs[i].1 qs[i].2 o).length) ∧ mergeF (insP qs[i].1 qs[i].2 o) (qs.drop (i + 1)) = mergeF [] qs ∧ (insP qs[i].1 qs[i].2 o).Pairwise LtP ∧ (∀ p, p ∈ insP qs[i].1 qs[i].2 o → ∀ q, q ∈ qs.drop (i + 1) → cmpV p.1 q.1 ≤ 0) ∧ (∀ p, p ∈ insP qs[i].1 qs[i].2 o → p.1.nodes ≤ 1000000000 ∧ slimV p.1) ∧ MgOk f.kind m.rw.length ⟨i + 1, insP qs[i].1 qs[i].2 o, J', ja', jw'⟩ ∧ J'[0]? = some ⟨196, elemsC qs⟩ ∧ (0 < (insP qs[i].1 qs[i].2 o).length → 0 < ja') ∧ (0 < (insP qs[i].1 qs[i].2 o).length → wtd f.kind = true → 0 < jw')) :=
            fun J' ja' jw' g1 g2 g3 g4 g5 g6 => ⟨by omega, by omega, fun _ => hine1, hmg2, hos2, hle3, hsm2, ⟨g1, fun _ => g2, fun _ h => g3 h, hps2⟩, g4, fun _ => g5, fun _ h => g6 h⟩
          have hsb : wtd f.kind = true → (o.map (·.2)).sum + qs[i].2 ≤ 1048576 := fun h => by
            have e := congrArg (fun l : List (Val × Int) => (l.map (·.2)).sum) hmg
            rw [mergeF_sum, mergeF_sum, hdr, List.map_cons, List.sum_cons] at e
            have h1 := sum_pos fun q (hq : q ∈ qs.drop (i + 1)) => (hqw h).1 q (List.mem_of_mem_drop hq)
            have h2 := (hqw h).2
            try simp at e
            try simp at h1
            omega
          clear hle hle3 hsm2 hps2 hnext hmg hmg2 hos2
          generalize hO : insP qs[i].1 qs[i].2 o = O at *
          by_cases hi00 : i = 0
          · subst hi00
            have hat0 := hat4
            simp only [Nat.zero_mul, List.drop_zero] at hat0
            rw [hec] at hat0
            have h40 : 4 ≤ ps.length * 4 := by omega
            have hoe : o = [] := List.eq_nil_of_length_eq_zero (by omega)
            subst hoe
            have hO1 : O = [(qs[0].1, qs[0].2)] := by rw [← hO, insP]
            cases hwk : wtd f.kind
            · have h5 := hk5 hwk
              simp [round, Tryz.f129, a129, reg129, loop129, draw129, dok129, hia2, hlt, w2, app_at0, hJp, hJ2, hql, hql4, h4, h4', h40, hat0, hat4, hec, mgA, mgW, hwk, h5, endRound_J, hcl]
              refine hrec ⟨1, O, J ++ [⟨47, Val.cellsL (O.map (·.1))⟩], J.length, 0⟩ _ _ ?_ ?_ ?_ ?_
              · simp; omega
              · exact hI _ _ _ (by simp [hcl]) (by simp) (fun h => absurd h (by simp [hwk])) (by rw [List.getElem?_append_left hJp]; exact hJ0) hJp (fun h => absurd h (by simp [hwk]))
              · simp [mgA, mgW, hwk, h5, hw5, hO1, Val.cellsL]
              · simp [h5]
            · have h5 := hk5' hwk
              simp [round, Tryz.f129, a129, reg129, loop129, draw129, dok129, hia2, hlt, w2, app_at0, hJp, hJ2, hql, hql4, h4, h4', h40, hat0, hat4, hec, mgA, mgW, hwk, h5, endRound_J, hcl]
              refine hrec ⟨1, O, J ++ [⟨47, Val.cellsL (O.map (·.1))⟩, ⟨3, ints (O.map (·.2))⟩], J.length, J.length + 1⟩ _ _ ?_ ?_ ?_ ?_
              · simp; omega
              · exact hI _ _ _ (by simp [hcl]) (by simp) (fun h => ⟨by simp, by omega⟩) (by rw [List.getElem?_append_left hJp]; exact hJ0) hJp (fun h => by omega)
              · simp [mgA, mgW, hwk, h5, hO1, Val.cellsL, ints]
              · simp
          · have ho1 : 0 < o.length := hi0 (by omega)
            have htop := insP_top (w := qs[i].2) hos hle2 ho1
            rw [hO] at htop
            obtain ⟨k, hlk⟩ : ∃ k, o.length = k + 1 := ⟨o.length - 1, by omega⟩
            have hko : k < o.length := by omega
            simp only [hlk, Nat.add_sub_cancel] at htop
            have ho0 : ¬ o = [] := fun h => by rw [h] at ho1; simp at ho1
            have w4 : IntKind.i64.wrap (k : Int) = k := wrap_id _ (by omega)
            have hJa := hra ho1
            have hja : ja < J.length := (List.getElem?_eq_some_iff.1 hJa).1
            have hJa2 := (List.getElem?_eq_some_iff.1 hJa).2
            have hsk := hsm _ (List.getElem_mem hko)
            have he := ev_vSame o[k].1 qs[i].1 hsk.1 hsk.2
            simp at he
            have hatk := Val.at_cellsL (o.map (·.1)) k (by simpa using hko)
            simp at hatk
            have hi01 : 0 < i := by omega
            have hk3 : k * 3 + 3 ≤ (k + 1) * 3 := by omega
            by_cases hc : cmpV o[k].1 qs[i].1 = 0
            · simp [hc] at he
              rw [if_pos hc] at htop
              have hfst : O.map (·.1) = o.map (·.1) := by
                rw [htop, List.map_set]
                exact List.ext_getElem (by simp) fun n h1 h2 => by
                  rw [List.getElem_set]
                  split
                  · rename_i h; subst h; simp
                  · rfl
              have hil : O.length = o.length := by rw [htop]; simp
              cases hwk : wtd f.kind
              · have h5 := hk5 hwk
                simp [round, Tryz.f129, a129, reg129, loop129, draw129, dok129, hia2, hlt, w2, w4, app_at0, app_at, app_set, hJp, hJ2, hja, hJa2, hql, hql4, h4, h4', hat4, hec, mgA, mgW, hwk, h5, hw5, hlk, ho0, hi01, hi00, hatk, hk3, he, hc, endRound_J, hcl, all_set, show (k : Int) < (k : Int) + 1 by omega]
                refine hrec ⟨i + 1, O, J, ja, jw⟩ _ _ ?_ ?_ ?_ ?_
                · simp; omega
                · exact hI _ _ _ hcl (by rw [hfst]; exact hJa) (fun h => absurd h (by simp [hwk])) hJ0 (hja0 ho1) (fun h => absurd h (by simp [hwk]))
                · simp [mgA, mgW, hwk, h5, hw5, hil, hlk, hine, ho0]
                · simp [h5]
              · have h5 := hk5' hwk
                obtain ⟨hJw, hne⟩ := hrw ho1 hwk
                have hjw : jw < J.length := (List.getElem?_eq_some_iff.1 hJw).1
                have hJw2 := (List.getElem?_eq_some_iff.1 hJw).2
                have hat2 : ((ints (o.map (·.2))).drop k).take 1 = [.int .i64 o[k].2] := by
                  have := ints_at (ks := o.map (·.2)) (i := k) (by simpa using hko)
                  simpa using this
                have hwp := hps1 hwk
                have hsum := mem_sum hwp (List.getElem_mem hko)
                have hp1 := hwp _ (List.getElem_mem hko)
                have hq1 := (hqw hwk).1 _ (List.getElem_mem hiq)
                have w3 : IntKind.i64.wrap (o[k].2 + qs[i].2) = o[k].2 + qs[i].2 := wrap_id _ (by have := hsb hwk; omega)
                have hset : List.take k (ints (o.map (·.2))) ++ A.int .i64 (o[k].2 + qs[i].2) :: List.drop (k + 1) (ints (o.map (·.2))) = ints (O.map (·.2)) := by
                  rw [htop, List.map_set, List.set_eq_take_append_cons_drop, if_pos (by simpa using hko)]
                  simp [ints]
                simp [round, Tryz.f129, a129, reg129, loop129, draw129, dok129, hia2, hlt, w2, w4, app_at0, app_at, app_set, hJp, hJ2, hja, hJa2, hql, hql4, h4, h4', hat4, hec, mgA, mgW, hwk, h5, hw5, hlk, ho0, hi01, hi00, hatk, hk3, he, hc, endRound_J, hcl, all_set, show (k : Int) < (k : Int) + 1 by omega, hjw, hJw2, hat2, w3, hset]
                refine hrec ⟨i + 1, O, J.set jw ⟨3, ints (O.map (·.2))⟩, ja, jw⟩ _ _ ?_ ?_ ?_ ?_
                · simp; omega
                · exact hI _ _ _ (by simp [all_set, hcl]) (by rw [List.getElem?_set_ne (Ne.symm hne), hfst]; exact hJa) (fun _ => ⟨by simp [hjw], hne⟩) (by rw [List.getElem?_set_ne (by have := hjw0 ho1 hwk; omega)]; exact hJ0) (hja0 ho1) (fun h => hjw0 ho1 h)
                · simp [mgA, mgW, hwk, h5, hil, hlk, hine, ho0]
                · simp
            · simp [hc] at he
              rw [if_neg hc] at htop
              have hil : O.length = k + 1 + 1 := by rw [htop]; simp [hlk]
              have hcl3 : Val.cellsL (o.map (·.1)) ++ qs[i].1.cells = Val.cellsL (O.map (·.1)) := by rw [htop, List.map_append, Val.cellsL_append]; simp [Val.cellsL]
              simp only [Val.cells_eq] at hcl3
              cases hwk : wtd f.kind
              · have h5 := hk5 hwk
                simp [round, Tryz.f129, a129, reg129, loop129, draw129, dok129, hia2, hlt, w2, w4, app_at0, app_at, app_set, hJp, hJ2, hja, hJa2, hql, hql4, h4, h4', hat4, hec, mgA, mgW, hwk, h5, hw5, hlk, ho0, hi01, hi00, hatk, hk3, he, hc, endRound_J, hcl, all_set, show (k : Int) < (k : Int) + 1 by omega, hcl3, show (k + 1 + 1) * 56 ≤ 70368744177664 by omega, show k + 1 + 1 ≤ 70368744177664 by omega, show (k + 1 + 1) * 8 ≤ 70368744177664 by omega, show (k + 1) * 3 + 3 = (k + 1 + 1) * 3 by omega]
                refine hrec ⟨i + 1, O, J.set ja ⟨47, Val.cellsL (O.map (·.1))⟩, ja, jw⟩ _ _ ?_ ?_ ?_ ?_
                · simp; omega
                · exact hI _ _ _ (by simp [all_set, hcl]) (by simp [hja]) (fun h => absurd h (by simp [hwk])) (by rw [List.getElem?_set_ne (by have := hja0 ho1; omega)]; exact hJ0) (hja0 ho1) (fun h => absurd h (by simp [hwk]))
                · simp [mgA, mgW, hwk, h5, hw5, hil, hlk, hine, ho0]
                · simp [h5]
              · have h5 := hk5' hwk
                obtain ⟨hJw, hne⟩ := hrw ho1 hwk
                have hjw : jw < J.length := (List.getElem?_eq_some_iff.1 hJw).1
                have hJw2 := (List.getElem?_eq_some_iff.1 hJw).2
                have hin : ints (o.map (·.2)) ++ [A.int .i64 qs[i].2] = ints (O.map (·.2)) := by rw [htop, List.map_append, ints_append]; simp [ints]
                have hcl2 : ((J.set ja ⟨47, Val.cellsL (O.map (·.1))⟩).set jw ⟨3, ints (O.map (·.2))⟩).all (fun r => r.cs.all (closed 0 0)) = true := all_set (all_set hcl _ _ (Val.closed_cellsL _ _ _)) _ _ (closed_ints _ _ _)
                simp [round, Tryz.f129, a129, reg129, loop129, draw129, dok129, hia2, hlt, w2, w4, app_at0, app_at, app_set, hJp, hJ2, hja, hJa2, hql, hql4, h4, h4', hat4, hec, mgA, mgW, hwk, h5, hw5, hlk, ho0, hi01, hi00, hatk, hk3, he, hc, endRound_J, hcl, all_set, show (k : Int) < (k : Int) + 1 by omega, hcl3, hcl2, hjw, hJw2, hin, hne, show (k + 1 + 1) * 56 ≤ 70368744177664 by omega, show k + 1 + 1 ≤ 70368744177664 by omega, show (k + 1 + 1) * 8 ≤ 70368744177664 by omega, show (k + 1) * 3 + 3 = (k + 1 + 1) * 3 by omega]
                refine hrec ⟨i + 1, O, (J.set ja ⟨47, Val.cellsL (O.map (·.1))⟩).set jw ⟨3, ints (O.map (·.2))⟩, ja, jw⟩ _ _ ?_ ?_ ?_ ?_
                · simp; omega
                · exact hI _ _ _ hcl2 (by rw [List.getElem?_set_ne (Ne.symm hne)]; simp [hja]) (fun _ => ⟨by simp [hjw], hne⟩) (by rw [List.getElem?_set_ne (by have := hjw0 ho1 hwk; omega), List.getElem?_set_ne (by have := hja0 ho1; omega)]; exact hJ0) (hja0 ho1) (fun h => hjw0 ho1 h)
                · simp [mgA, mgW, hwk, h5, hil, hlk, hine, ho0]
                · simp
        · clear hrec
          have hie : i = ps.length := by omega
          subst hie
          have hO : o = mergeP f.kind xs ws := by
            rw [← hmq, ← hmg, List.drop_eq_nil_of_le (by omega)]
            rfl
          have ho1 : 0 < o.length := hi0 (by omega)
          have ho0 : ¬ o = [] := fun h => by rw [h] at ho1; simp at ho1
          have hJa := hra ho1
          have hja : ja < J.length := (List.getElem?_eq_some_iff.1 hJa).1
          have hJa2 := (List.getElem?_eq_some_iff.1 hJa).2
          have hall : List.take (o.length * 3) (Val.cellsL (o.map (·.1))) = Val.cellsL (o.map (·.1)) := List.take_of_length_le (by simp)
          have hallw : List.take o.length (ints (o.map (·.2))) = ints (o.map (·.2)) := List.take_of_length_le (by simp)
          have hO2 : wtd f.kind = true → ∀ w, w ∈ o.map (·.2) → 1 ≤ w ∧ w ≤ 1048576 := fun h w hmem => by
            obtain ⟨p, hp, rfl⟩ := List.mem_map.1 hmem
            refine ⟨hps1 h p hp, ?_⟩
            have h1 := mem_sum (hps1 h) hp
            have h2 : (o.map (·.2)).sum = (qs.map (·.2)).sum := by
              rw [hO, ← hmq, mergeF_sum]
              simp
            have h3 := (hqw h).2
            omega
          unfold mergeV
          rw [← hO]
          by_cases h7 : f.kind = 7
          · have hwk : wtd f.kind = true := by rw [h7]; rfl
            obtain ⟨hJw, hne⟩ := hrw ho1 hwk
            have hjw : jw < J.length := (List.getElem?_eq_some_iff.1 hJw).1
            have hJw2 := (List.getElem?_eq_some_iff.1 hJw).2
            have hws : ∀ w, w ∈ o.map (·.2) → 1 ≤ w ∧ w ≤ 1048576 := hO2 hwk
            have hwp : ∀ w, w ∈ o.map (·.2) → 1 ≤ w := fun w h => (hws w h).1
            have hWl : (o.map (·.2)).length = o.length := by simp
            generalize o.map (·.2) = W at *
            have hgp : 0 < gcdN W := gcdN_pos (fun h => by rw [h] at hWl; simp at hWl; omega) hwp
            have hg := ev_vgcdR W (m.rw.length + jw) (by omega) hws
            have hgc : ∀ bx, evCall C0 169 [.sl (m.rw.length + jw) o.length 0 o.length] ⟨bx, m.rw ++ J⟩ = some (.ret (.int .i64 (gcdN W)), ⟨bx, m.rw ++ J⟩) := fun bx => by
              have := hg ⟨bx, m.rw ++ J⟩ (by rw [app_at]; exact hJw)
              rwa [hWl] at this
            simp [round, Tryz.f129, a129, reg129, loop129, draw129, dok129, hia2, app_at, h7, show wtd 7 = true from rfl, ho0, mgA, mgW, hwk, hgc, hjw, hJw2, hja, hJa2]
            refine loop_in (fun j : Nat => ⟨[(4, .ptr (m.bx.length + 2) 0), (9, .ptr (m.bx.length + 3) 0), (13, .int .i64 (gcdN W)), (101, .int .i64 o.length), (102, .int .i64 j)],
                ⟨m.bx ++ [f.cells, [.int .i64 0, .sl ia (xs.length * 3) 0 xs.length, .isl false ws.length (ints ws)], [.int .i64 0, .nils, .nils], [.int .i64 0, .sl (m.rw.length + ja) (o.length * 3) 0 o.length, .sl (m.rw.length + jw) o.length 0 o.length]], m.rw ++ J.set jw ⟨3, ints ((divG W).take j ++ W.drop j)⟩⟩⟩)
              (fun i => some (.ret (.agg (Val.mk 0 (o.map (·.1)) (divG W)).cells), m)) (fun j => o.length - j) (fun j => j ≤ o.length) 0 ?_ ?_ ?_ ?_ ?_
            · have hset0 : J.set jw ⟨3, ints W⟩ = J := by rw [← hJw2]; exact List.set_getElem_self hjw
              simp [hset0, h7]
            · simp
            · omega
            · intro x; simp [Tryz.f129, a129, reg129, loop129, draw129, dok129, hia2]
            · intro j hj hrec
              have hdl : (divG W).length = W.length := by unfold divG; simp
              have hne' : ¬ jw = ja := fun h => hne h.symm
              have hg0 : ¬ (gcdN W : Int) = 0 := by omega
              by_cases hit : j < o.length
              · have w2 : IntKind.i64.wrap (j + 1) = j + 1 := wrap_id _ (by omega)
                have hiW : j < W.length := by omega
                have hx := hws W[j] (List.getElem_mem hiW)
                have hq := tdiv_pos hx.1 hgp ((gcdF_dvd W 0).2 _ (List.getElem_mem hiW))
                have w3 : IntKind.i64.wrap (W[j].tdiv (gcdN W)) = W[j].tdiv (gcdN W) := wrap_id _ (by omega)
                have hDl : ((divG W).take j ++ W.drop j).length = o.length := by simp; omega
                have hat : ((ints ((divG W).take j ++ W.drop j)).drop j).take 1 = [.int .i64 W[j]] := by
                  have h1 := ints_at (ks := (divG W).take j ++ W.drop j) (i := j) (by omega)
                  rw [h1]
                  congr 2
                  rw [List.getElem_append_right (by simp; omega)]
                  simp [Nat.min_eq_left (show j ≤ (divG W).length by omega)]
                have hst : List.take j (ints ((divG W).take j ++ W.drop j)) ++ A.int .i64 (W[j].tdiv (gcdN W)) :: List.drop (j + 1) (ints ((divG W).take j ++ W.drop j)) = ints ((divG W).take (j + 1) ++ W.drop (j + 1)) := by
                  have h1 : (divG W)[j]'(by omega) = W[j].tdiv (gcdN W) := by unfold divG; simp
                  have h2 : ((divG W).take j).length = j := by simp; omega
                  unfold ints
                  rw [← List.map_take, ← List.map_drop, ← List.drop_drop]
                  have h3 : List.take j ((divG W).take j ++ W.drop j) = (divG W).take j := by rw [List.take_append_of_le_length (by omega), List.take_of_length_le (by omega)]
                  have h4 : List.drop j ((divG W).take j ++ W.drop j) = W.drop j := by rw [List.drop_append_of_le_length (by omega), List.drop_eq_nil_of_le (by omega)]; rfl
                  rw [h3, h4, List.drop_drop, List.take_succ_eq_append_getElem (by omega), h1]
                  simp
                generalize (divG W).take j ++ W.drop j = D at hDl hat hst ⊢
                simp [round, Tryz.f129, a129, reg129, loop129, draw129, dok129, hia2, hit, w2, w3, app_at, app_set, hjw, hDl, hat, hst, show ¬ gcdN W = 0 by omega, show j + 1 ≤ o.length by omega, endRound_J, all_set, hcl, hja]
                refine hrec (j + 1) _ _ ?_ ?_ ?_ ?_
                · omega
                · omega
                · simp
                · simp
              · clear hrec
                have hie : j = o.length := by omega
                subst hie
                rw [List.take_of_length_le (by omega), List.drop_eq_nil_of_le (by omega), List.append_nil]
                have hdl2 : (divG W).length = o.length := by omega
                have htk : List.take o.length (ints (divG W)) = ints (divG W) := List.take_of_length_le (by simp; omega)
                simp [round, Tryz.f129, a129, reg129, loop129, draw129, dok129, hia2, app_at, hjw, hja, hJa2, hne', hall, hdl2, htk]
          · cases hwk : wtd f.kind
            · have h5 := hk5 hwk
              simp [round, Tryz.f129, a129, reg129, loop129, draw129, dok129, hia2, app_at, show wtd 5 = false from rfl, h5, h7, ho0, mgA, mgW, hwk, hja, hJa2, hall]
            · have h5 := hk5' hwk
              obtain ⟨hJw, hne⟩ := hrw ho1 hwk
              have hjw : jw < J.length := (List.getElem?_eq_some_iff.1 hJw).1
              have hJw2 := (List.getElem?_eq_some_iff.1 hJw).2
              simp [round, Tryz.f129, a129, reg129, loop129, draw129, dok129, hia2, app_at, h5, h7, ho0, mgA, mgW, hwk, hja, hJa2, hjw, hJw2, hall, hallw]
theorem merge_nodes (kind k : Int) (xs : List Val) (w : List Int) (hs : slimL xs) (hx : xs.length ≤ 1000000000) : (mergeV kind k xs w).nodes ≤ 1 + Val.nodesL xs ∧ slimV (mergeV kind k xs w) := by
  unfold mergeV
  rw [Val.nodes_eq, slimV_eq]
  simp only [Val.args_mk, Val.ws_mk]
  have h1 := nodesL_merge (xs.zip (wsOf kind xs w)) []
  have h2 : Val.nodesL ((xs.zip (wsOf kind xs w)).map (·.1)) ≤ Val.nodesL xs := by
    have : ∀ (a : List Val) (b : List Int), Val.nodesL ((a.zip b).map (·.1)) ≤ Val.nodesL a := by
      intro a
      induction a with
      | nil => intro b; simp [Val.nodesL]
      | cons x r ih =>
        intro b
        cases b with
        | nil => simp [Val.nodesL]
        | cons y t => simp [Val.nodesL]; exact ih t
    exact this _ _
  have h3 : (xs.zip (wsOf kind xs w)).length ≤ xs.length := by rw [List.length_zip]; omega
  simp only [List.map_nil, List.length_nil, Val.nodesL] at h1
  unfold mergeP
  refine ⟨by omega, ?_, slimL_of fun x hx' => ?_⟩
  · split
    · unfold divG; simp; omega
    · split
      · simp; omega
      · simp
  · obtain ⟨p, hp, rfl⟩ := List.mem_map.1 hx'
    rcases mergeF_fst _ _ p hp with ⟨q, h4, h5⟩ | ⟨q, h4, _⟩
    · rw [h5]; exact slimL_mem hs (zip_fst h4).1
    · cases h4
mutual
theorem map_nodes {t : Int → Val} (ht : ∀ x, (t x).nodes ≤ 1 ∧ slimV (t x)) : ∀ (v : Val) (f : Fun), slimV v → v.nodes ≤ 1000000000 → (mapV t v f).nodes ≤ v.nodes ∧ slimV (mapV t v f)
  | .mk k l w, f, hs, hb => by
    rw [slimV_eq] at hs
    have hv := Val.nodes_eq (.mk k l w)
    rw [hv] at hb ⊢
    simp only [Val.args_mk] at hb hs ⊢
    have ih := mapL_nodes ht l (argF f k) 0 hs.2 (by omega)
    have hl := Val.length_nodesL l
    have hm := mapL_length t l (argF f k) 0
    rw [mapV]
    split
    · have := ht k; exact ⟨by omega, this.2⟩
    split
    · rw [Val.nodes_eq, slimV_eq]; simp [Val.nodesL, slimL]
    have hplain : ∀ q, (Val.mk q (mapL t l (argF f k) 0) []).nodes ≤ 1 + Val.nodesL l ∧ slimV (Val.mk q (mapL t l (argF f k) 0) []) := fun q => by
      rw [Val.nodes_eq, slimV_eq]
      simp only [Val.args_mk, Val.ws_mk]
      exact ⟨by omega, by simp, ih.2⟩
    split
    · exact hplain 0
    split
    · exact hplain k
    split
    · exact hplain 0
    have := merge_nodes f.kind 0 (mapL t l (argF f k) 0) w ih.2 (by omega)
    exact ⟨by omega, this.2⟩
theorem mapL_nodes {t : Int → Val} (ht : ∀ x, (t x).nodes ≤ 1 ∧ slimV (t x)) : ∀ (l : List Val) (g : Nat → Fun) (i : Nat), slimL l → Val.nodesL l ≤ 1000000000 → Val.nodesL (mapL t l g i) ≤ Val.nodesL l ∧ slimL (mapL t l g i)
  | [], g, i, hs, hb => by rw [mapL]; exact ⟨Nat.le_refl _, hs⟩
  | v :: r, g, i, hs, hb => by
    rw [slimL] at hs
    rw [Val.nodesL] at hb
    have a := map_nodes ht v (g i) hs.1 (by omega)
    have b := mapL_nodes ht r g (i + 1) hs.2 (by omega)
    rw [mapL, Val.nodesL, Val.nodesL, slimL]
    exact ⟨by omega, a.2, b.2⟩
end
structure MapOk (t : Int → Val) (h : FuncId) (caps : List A) (n : Int) (Q : Mem → Prop) : Prop where
  ev : ∀ x, 0 ≤ x → x < n → ∀ m, Q m → evCall C0 h (.int .i64 x :: caps) m = some (.ret (.agg (t x).cells), m)
  up : ∀ m b r, Q m → Q ⟨m.bx ++ b, m.rw ++ r⟩
  cl : ∀ m, Q m → closed m.bx.length m.rw.length (.fn h caps) = true
  sm : ∀ x, (t x).nodes ≤ 1 ∧ slimV (t x)
def MapAt (t : Int → Val) (h : FuncId) (caps : List A) (n : Int) (Q : Mem → Prop) (v : Val) : Prop :=
  ∀ f, shapedF f = true → okV exL n v f = true → ∀ m, Q m → evCall C0 84 [.agg f.cells, .agg v.cells, .fn h caps] m = some (.ret (.agg (mapV t v f).cells), m)
section
variable {t : Int → Val} {h : FuncId} {caps : List A} {n : Int} {Q : Mem → Prop}
set_option maxHeartbeats 8000000 in
theorem mapped_plain (hM : MapOk t h caps n Q) (v : Val) (H : ∀ u, u ∈ v.args → MapAt t h caps n Q u) (f : Fun) (hf : shapedF f = true) (hok : okV exL n v f = true) (hk : f.kind ≤ 3) (m : Mem) (hQ : Q m) :
    evCall C0 84 [.agg f.cells, .agg v.cells, .fn h caps] m = some (.ret (.agg (mapV t v f).cells), m) := by
  rw [okV_eq, Bool.and_eq_true, Bool.and_eq_true] at hok
  obtain ⟨⟨hh, _⟩, hokl⟩ := hok
  have hq0 : ∀ b, Q ⟨m.bx ++ b, m.rw⟩ := fun b => by have := hM.up m b [] hQ; rwa [List.append_nil] at this
  obtain ⟨hd1, hd2, hd3⟩ := head_num hh
  have hh' := hh
  unfold headL at hh'
  simp only [Bool.and_eq_true] at hh'
  obtain ⟨⟨q1, q2⟩, q3⟩ := hh'
  rw [mapV_eq]
  rw [evCall_body C0 (C0_ext _ (by decide)) (by rw [C0_P]; exact Tryz.func84) rfl (by rw [C0_ann]; rfl) (by rw [C0_ann]; rfl) (by decide) (by simp [Tryz.f84])]
  rcases shaped_kind hf with ⟨h0, hl⟩ | ⟨h0, hl⟩ | ⟨h0, hl⟩ | ⟨h0, hl⟩ | ⟨h0, hl⟩ | ⟨h0, hl⟩ | ⟨h0, hl⟩ | ⟨h0, hl⟩
  · simp [h0] at q2
    have he := fun b => hM.ev v.num q2.1 (by omega) _ (hq0 b)
    simp at he
    simp [Tryz.f84, a84, reg84, loop84, draw84, dok84, h0, he]
  · simp [Tryz.f84, a84, reg84, loop84, draw84, dok84, h0]
  · simp [h0, hl] at q1
    have a0 : 0 < v.args.length := by omega
    have a1 : 1 < v.args.length := by omega
    have f0 : 0 < f.args.length := by omega
    have f1 : 1 < f.args.length := by omega
    have g0 : argF f v.num 0 = f.args[0] := by unfold argF; rw [if_pos h0, List.getD_eq_getElem?_getD, List.getElem?_eq_getElem f0]; rfl
    have g1 : argF f v.num 1 = f.args[1] := by unfold argF; rw [if_pos h0, List.getD_eq_getElem?_getD, List.getElem?_eq_getElem f1]; rfl
    have b1 := Fun.at_cellsL f.args 0 f0
    have b2 := Fun.at_cellsL f.args 1 f1
    have b3 := Val.at_cellsL v.args 0 a0
    have b4 := Val.at_cellsL v.args 1 a1
    simp at b1 b2 b3 b4
    have o0 := okL_mem hokl 0 a0
    have o1 := okL_mem hokl 1 a1
    rw [Nat.zero_add] at o0 o1
    rw [g0] at o0
    rw [g1] at o1
    have he0 := fun b => H v.args[0] (List.getElem_mem a0) f.args[0] (shaped_arg hf f0) o0 _ (hq0 b)
    have he1 := fun b => H v.args[1] (List.getElem_mem a1) f.args[1] (shaped_arg hf f1) o1 _ (hq0 b)
    simp at he0 he1
    have hm : mapL t v.args (argF f v.num) 0 = [mapV t v.args[0] f.args[0], mapV t v.args[1] f.args[1]] := by
      have e0 := mapL_drop (t := t) a0 (argF f v.num)
      have e1 := mapL_drop (t := t) a1 (argF f v.num)
      rw [List.drop_zero] at e0
      rw [e0, e1, g0, g1, List.drop_eq_nil_of_le (by omega), mapL]
    have hcl : Val.cellsL [mapV t v.args[0] f.args[0], mapV t v.args[1] f.args[1]] = (mapV t v.args[0] f.args[0]).cells ++ (mapV t v.args[1] f.args[1]).cells := by rw [Val.cellsL, Val.cellsL, Val.cellsL, List.append_nil]
    simp [Tryz.f84, a84, reg84, loop84, draw84, dok84, h0, show v.args.length = 2 by omega, hl, b1, b2, b3, b4, he0, he1, hm, hcl]
  · simp [h0] at q1
    have a0 : 0 < v.args.length := by omega
    have f0 : 0 < f.args.length := by omega
    have f1 : 1 < f.args.length := by omega
    have b1 := Fun.at_cellsL f.args 0 f0
    have b2 := Fun.at_cellsL f.args 1 f1
    have b3 := Val.at_cellsL v.args 0 a0
    simp at b1 b2 b3
    have o0 := okL_mem hokl 0 a0
    rw [Nat.zero_add] at o0
    have e0 := mapL_drop (t := t) a0 (argF f v.num)
    rw [List.drop_zero, List.drop_eq_nil_of_le (by omega), mapL] at e0
    by_cases cn : v.num = 0
    · have g0 : argF f v.num 0 = f.args[0] := by unfold argF; rw [if_neg (by omega), if_pos h0, cn, List.getD_eq_getElem?_getD, List.getElem?_eq_getElem (by simpa using f0)]; rfl
      rw [g0] at o0 e0
      rw [cn] at e0
      have he0 := fun b => H v.args[0] (List.getElem_mem a0) f.args[0] (shaped_arg hf f0) o0 _ (hq0 b)
      simp at he0
      simp [Tryz.f84, a84, reg84, loop84, draw84, dok84, h0, q1.2, hl, b1, b2, b3, he0, e0, cn, Val.cellsL]
    · have cm : v.num = 1 := by omega
      have g0 : argF f v.num 0 = f.args[1] := by unfold argF; rw [if_neg (by omega), if_pos h0, cm, List.getD_eq_getElem?_getD, List.getElem?_eq_getElem (by simpa using f1)]; rfl
      rw [g0] at o0 e0
      rw [cm] at e0
      have he0 := fun b => H v.args[0] (List.getElem_mem a0) f.args[1] (shaped_arg hf f1) o0 _ (hq0 b)
      simp at he0
      simp [Tryz.f84, a84, reg84, loop84, draw84, dok84, h0, q1.2, hl, b1, b2, b3, he0, e0, cm, Val.cellsL]
  all_goals omega
theorem mapL_snoc {t : Int → Val} {l : List Val} {g : Nat → Fun} {i : Nat} (h : i < l.length) {xs : List Val} (hm : mapL t l g 0 = xs ++ mapL t (l.drop i) g i) : mapL t l g 0 = (xs ++ [mapV t l[i] (g i)]) ++ mapL t (l.drop (i + 1)) g (i + 1) := by
  rw [hm, mapL_drop h]
  simp
set_option maxHeartbeats 8000000 in
theorem mapped_many (hM : MapOk t h caps n Q) (v : Val) (hb : v.nodes ≤ 1000000) (hs : slimV v) (H : ∀ u, u ∈ v.args → MapAt t h caps n Q u) (f : Fun) (hf : shapedF f = true) (hok : okV exL n v f = true) (hk : 4 ≤ f.kind) (m : Mem) (hQ : Q m) :
    evCall C0 84 [.agg f.cells, .agg v.cells, .fn h caps] m = some (.ret (.agg (mapV t v f).cells), m) := by
  have hs' := hs
  rw [slimV_eq] at hs'
  rw [okV_eq, Bool.and_eq_true, Bool.and_eq_true] at hok
  obtain ⟨⟨hh, _⟩, hokl⟩ := hok
  have hlen := v.length_args
  obtain ⟨hd1, hd2, hd3⟩ := head_num hh
  have hfl : f.args.length = 1 := by have := shaped_kind hf; omega
  have hk7 : f.kind ≤ 7 := by have := shaped_kind hf; omega
  have f0 : 0 < f.args.length := by omega
  have b1 := Fun.at_cellsL f.args 0 f0
  simp at b1
  have hg : ∀ j, argF f v.num j = f.args[0] := fun j => by
    unfold argF
    rw [if_neg (by omega), if_neg (by omega), List.getD_eq_getElem?_getD, List.getElem?_eq_getElem f0]
    rfl
  have k4 : ¬ f.kind = 0 ∧ ¬ f.kind = 1 ∧ ¬ f.kind = 2 ∧ ¬ f.kind = 3 := by omega
  have hfin := hM.cl m hQ
  have hcl : ∀ b r, closed (m.bx.length + b) (m.rw.length + r) (.fn h caps) = true := fun b r => closed_mono (by omega) (by omega) _ hfin
  have hcl0 : ∀ b, closed (m.bx.length + b) m.rw.length (.fn h caps) = true := fun b => closed_mono (by omega) (by omega) _ hfin
  have hmn := mapL_nodes hM.sm v.args (argF f v.num) 0 hs'.2 (by have := v.nodes_eq; omega)
  have hml := mapL_length t v.args (argF f v.num) 0
  have hvn := v.nodes_eq
  rw [mapV_eq, if_neg k4.1, if_neg k4.2.1, if_neg k4.2.2.1, if_neg k4.2.2.2]
  rw [evCall_body C0 (C0_ext _ (by decide)) (by rw [C0_P]; exact Tryz.func84) rfl (by rw [C0_ann]; rfl) (by rw [C0_ann]; rfl) (by decide) (by simp [Tryz.f84])]
  simp [Tryz.f84, a84, reg84, loop84, draw84, dok84, k4]
  refine loop_in (fun x : Nat × List Val => ⟨[(2, .fn h caps), (3, .ptr m.bx.length 0), (4, .ptr (m.bx.length + 1) 0), (6, .ptr (m.bx.length + 2) 0), (7, .ptr (m.bx.length + 3) 0), (66, .isl false v.args.length (Val.cellsL v.args)), (67, .int .i64 v.args.length), (68, .int .i64 x.1)],
      ⟨m.bx ++ [f.cells, v.cells, [.int .i64 0, .nils, .nils], [.int .i64 0, xA m.rw.length x.2, .nils]], m.rw ++ xR x.2⟩⟩)
    (fun x => some (.ret (.agg (if f.kind = 4 then Val.mk 0 (mapL t v.args (argF f v.num) 0) [] else mergeV f.kind 0 (mapL t v.args (argF f v.num) 0) v.ws).cells), m)) (fun x => v.args.length - x.1)
    (fun x => x.1 ≤ v.args.length ∧ x.2.length = x.1 ∧ mapL t v.args (argF f v.num) 0 = x.2 ++ mapL t (v.args.drop x.1) (argF f v.num) x.1) (0, []) ?_ ?_ ?_ ?_ ?_
  · simp [xA, xR]
  · simp
  · simp
  · intro x; simp [Tryz.f84, a84, reg84, loop84, draw84, dok84]
  · rintro ⟨i, xs⟩ ⟨hi, hxl, hml2⟩ hrec
    simp only at hi hxl hml2 ⊢
    by_cases hlt : i < v.args.length
    · have w2 : IntKind.i64.wrap (i + 1) = i + 1 := wrap_id _ (by omega)
      have h3 : (i + 1) * 3 ≤ v.args.length * 3 := by omega
      have o0 := okL_mem hokl i hlt
      rw [Nat.zero_add, hg] at o0
      have hnx := mapL_snoc hlt hml2
      rw [hg] at hnx
      have he := fun (b : List (List A)) (r : List Row) => H v.args[i] (List.getElem_mem hlt) f.args[0] (shaped_arg hf f0) o0 _ (hM.up m b r hQ)
      have he0 := fun (b : List (List A)) => H v.args[i] (List.getElem_mem hlt) f.args[0] (shaped_arg hf f0) o0 ⟨m.bx ++ b, m.rw⟩ (by have := hM.up m b [] hQ; rwa [List.append_nil] at this)
      simp at he he0
      cases xs with
      | nil =>
        have hi0 : i = 0 := by simpa using hxl.symm
        subst hi0
        have b3 := Val.at_cellsL v.args 0 hlt
        simp at b3
        simp [round, Tryz.f84, a84, reg84, loop84, draw84, dok84, hlt, w2, h3, hfl, show 3 ≤ v.args.length * 3 by omega, b1, b3, he, he0, xA, xR, app_at, app_set, endRound_R0, hcl, hcl0]
        refine hrec (1, [mapV t v.args[0] f.args[0]]) _ _ ?_ ?_ ?_ ?_
        · simp; omega
        · exact ⟨by simp only; omega, rfl, by rw [hnx]; rfl⟩
        · simp [xA, xR, Val.cellsL, hfl]
        · simp
      | cons a r =>
        have hr : r.length + 1 = i := by simpa using hxl
        simp [round, Tryz.f84, a84, reg84, loop84, draw84, dok84, hlt, w2, h3, hfl, b1, he, he0, xA, xR, app_at, app_set, endRound_J, hcl, hcl0, show (r.length + 1 + 1) * 56 ≤ 70368744177664 by omega, show r.length + 1 + 1 ≤ 70368744177664 by omega]
        refine hrec (i + 1, a :: r ++ [mapV t v.args[i] f.args[0]]) _ _ ?_ ?_ ?_ ?_
        · simp; omega
        · exact ⟨by simp only; omega, by simp; omega, by rw [hnx]⟩
        · simp [xA, xR, Val.cellsL, Val.cellsL_append, hfl]
        · simp
    · clear hrec
      have hie : i = v.args.length := by omega
      subst hie
      rw [List.drop_eq_nil_of_le (Nat.le_refl _), mapL, List.append_nil] at hml2
      rw [hml2] at hmn hml ⊢
      by_cases h4 : f.kind = 4
      · by_cases hx0 : xs.length = 0
        · have hxe : xs = [] := List.eq_nil_of_length_eq_zero hx0
          subst hxe
          simp [round, Tryz.f84, a84, reg84, loop84, draw84, dok84, h4, xA, xR]
        · have hxe : ¬ xs = [] := fun h => hx0 (by rw [h]; rfl)
          have hall : List.take (xs.length * 3) (Val.cellsL xs) = Val.cellsL xs := List.take_of_length_le (by simp)
          simp [round, Tryz.f84, a84, reg84, loop84, draw84, dok84, h4, xA, xR, hx0, hxe, hall]
      · have hset : setsK f.kind = true := by unfold setsK wtd; simp; omega
        have hss := (head_sets hset).1 hh
        have hwk3 : wtd f.kind = true → v.ws.length = xs.length ∧ (∀ w, w ∈ v.ws → 1 ≤ w) ∧ v.ws.sum ≤ 1048576 := fun h => by
          rw [if_pos h] at hss
          have h2 := (weighI_iff v.ws 0 (by omega)).1 hss.2.1
          exact ⟨by omega, h2.1, by omega⟩
        by_cases hx0 : xs.length = 0
        · have hxe : xs = [] := List.eq_nil_of_length_eq_zero hx0
          subst hxe
          have hwe : v.ws = [] := by
            cases h : wtd f.kind
            · exact hd2 h
            · exact List.eq_nil_of_length_eq_zero (by rw [(hwk3 h).1]; rfl)
          have h7 : f.kind ≠ 7 := fun h => by
            have hw7 : wtd f.kind = true := by rw [h]; rfl
            rw [if_pos hw7] at hss
            have := hss.2.2.2
            have h8 := hml
            simp at h8
            omega
          have he0 := ev_vMerged0 f hset h7
          simp at he0
          have hmv : mergeV f.kind 0 [] v.ws = .mk 0 [] [] := by
            unfold mergeV mergeP
            rw [hwe]
            have h56 : f.kind = 5 ∨ f.kind = 6 := by omega
            rcases h56 with h | h <;> rw [h] <;> rfl
          simp [hmv, h4]
          simp [round, Tryz.f84, a84, reg84, loop84, draw84, dok84, h4, xA, xR, he0, hwe]
        · have hxe : ¬ xs = [] := fun h => hx0 (by rw [h]; rfl)
          have he := ev_vMerged f xs v.ws m.rw.length (by omega) hset (fun x hx => ⟨by have := Val.nodes_mem hx; omega, slimL_mem hmn.2 hx⟩) (by omega) hwk3 ⟨m.bx ++ [f.cells, v.cells, [.int .i64 0, .nils, .nils], [.int .i64 0, .sl m.rw.length (xs.length * 3) 0 xs.length, .isl false v.ws.length (ints v.ws)]], m.rw ++ xR xs⟩ (by simp [xR, hxe])
          simp at he
          simp [round, Tryz.f84, a84, reg84, loop84, draw84, dok84, h4, xA, hxe, he]
theorem ev_Mapped (hM : MapOk t h caps n Q) (N : Nat) : ∀ (v : Val), v.nodes ≤ N → v.nodes ≤ 1000000 → slimV v → MapAt t h caps n Q v := by
  induction N with
  | zero => intro v hN; have := v.nodes_pos; omega
  | succ N ih =>
  intro v hN hb hs f hf hok m hQ
  have hs' := (slimV_eq v ▸ hs).2
  have H : ∀ u, u ∈ v.args → MapAt t h caps n Q u := fun u hu => ih u (by have := Val.nodes_arg hu; omega) (by have := Val.nodes_arg hu; omega) (slimL_mem hs' hu)
  by_cases hk : f.kind ≤ 3
  · exact mapped_plain hM v H f hf hok hk m hQ
  · exact mapped_many hM v hb hs H f hf hok (by omega) m hQ
end
def idxA {α : Type} (p : α → Bool) : List α → Int → Int
  | [], _ => -1
  | a :: r, i => if p a then i else idxA p r (i + 1)
theorem idxA_pos {α : Type} (p : α → Bool) : ∀ (l : List α) (i : Int), 0 ≤ i → decide (0 ≤ idxA p l i) = l.any p
  | [], i, _ => rfl
  | a :: r, i, h => by
    rw [idxA, List.any_cons]
    split
    · rename_i hp; simp [hp, h]
    · rename_i hp; rw [idxA_pos p r (i + 1) (by omega)]; simp [hp]
theorem idxA_drop {α : Type} {p : α → Bool} {l : List α} {i : Nat} (h : i < l.length) : idxA p (l.drop i) i = if p l[i] then (i : Int) else idxA p (l.drop (i + 1)) ((i + 1 : Nat) : Int) := by
  rw [List.drop_eq_getElem_cons h, idxA]
  rfl
section
variable {g : FuncId} {caps : List A}
set_option maxHeartbeats 2000000 in
theorem ev_IndexI (p : Int → Bool) (l : List Int) (fl : Bool) (hl : l.length ≤ 1000000000) (m : Mem) (hcl : closed m.bx.length m.rw.length (.fn g caps) = true) (hp : ∀ u, u ∈ l → evCall C0 g (.int .i64 u :: caps) m = some (.ret (.bool (p u)), m)) :
    evCall C0 82 [.isl fl l.length (ints l), .fn g caps] m = some (.ret (.int .i64 (idxA p l 0)), m) := by
  rw [evCall_body C0 (C0_ext _ (by decide)) (by rw [C0_P]; exact Tryz.func82) rfl (by rw [C0_ann]; rfl) (by rw [C0_ann]; rfl) (by decide) (by simp [Tryz.f82])]
  simp [Tryz.f82, a82, reg82, loop82]
  refine loop_in (fun i : Nat => ⟨[(0, .isl fl l.length (ints l)), (1, .fn g caps), (7, .int .i64 l.length), (8, .int .i64 i)], m⟩)
    (fun i => some (.ret (.int .i64 (idxA p (l.drop i) i)), m)) (fun i => l.length - i) (fun i => i ≤ l.length) 0 ?_ ?_ ?_ ?_ ?_
  · simp
  · simp
  · simp
  · intro x; simp [Tryz.f82, a82, reg82, loop82]
  · intro i hi hrec
    by_cases hlt : i < l.length
    · have w2 : IntKind.i64.wrap (i + 1) = i + 1 := wrap_id _ (by omega)
      have h3 : i + 1 ≤ l.length := by omega
      have he := hp l[i] (List.getElem_mem hlt)
      have hat := ints_at hlt
      rw [idxA_drop hlt]
      cases hc : p l[i]
      · simp [hc] at he
        simp [round, Tryz.f82, a82, reg82, loop82, hlt, w2, h3, he, hat, endRound_M0, hcl]
        refine hrec (i + 1) _ _ ?_ ?_ ?_ ?_
        · omega
        · omega
        · simp
        · simp
      · simp [hc] at he
        simp [round, Tryz.f82, a82, reg82, loop82, hlt, w2, h3, he, hat]
    · clear hrec
      rw [List.drop_eq_nil_of_le (by omega), idxA]
      simp [round, Tryz.f82, a82, reg82, loop82, hlt]
theorem ev_ContainsI (p : Int → Bool) (l : List Int) (fl : Bool) (hl : l.length ≤ 1000000000) (m : Mem) (hcl : closed m.bx.length m.rw.length (.fn g caps) = true) (hp : ∀ u, u ∈ l → evCall C0 g (.int .i64 u :: caps) m = some (.ret (.bool (p u)), m)) :
    evCall C0 36 [.isl fl l.length (ints l), .fn g caps] m = some (.ret (.bool (l.any p)), m) := by
  rw [evCall_body C0 (C0_ext _ (by decide)) (by rw [C0_P]; exact Tryz.func36) rfl (by rw [C0_ann]; rfl) (by rw [C0_ann]; rfl) (by decide) (by simp [Tryz.f36])]
  have he := ev_IndexI p l fl hl m hcl hp
  have h1 := idxA_pos p l 0 (by omega)
  simp [Tryz.f36, a36, reg36, he, h1]
end
end AE
end Go.Proofs.YtmfdpijmholedaaGreatDoor
