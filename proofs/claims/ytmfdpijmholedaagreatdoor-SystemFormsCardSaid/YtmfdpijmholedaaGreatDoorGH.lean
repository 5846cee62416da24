/- The reference's states of a value; evaluated. -/
import Derived.Test.YtmfdpijmholedaaGreatDoorGG
import Derived.Test.YtmfdpijmholedaaGreatDoorGF
import Derived.Lay
import Derived.Stop.Joined
import Derived.Carry
import Derived.Test.YtmfdpijmholedaaGreatDoorCards
import Derived.Test.YtmfdpijmholedaaGreatDoorTie
import Derived.SevenTiedAt
set_option linter.unusedVariables false
set_option linter.unusedSimpArgs false
namespace Go.Proofs.YtmfdpijmholedaaGreatDoor
namespace AE
open Go
def fate (n : Int) : List Int → Nat
  | [] => 2
  | x :: r => if x = n then 0 else if n < x then 1 else fate n r
theorem fate_drop {n : Int} {l : List Int} {i : Nat} (h : i < l.length) : fate n (l.drop i) = if l[i] = n then 0 else if n < l[i] then 1 else fate n (l.drop (i + 1)) := by rw [List.drop_eq_getElem_cons h, fate]
theorem insI_drop {n : Int} {l : List Int} {i : Nat} (h : i < l.length) : insI n (l.drop i) = if l[i] = n then l.drop i else if n < l[i] then n :: l.drop i else l[i] :: insI n (l.drop (i + 1)) := by rw [List.drop_eq_getElem_cons h, insI]
theorem insI_ne (n : Int) (l : List Int) : insI n l ≠ [] := by
  cases l with
  | nil => rw [insI]; simp
  | cons x r => rw [insI]; split <;> (try split) <;> simp
theorem insI_len (n : Int) : ∀ l : List Int, (insI n l).length ≤ l.length + 1
  | [] => by rw [insI]; simp
  | x :: r => by
    rw [insI]
    have := insI_len n r
    split <;> (try split) <;> simp <;> omega
def insR (R : List Row) (id : Nat) (l : List Int) (n : Int) : List Row × Nat := if fate n l = 0 then (R, id) else if fate n l = 1 ∨ l.length = 0 then (R ++ [⟨3, ints (insI n l)⟩], R.length) else (R.set id ⟨3, ints (insI n l)⟩, id)
def OkL (R : List Row) (id : Nat) (l : List Int) : Prop := ¬ l.length = 0 → R[id]? = some ⟨3, ints l⟩
theorem insR_ok {R : List Row} {id : Nat} {l : List Int} (n : Int) (h : OkL R id l) : OkL (insR R id l n).1 (insR R id l n).2 (insI n l) := by
  intro h0
  unfold insR
  split
  · rename_i hf
    have : insI n l = l := by
      clear h h0
      induction l with
      | nil => cases hf
      | cons x r ih =>
        rw [fate] at hf
        rw [insI]
        split
        · rfl
        · rename_i h1
          rw [if_neg h1] at hf
          split at hf
          · cases hf
          · rename_i h2
            rw [if_neg h2, ih hf]
    rw [this] at h0 ⊢
    exact h h0
  · split
    · simp
    · rename_i hf
      have hid : id < R.length := (List.getElem?_eq_some_iff.1 (h (fun e => hf (.inr e)))).1
      simp [hid]
theorem insR_rows (nb : Nat) (R : List Row) (id : Nat) (l : List Int) (n : Int) : RowsOk nb R (insR R id l n).1 ∧ R.length ≤ (insR R id l n).1.length := by
  unfold insR
  split
  · exact ⟨RowsOk.refl _ _, Nat.le_refl _⟩
  · split
    · exact ⟨RowsOk.more (by simp), by simp⟩
    · refine ⟨fun i hi => ?_, by simp⟩
      by_cases h : id = i
      · subst h
        exact .inr ⟨⟨3, ints (insI n l)⟩, by simp at hi; simp [hi], by simp⟩
      · exact .inl (by simp [h])
theorem lsA_closed2 {R : List Row} {id : Nat} {l : List Int} (h : OkL R id l) (nb : Nat) : closed nb R.length (lsA id l) = true := by
  unfold lsA
  split
  · simp
  · rename_i h0
    have := (List.getElem?_eq_some_iff.1 (h h0)).1
    simp
    exact this
set_option maxHeartbeats 4000000 in
theorem ev_Insert (n : Int) (bx : List (List A)) (R : List Row) (id : Nat) (l : List Int) (hl : l.length ≤ 1000000000) (hR : OkL R id l) : evCall C0 121 [lsA id l, .int .i64 n] ⟨bx, R⟩ = some (.ret (lsA (insR R id l n).2 (insI n l)), ⟨bx, (insR R id l n).1⟩) := by
  rw [evCall_body C0 (C0_ext _ (by decide)) (by rw [C0_P]; exact Tryz.func121) rfl (by rw [C0_ann]; rfl) (by decide) (by simp [Tryz.f121])]
  have hk := leave_keep0 Tryz.prog ⟨bx, R⟩ [] (insR R id l n).1 (.ret (lsA (insR R id l n).2 (insI n l))) (insR_rows _ R id l n).1 (lsA_closed2 (insR_ok n hR) _)
  simp only [List.append_nil] at hk
  by_cases h0 : l.length = 0
  · have hl0 : l = [] := List.eq_nil_of_length_eq_zero h0
    subst hl0
    simp [insR, fate, insI, lsA, ints_cons] at hk
    simp [Tryz.f121, a121, reg121, loop121, draw121, dok121, lsA]
    rw [evCode_loop]
    simp [round, Tryz.f121, a121, reg121, loop121, draw121, dok121, insR, fate, insI, ints_cons, hk]
  · have hne : ¬ l = [] := fun h => h0 (by rw [h]; rfl)
    have hRa := hR h0
    have hid : id < R.length := (List.getElem?_eq_some_iff.1 hRa).1
    have hR2 := (List.getElem?_eq_some_iff.1 hRa).2
    have e1 : lsA id l = .sl id l.length 0 l.length := by unfold lsA; rw [if_neg h0]
    have hin : ¬ insI n l = [] := insI_ne n l
    rw [e1]
    simp [Tryz.f121, a121, reg121, loop121, draw121, dok121]
    refine loop_in (fun i : Nat => ⟨[(0, .sl id l.length 0 l.length), (1, .int .i64 n), (7, .sl id l.length 0 l.length), (8, .int .i64 l.length), (9, .int .i64 i)], ⟨bx, R⟩⟩)
      (fun i => some (.ret (lsA (insR R id l n).2 (insI n l)), ⟨bx, (insR R id l n).1⟩)) (fun i => l.length - i) (fun i => i ≤ l.length ∧ fate n l = fate n (l.drop i) ∧ insI n l = l.take i ++ insI n (l.drop i)) 0 ?_ ?_ ?_ ?_ ?_
    · simp
    · simp
    · simp
    · intro x; simp [Tryz.f121, a121, reg121, loop121, draw121, dok121]
    · rintro i ⟨hi, hf, hI⟩ hrec
      by_cases hlt : i < l.length
      · have w2 : IntKind.i64.wrap (i + 1) = i + 1 := wrap_id _ (by omega)
        have hat := ints_at hlt
        rw [fate_drop hlt] at hf
        rw [insI_drop hlt] at hI
        by_cases c1 : l[i] = n
        · clear hrec
          rw [if_pos c1] at hf hI
          rw [List.take_append_drop] at hI
          have hr : insR R id l n = (R, id) := by unfold insR; rw [if_pos hf]
          rw [hr, hI, e1] at hk
          rw [hr, hI, e1]
          simp at hk
          simp [round, Tryz.f121, a121, reg121, loop121, draw121, dok121, hlt, hid, hR2, show i + 1 ≤ l.length by omega, hat, c1, hk]
        rw [if_neg c1] at hf hI
        by_cases c2 : n < l[i]
        · clear hrec
          rw [if_pos c2] at hf hI
          have hr : insR R id l n = (R ++ [⟨3, ints (insI n l)⟩], R.length) := by unfold insR; rw [if_neg (by omega), if_pos (.inl hf)]
          have hlen : (insI n l).length = l.length + 1 := by rw [hI]; simp; omega
          have e2 : lsA R.length (insI n l) = .sl R.length (l.length + 1) 0 (l.length + 1) := by unfold lsA; rw [if_neg (by omega), hlen]
          have hc : List.take i (ints l) ++ A.int .i64 n :: List.drop i (ints l) = ints (insI n l) := by rw [hI]; simp [ints]
          rw [hr, e2] at hk
          rw [hr, e2]
          simp only at hk ⊢
          by_cases hi0 : i = 0
          · subst hi0
            have hall : List.take l.length (ints l) = ints l := List.take_of_length_le (by simp)
            simp at hc hat
            simp [round, Tryz.f121, a121, reg121, loop121, draw121, dok121, hlt, hid, hR2, at_lt, show 1 ≤ l.length by omega, hat, c1, c2, show ¬ (0 : Int) = l.length by omega, hne, hall, flat_mem_ints, show (1 + l.length) * 8 ≤ 70368744177664 by omega, show 1 + l.length ≤ 70368744177664 by omega, show (l.length + 1) * 8 ≤ 70368744177664 by omega, show l.length ≤ 70368744177663 by omega, hc, Nat.add_comm 1 l.length, hk]
          · have hwft : (∀ x, x ∈ List.take i (ints l) → flat x = true) = True := eq_true fun x hx => List.all_eq_true.1 (flat_ints _) x (List.mem_of_mem_take hx)
            have hwfd : (∀ x, x ∈ List.drop i (ints l) → flat x = true) = True := eq_true fun x hx => List.all_eq_true.1 (flat_ints _) x (List.mem_of_mem_drop hx)
            have hwtd : List.take (l.length - i) (List.drop i (ints l)) = List.drop i (ints l) := List.take_of_length_le (by simp)
            simp [round, Tryz.f121, a121, reg121, loop121, draw121, dok121, hlt, hid, hR2, at_lt, show i + 1 ≤ l.length by omega, hat, c1, c2, hi0, show ¬ (0 : Int) = i by omega, show (i : Int) ≤ l.length by omega, show i ≤ l.length by omega, show ¬ (i : Int) = l.length by omega, show ¬ i = l.length by omega, show ((l.length : Int) - i).toNat = l.length - i by omega, show min i l.length = i by omega, hwft, hwfd, hwtd, show i + (l.length - i) = l.length by omega, show i * 8 ≤ 70368744177664 by omega, show i ≤ 70368744177664 by omega, show (i + 1) * 8 ≤ 70368744177664 by omega, show i + 1 ≤ 70368744177664 by omega, show (i + 1 + (l.length - i)) * 8 ≤ 70368744177664 by omega, show i + 1 + (l.length - i) ≤ 70368744177664 by omega, show (l.length + 1) * 8 ≤ 70368744177664 by omega, show l.length ≤ 70368744177663 by omega, hc, show i + 1 + (l.length - i) = l.length + 1 by omega, hk]
        · rw [if_neg c2] at hf hI
          simp [round, Tryz.f121, a121, reg121, loop121, draw121, dok121, hlt, w2, hid, hR2, show i + 1 ≤ l.length by omega, hat, c1, c2, endRound_M0]
          refine hrec (i + 1) _ _ ?_ ?_ ?_ ?_
          · omega
          · refine ⟨by omega, hf, ?_⟩
            rw [hI, List.take_succ_eq_append_getElem hlt, List.append_assoc]
            rfl
          · simp
          · simp
      · clear hrec
        have hie : i = l.length := by omega
        subst hie
        rw [List.drop_eq_nil_of_le (Nat.le_refl _), fate] at hf
        rw [List.drop_eq_nil_of_le (Nat.le_refl _), insI, List.take_of_length_le (Nat.le_refl _)] at hI
        have hr : insR R id l n = (R.set id ⟨3, ints (insI n l)⟩, id) := by unfold insR; rw [if_neg (by omega), if_neg (by rw [hf]; omega)]
        have hlen : (insI n l).length = l.length + 1 := by rw [hI]; simp
        have e2 : lsA id (insI n l) = .sl id (l.length + 1) 0 (l.length + 1) := by unfold lsA; rw [if_neg (by omega), hlen]
        have hc : ints l ++ [A.int .i64 n] = ints (insI n l) := by rw [hI]; simp [ints]
        rw [hr, e2] at hk
        rw [hr, e2]
        simp only at hk ⊢
        simp [round, Tryz.f121, a121, reg121, loop121, draw121, dok121, hid, hR2, show (l.length + 1) * 8 ≤ 70368744177664 by omega, show l.length + 1 ≤ 70368744177664 by omega, show l.length ≤ 70368744177663 by omega, hc, hk]
structure StS where
  R : List Row
  id : Nat
  l : List Int
def stIns (n : Int) (s : StS) : StS := ⟨(insR s.R s.id s.l n).1, (insR s.R s.id s.l n).2, insI n s.l⟩
mutual
def stV : Val → Fun → StS → StS
  | .mk k l w, f, s => if f.kind = 0 then stIns k s else stL l (argF f k) 0 s
def stL : List Val → (Nat → Fun) → Nat → StS → StS
  | [], _, _, s => s
  | v :: r, g, i, s => stL r g (i + 1) (stV v (g i) s)
end
theorem stV_eq (v : Val) (f : Fun) (s : StS) : stV v f s = if f.kind = 0 then stIns v.num s else stL v.args (argF f v.num) 0 s := by cases v; rw [stV]; rfl
theorem stL_drop {l : List Val} {i : Nat} (h : i < l.length) (g : Nat → Fun) (s : StS) : stL (l.drop i) g i s = stL (l.drop (i + 1)) g (i + 1) (stV l[i] (g i) s) := by rw [List.drop_eq_getElem_cons h, stL]
mutual
theorem stV_l : ∀ (v : Val) (f : Fun) (s : StS), (stV v f s).l = statesV v f s.l ∧ (OkL s.R s.id s.l → OkL (stV v f s).R (stV v f s).id (stV v f s).l) ∧ (stV v f s).l.length ≤ s.l.length + v.nodes
  | .mk k l w, f, s => by
    rw [stV, statesV, Val.nodes_eq]
    split
    · exact ⟨rfl, fun h => insR_ok k h, by have := insI_len k s.l; simp [stIns]; omega⟩
    · have := stL_l l (argF f k) 0 s
      exact ⟨this.1, this.2.1, by simp; omega⟩
theorem stL_l : ∀ (l : List Val) (g : Nat → Fun) (i : Nat) (s : StS), (stL l g i s).l = statesL l g i s.l ∧ (OkL s.R s.id s.l → OkL (stL l g i s).R (stL l g i s).id (stL l g i s).l) ∧ (stL l g i s).l.length ≤ s.l.length + Val.nodesL l
  | [], g, i, s => by rw [stL, statesL, Val.nodesL]; exact ⟨rfl, id, by omega⟩
  | v :: r, g, i, s => by
    rw [stL, statesL, Val.nodesL]
    have h1 := stV_l v (g i) s
    have h2 := stL_l r g (i + 1) (stV v (g i) s)
    exact ⟨by rw [h2.1, h1.1], fun h => h2.2.1 (h1.2.1 h), by omega⟩
end
theorem RowsOk.closed0 {R R' : List Row} (h : RowsOk 0 R R') : True := trivial
def Grow (R R' : List Row) : Prop := R.length ≤ R'.length ∧ ∀ i, i < R'.length → R'[i]? = R[i]? ∨ ∃ r, R'[i]? = some r ∧ r.cs.all (closed 0 0) = true
theorem Grow.refl (R : List Row) : Grow R R := ⟨Nat.le_refl _, fun _ _ => .inl rfl⟩
theorem Grow.trans {a b c : List Row} (h : Grow a b) (k : Grow b c) : Grow a c := by
  refine ⟨Nat.le_trans h.1 k.1, fun i hi => ?_⟩
  rcases k.2 i hi with h1 | h1
  · by_cases hb : i < b.length
    · rcases h.2 i hb with h2 | ⟨r, h2, h3⟩
      · exact .inl (h1.trans h2)
      · exact .inr ⟨r, h1.trans h2, h3⟩
    · rw [List.getElem?_eq_none (show b.length ≤ i by omega)] at h1
      rw [List.getElem?_eq_getElem hi] at h1
      cases h1
  · exact .inr h1
theorem Grow.rows {R R' : List Row} (h : Grow R R') (nb : Nat) : RowsOk nb R R' := fun i hi => by
  rcases h.2 i hi with h1 | ⟨r, h1, h2⟩
  · exact .inl h1
  · exact .inr ⟨r, h1, closed_up h2⟩
theorem insR_grow (R : List Row) (id : Nat) (l : List Int) (n : Int) : Grow R (insR R id l n).1 := by
  unfold insR
  split
  · exact Grow.refl _
  · split
    · refine ⟨by simp, fun i hi => ?_⟩
      by_cases h : i < R.length
      · exact .inl (List.getElem?_append_left h)
      · simp at hi
        have : i = R.length := by omega
        subst this
        exact .inr ⟨⟨3, ints (insI n l)⟩, by simp, by simp⟩
    · refine ⟨by simp, fun i hi => ?_⟩
      by_cases h : id = i
      · subst h
        exact .inr ⟨⟨3, ints (insI n l)⟩, by simp at hi; simp [hi], by simp⟩
      · exact .inl (by simp [h])
mutual
theorem stV_grow : ∀ (v : Val) (f : Fun) (s : StS), Grow s.R (stV v f s).R
  | .mk k l w, f, s => by
    rw [stV]
    split
    · exact insR_grow _ _ _ _
    · exact stL_grow l _ 0 s
theorem stL_grow : ∀ (l : List Val) (g : Nat → Fun) (i : Nat) (s : StS), Grow s.R (stL l g i s).R
  | [], g, i, s => by rw [stL]; exact Grow.refl _
  | v :: r, g, i, s => by rw [stL]; exact (stV_grow v (g i) s).trans (stL_grow r g (i + 1) _)
end
theorem endRound_K {l : List Nat} {M L' : List (List A)} {L : List (List A)} {R1 R2 : List Row} {tm : List (Nat × A)} (hR : Grow R1 R2) (hL : L.length ≤ L'.length) (hl : l.all (fun t => closed (M.length + L.length) R2.length (lk t tm)) = true) (hc : (L'.take L.length).all (fun cs => cs.all (closed (M.length + L.length) R2.length)) = true) :
    endRound (some l) ⟨M ++ L, R1⟩ ⟨tm, ⟨M ++ L', R2⟩⟩ = some ⟨prune (some l) tm, ⟨M ++ L'.take L.length, R2⟩⟩ := by
  refine endRound_eq (B := M ++ L'.take L.length) (J := L'.drop L.length) (by simp) (by simp; omega) (by simpa using List.all_eq_true.1 hl) (fun i hi => ?_) (fun i hi => by simpa using hR.rows (M.length + L.length) i hi)
  simp only [List.length_append] at hi ⊢
  by_cases h : i < M.length
  · exact .inl (by rw [List.getElem?_append_left h, List.getElem?_append_left h])
  · right
    have := all_take (B := M) hc (by simpa using h) (by simpa using hi) hL
    simpa using this
set_option maxHeartbeats 4000000 in
theorem ev_RStates (ex : Fun → List Val → List Int → Bool) (n : Int) (N : Nat) : ∀ (v : Val), v.nodes ≤ N → v.nodes ≤ 1000000 → ∀ (f : Fun), shapedF f = true → okV ex n v f = true → ∀ (bx : List (List A)) (s : StS), s.l.length + v.nodes ≤ 1000000000 → OkL s.R s.id s.l →
    evCall C0 122 [.agg f.cells, .agg v.cells, lsA s.id s.l] ⟨bx, s.R⟩ = some (.ret (lsA (stV v f s).id (stV v f s).l), ⟨bx, (stV v f s).R⟩) := by
  induction N with
  | zero => intro v hN; have := v.nodes_pos; omega
  | succ N ih =>
  intro v hN hb f hf hok bx s hsl hs
  have hlen := v.length_args
  have hst := stV_l v f s
  have hgr := stV_grow v f s
  rw [okV_eq, Bool.and_eq_true, Bool.and_eq_true] at hok
  obtain ⟨⟨hh, _⟩, hokl⟩ := hok
  have hpb : partsB f v = true := by
    rw [head_split hf, Bool.and_eq_true, Bool.and_eq_true] at hh
    exact hh.1.1
  have hp := ev_Parts f v hf (by omega)
  obtain ⟨hPl, hPa⟩ := parts_at hf hpb
  simp [hpb] at hp
  generalize partsL f v = P at hp hPl hPa
  have hlv : ∀ b, leave Tryz.prog true ⟨bx, s.R⟩ (.ret (lsA (stV v f s).id (stV v f s).l)) ⟨bx ++ b, (stV v f s).R⟩ = some (.ret (lsA (stV v f s).id (stV v f s).l), ⟨bx, (stV v f s).R⟩) := fun b =>
    leave_keep0 _ ⟨bx, s.R⟩ _ _ _ (hgr.rows _) (lsA_closed2 (hst.2.1 hs) _)
  rw [evCall_body C0 (C0_ext _ (by decide)) (by rw [C0_P]; exact Tryz.func122) rfl (by rw [C0_ann]; rfl) (by decide) (by simp [Tryz.f122])]
  by_cases hk0 : f.kind = 0
  · have he := ev_Insert v.num (bx ++ [f.cells, v.cells]) s.R s.id s.l (by omega) hs
    have e : stV v f s = stIns v.num s := by rw [stV_eq, if_pos hk0]
    rw [e] at hlv ⊢
    unfold stIns at hlv ⊢
    simp [hk0] at he
    simp [Tryz.f122, a122, reg122, loop122, draw122, dok122, hk0, he, hlv]
  · have e : stV v f s = stL v.args (argF f v.num) 0 s := by rw [stV_eq, if_neg hk0]
    rw [e] at hlv ⊢
    simp [Tryz.f122, a122, reg122, loop122, draw122, dok122, hk0, hp]
    refine loop_in (fun x : Nat × StS => ⟨[(2, lsA x.2.id x.2.l), (7, .isl false P.length (Fun.cellsL P)), (25, .isl false v.args.length (Val.cellsL v.args)), (26, .int .i64 v.args.length), (27, .int .i64 x.1)], ⟨bx ++ [f.cells, v.cells], x.2.R⟩⟩)
      (fun x => some (.ret (lsA (stL v.args (argF f v.num) 0 s).id (stL v.args (argF f v.num) 0 s).l), ⟨bx, (stL v.args (argF f v.num) 0 s).R⟩)) (fun x => v.args.length - x.1)
      (fun x => x.1 ≤ v.args.length ∧ stL v.args (argF f v.num) 0 s = stL (v.args.drop x.1) (argF f v.num) x.1 x.2 ∧ x.2.l.length + Val.nodesL (v.args.drop x.1) ≤ 1000000000 ∧ OkL x.2.R x.2.id x.2.l) (0, s) ?_ ?_ ?_ ?_ ?_
    · simp
    · simp
    · have := Val.nodes_eq v
      exact ⟨by simp, by simp, by simp; omega, hs⟩
    · intro x; simp [Tryz.f122, a122, reg122, loop122, draw122, dok122]
    · rintro ⟨i, y⟩ ⟨hi, hy, hyl, hyo⟩ hrec
      simp only at hi hy hyl hyo ⊢
      by_cases hlt : i < v.args.length
      · have w2 : IntKind.i64.wrap (i + 1) = i + 1 := wrap_id _ (by omega)
        have h3 : (i + 1) * 3 ≤ v.args.length * 3 := by omega
        have hiP : i < P.length := by omega
        have hgi := hPa i hiP
        have hk1 : ¬ f.kind = 1 := fun h => by have := (head_num hh).2.2 (.inr h); omega
        have hgs := argF_shaped hf hk0 hk1 hh i hlt
        have o0 := okL_mem hokl i hlt
        rw [Nat.zero_add] at hgs o0
        have hm := Val.nodes_arg (List.getElem_mem hlt)
        rw [Val.nodesL_drop hlt] at hyl
        rw [stL_drop hlt] at hy
        have he := ih v.args[i] (by omega) (by omega) (argF f v.num i) hgs o0 (bx ++ [f.cells, v.cells, v.args[i].cells]) y (by omega) hyo
        have hz := stV_l v.args[i] (argF f v.num i) y
        have hg := stV_grow v.args[i] (argF f v.num i) y
        generalize stV v.args[i] (argF f v.num i) y = z at he hy hz hg
        have hzo := hz.2.1 hyo
        have hzc := lsA_closed2 hzo
        simp at he
        simp [round, Tryz.f122, a122, reg122, loop122, draw122, dok122, hlt, w2, h3, hiP, show (i + 1) * 3 ≤ P.length * 3 by omega, hgi, he, endRound_K, hg, hzc]
        refine hrec (i + 1, z) _ _ ?_ ?_ ?_ ?_
        · simp; omega
        · exact ⟨by simp only; omega, hy, by simp only; omega, hzo⟩
        · simp
        · simp
      · clear hrec
        rw [List.drop_eq_nil_of_le (by omega), stL] at hy
        rw [hy] at hlv ⊢
        have hlv' := hlv [f.cells, v.cells]
        simp at hlv'
        simp [round, Tryz.f122, a122, reg122, loop122, draw122, dok122, hlt, hlv']
theorem sortI_nil : sortI [] = [] := by simp [sortI]
theorem compact_nil : Lib.compact ([] : List Int) = [] := rfl
theorem take_padI (l : List Int) (n : Nat) : (padI l n).take l.length = l := by unfold padI; rw [List.take_left]
theorem ev_SameIntsN (f1 : Bool) (a : List Int) (m : Mem) : evCall C0 30 [.isl f1 a.length (ints a), .nils] m = some (.ret (.bool (decide (a = []))), m) := by
  rw [evCall_body C0 (C0_ext _ (by decide)) (by rw [C0_P]; exact Tryz.func30) rfl (by rw [C0_ann]; rfl) (by decide) (by simp [Tryz.f30])]
  by_cases h : a = []
  · subst h
    simp [Tryz.f30, a30, reg30, loop30, draw30, dok30]
    rw [evCode_loop]
    simp [round, Tryz.f30, a30, reg30, loop30, draw30, dok30]
  · have h0 : ¬ (a.length : Int) = 0 := fun e => h (List.eq_nil_of_length_eq_zero (by omega))
    simp [Tryz.f30, a30, reg30, loop30, draw30, dok30, h, h0]
set_option maxHeartbeats 1000000 in
theorem ev_SameIntsR (f1 : Bool) (a b : List Int) (id : Nat) (ha : a.length ≤ 1000000000) (m : Mem) (hR : m.rw[id]? = some ⟨3, ints b⟩) : evCall C0 30 [.isl f1 a.length (ints a), .sl id b.length 0 b.length] m = some (.ret (.bool (decide (a = b))), m) := by
  have hid : id < m.rw.length := (List.getElem?_eq_some_iff.1 hR).1
  have hR2 := (List.getElem?_eq_some_iff.1 hR).2
  rw [evCall_body C0 (C0_ext _ (by decide)) (by rw [C0_P]; exact Tryz.func30) rfl (by rw [C0_ann]; rfl) (by decide) (by simp [Tryz.f30])]
  by_cases hl : a.length = b.length
  case neg =>
    have hl' : ¬ (a.length : Int) = b.length := by omega
    have hne : ¬ a = b := fun e => hl (by rw [e])
    simp [Tryz.f30, a30, reg30, loop30, draw30, dok30, hl', hne]
  have hl' : (a.length : Int) = b.length := by omega
  simp [Tryz.f30, a30, reg30, loop30, draw30, dok30, eq_true hl']
  refine loop_in (fun i : Nat => ⟨[(0, .isl f1 a.length (ints a)), (1, .sl id b.length 0 b.length), (12, .int .i64 a.length), (13, .int .i64 i)], m⟩)
    (fun i => some (.ret (.bool (decide (a.drop i = b.drop i))), m)) (fun i => a.length - i) (fun i => i ≤ a.length) 0 ?_ ?_ ?_ ?_ ?_
  · simp
  · simp
  · simp
  · intro x; simp [Tryz.f30, a30, reg30, loop30, draw30, dok30]
  · intro i hi hrec
    by_cases hlt : i < a.length
    · have w2 : IntKind.i64.wrap (i + 1) = i + 1 := wrap_id _ (by omega)
      have hlt' : i < b.length := by omega
      have h3 : i + 1 ≤ a.length := by omega
      have h3' : i + 1 ≤ b.length := by omega
      have hd : (a.drop i = b.drop i) ↔ (a[i] = b[i] ∧ a.drop (i + 1) = b.drop (i + 1)) := by rw [List.drop_eq_getElem_cons hlt, List.drop_eq_getElem_cons hlt', List.cons.injEq]
      by_cases hc : a[i] = b[i]
      · simp [round, Tryz.f30, a30, reg30, loop30, draw30, dok30, hlt, hlt', w2, h3, h3', hid, hR2, ints_at hlt, ints_at hlt', eq_true hc, endRound_M0]
        refine hrec (i + 1) _ _ ?_ ?_ ?_ ?_
        · omega
        · omega
        · simp
        · simp [hd, hc]
      · simp [round, Tryz.f30, a30, reg30, loop30, draw30, dok30, hlt, hlt', w2, h3, h3', hid, hR2, ints_at hlt, ints_at hlt', hc, hd]
    · clear hrec
      have h5 : a.drop i = [] := List.drop_eq_nil_of_le (by omega)
      have h6 : b.drop i = [] := List.drop_eq_nil_of_le (by omega)
      simp [round, Tryz.f30, a30, reg30, loop30, draw30, dok30, hlt, h5, h6]
def Pre (R0 : List Row) (s : StS) : Prop := (∃ J, s.R = R0 ++ J) ∧ (¬ s.l.length = 0 → R0.length ≤ s.id)
theorem pre_ins {R0 : List Row} {s : StS} (n : Int) (h : Pre R0 s) : Pre R0 (stIns n s) := by
  obtain ⟨⟨J, hJ⟩, h2⟩ := h
  unfold stIns insR
  split
  · rename_i hf
    refine ⟨⟨J, hJ⟩, fun _ => h2 ?_⟩
    intro h0
    have : s.l = [] := List.eq_nil_of_length_eq_zero h0
    rw [this, fate] at hf
    cases hf
  · split
    · refine ⟨⟨J ++ [⟨3, ints (insI n s.l)⟩], by simp only; rw [hJ, List.append_assoc]⟩, fun _ => by simp only; rw [hJ]; simp⟩
    · rename_i hf
      have h3 := h2 (fun e => hf (.inr e))
      refine ⟨⟨J.set (s.id - R0.length) ⟨3, ints (insI n s.l)⟩, ?_⟩, fun _ => h3⟩
      simp only
      rw [hJ, List.set_append_right _ _ h3]
mutual
theorem stV_pre {R0 : List Row} : ∀ (v : Val) (f : Fun) (s : StS), Pre R0 s → Pre R0 (stV v f s)
  | .mk k l w, f, s, h => by
    rw [stV]
    split
    · exact pre_ins k h
    · exact stL_pre l _ 0 s h
theorem stL_pre {R0 : List Row} : ∀ (l : List Val) (g : Nat → Fun) (i : Nat) (s : StS), Pre R0 s → Pre R0 (stL l g i s)
  | [], g, i, s, h => by rw [stL]; exact h
  | v :: r, g, i, s, h => by rw [stL]; exact stL_pre r g (i + 1) _ (stV_pre v (g i) s h)
end
theorem insP_app {u : Val} {w : Int} {r : List (Val × Int)} : ∀ {o : List (Val × Int)}, (∀ p, p ∈ o → cmpV p.1 u < 0) → insP u w (o ++ r) = o ++ insP u w r
  | [], _ => rfl
  | p :: o, h => by
    have h1 := h p List.mem_cons_self
    have h2 := cmpV_anti p.1 u
    rw [List.cons_append, insP, if_neg (by omega), if_neg (by omega), insP_app fun q hq => h q (List.mem_cons_of_mem _ hq)]
    rfl
theorem insP_top {u : Val} {w : Int} {o : List (Val × Int)} (hs : o.Pairwise LtP) (h : ∀ q, q ∈ o → cmpV q.1 u ≤ 0) (hl : 0 < o.length) :
    insP u w o = if cmpV (o[o.length - 1]).1 u = 0 then o.set (o.length - 1) ((o[o.length - 1]).1, (o[o.length - 1]).2 + w) else o ++ [(u, w)] := by
  have hne : o ≠ [] := List.length_pos_iff.1 hl
  obtain ⟨q, r, rfl⟩ : ∃ q r, o = r ++ [q] := ⟨o.getLast hne, o.dropLast, (List.dropLast_concat_getLast hne).symm⟩
  have hq : (r ++ [q])[(r ++ [q]).length - 1] = q := by simp
  rw [hq]
  have hr : ∀ p, p ∈ r → cmpV p.1 q.1 < 0 := fun p hp => (List.pairwise_append.1 hs).2.2 p hp q (by simp)
  have hqu := h q (by simp)
  by_cases hc : cmpV q.1 u = 0
  · rw [if_pos hc]
    have hu := (cmpV_zero _ _).1 hc
    rw [insP_app fun p hp => by rw [← hu]; exact hr p hp, insP, if_pos (by rw [hu]; exact cmpV_self _)]
    simp
  · rw [if_neg hc]
    refine insP_end fun p hp => ?_
    rcases List.mem_append.1 hp with hp | hp
    · exact cmpV_lt_trans (hr p hp) (by omega)
    · rw [List.mem_singleton.1 hp]
      omega
theorem at_elemsC : ∀ (l : List (Val × Int)) (i : Nat) (h : i < l.length), ((elemsC l).drop (i * 4)).take 4 = elemC l[i]
  | p :: r, 0, _ => by
    show (elemC p ++ elemsC r).take 4 = _
    rw [← elemC_length p, List.take_left]
    rfl
  | p :: r, i + 1, h => by
    have := at_elemsC r i (by simpa using h)
    show (List.drop ((i + 1) * 4) (elemC p ++ elemsC r)).take 4 = _
    rw [show (i + 1) * 4 = (elemC p).length + i * 4 by simp; omega, ← List.drop_drop, List.drop_left]
    simpa using this
theorem elemsC_append (l r : List (Val × Int)) : elemsC (l ++ r) = elemsC l ++ elemsC r := by unfold elemsC; rw [List.map_append, List.flatten_append]
theorem elemsC_one (p : Val × Int) : elemsC [p] = elemC p := by unfold elemsC; simp
theorem elemC_eq (p : Val × Int) : elemC p = [.int .i64 p.1.num, .isl false p.1.args.length (Val.cellsL p.1.args), .isl false p.1.ws.length (ints p.1.ws), .int .i64 p.2] := by unfold elemC; rw [Val.cells_eq]; rfl
theorem elemsC_closed (nb nr : Nat) : ∀ l : List (Val × Int), (elemsC l).all (closed nb nr) = true
  | [] => rfl
  | p :: r => by
    show (elemC p ++ elemsC r).all _ = true
    rw [List.all_append, elemsC_closed nb nr r]
    unfold elemC
    rw [List.all_append, Val.closed_cells]
    rfl
theorem elemsC_flat : ∀ l : List (Val × Int), (elemsC l).all flat = true
  | [] => rfl
  | p :: r => by
    show (elemC p ++ elemsC r).all _ = true
    rw [List.all_append, elemsC_flat r]
    unfold elemC
    rw [List.all_append, Val.cells_eq]
    rfl
theorem app_at0 {α : Type} (R J : List α) : (R ++ J)[R.length]? = J[0]? := by
  rw [List.getElem?_append_right (Nat.le_refl _), Nat.sub_self]
theorem app_set0 {α : Type} (R J : List α) (x : α) : (R ++ J).set R.length x = R ++ J.set 0 x := by
  rw [List.set_append_right _ _ (Nat.le_refl _), Nat.sub_self]
theorem ev_vSame (u v : Val) (hb : u.nodes ≤ 1000000000) (hs : slimV u) (m : Mem) : evCall C0 38 [.agg u.cells, .agg v.cells] m = some (.ret (.bool (decide (cmpV u v = 0))), m) := by
  rw [evCall_body C0 (C0_ext _ (by decide)) (by rw [C0_P]; exact Tryz.func38) rfl (by rw [C0_ann]; rfl) (by decide) (by simp [Tryz.f38])]
  have he := ev_Compare u.nodes u (Nat.le_refl _) hb hs v
  simp at he
  simp [Tryz.f38, a38, reg38, he]
set_option maxHeartbeats 1000000 in
theorem ev_vgcdR (l : List Int) (id : Nat) (hl : l.length ≤ 1000000000) (hp : ∀ w, w ∈ l → 1 ≤ w ∧ w ≤ 1048576) (m : Mem) (hR : m.rw[id]? = some ⟨3, ints l⟩) : evCall C0 169 [.sl id l.length 0 l.length] m = some (.ret (.int .i64 (gcdN l)), m) := by
  have hid : id < m.rw.length := (List.getElem?_eq_some_iff.1 hR).1
  have hR2 := (List.getElem?_eq_some_iff.1 hR).2
  rw [evCall_body C0 (C0_ext _ (by decide)) (by rw [C0_P]; exact Tryz.func169) rfl (by rw [C0_ann]; rfl) (by decide) (by simp [Tryz.f169])]
  simp [Tryz.f169, a169, reg169, loop169, draw169, dok169]
  refine loop_in (fun x : Nat × Nat => ⟨[(3, .int .i64 x.2), (6, .sl id l.length 0 l.length), (7, .int .i64 l.length), (8, .int .i64 x.1)], m⟩)
    (fun x => some (.ret (.int .i64 (gcdF x.2 (l.drop x.1))), m)) (fun x => l.length - x.1) (fun x => x.1 ≤ l.length ∧ x.2 ≤ 1048576) (0, 0) ?_ ?_ ?_ ?_ ?_
  · simp
  · simp [gcdN]
  · simp
  · intro x; simp [Tryz.f169, a169, reg169, loop169, draw169, dok169]
  · rintro ⟨i, q⟩ hI hrec
    simp only at hI
    obtain ⟨hi, hq⟩ := hI
    by_cases hlt : i < l.length
    · have w2 : IntKind.i64.wrap (i + 1) = i + 1 := wrap_id _ (by omega)
      have hx := hp l[i] (List.getElem_mem hlt)
      have hat := ints_at hlt
      simp only
      rw [gcdF_drop hlt]
      obtain ⟨n, hn⟩ : ∃ n : Nat, l[i] = n := ⟨l[i].toNat, by omega⟩
      rw [hn] at hx hat ⊢
      simp only [Int.natAbs_natCast]
      have hle : Nat.gcd q n ≤ 1048576 := Nat.le_trans (Nat.le_of_dvd (by omega) (Nat.gcd_dvd_right q n)) (by omega)
      simp [round, Tryz.f169, a169, reg169, loop169, draw169, dok169, hlt, w2, hat, hid, hR2, show i + 1 ≤ l.length by omega]
      rw [loop_mp (fun y : Nat × Nat => ⟨[(3, .int .i64 y.1), (5, .int .i64 y.2), (6, .sl id l.length 0 l.length), (7, .int .i64 l.length), (8, .int .i64 i)], m⟩)
        (fun y => some (.normal, ⟨[(3, .int .i64 (Nat.gcd y.1 y.2 : Nat)), (5, .int .i64 0), (6, .sl id l.length 0 l.length), (7, .int .i64 l.length), (8, .int .i64 i), (13, .bool false)], m⟩)) (fun y => y.2) (fun y => y.1 ≤ 1048576 ∧ y.2 ≤ 1048576) (q, n) ?_ rfl ?_ ?_ ?_]
      · simp [Tryz.f169, a169, reg169, loop169, draw169, dok169, w2, endRound_M0, hid]
        refine hrec (i + 1, Nat.gcd q n) _ _ ?_ ?_ ?_ ?_
        · simp; omega
        · exact ⟨by simp; omega, hle⟩
        · simp
        · simp
      · simp [Tryz.f169, a169, reg169, loop169, draw169, dok169]
      · exact ⟨hq, by omega⟩
      · intro x; simp [Tryz.f169, a169, reg169, loop169, draw169, dok169]
      · rintro ⟨a, c⟩ ⟨ha, hc⟩ hrec2
        clear hrec
        by_cases h0 : c = 0
        · subst h0
          simp [round, Tryz.f169, a169, reg169, loop169, draw169, dok169]
        · have ht : (a : Int).tmod (c : Int) = ((a % c : Nat) : Int) := tmod_nat a c
          have hne : ¬ (c : Int) = 0 := by omega
          have hm : a % c < c := Nat.mod_lt _ (by omega)
          simp [round, Tryz.f169, a169, reg169, loop169, draw169, dok169, h0, ht, endRound_M0, hid]
          refine hrec2 (c, a % c) _ _ ?_ ?_ ?_ ?_
          · exact hm
          · exact ⟨hc, by simp only; omega⟩
          · simp
          · simp only
            rw [Nat.gcd_comm c, ← Nat.gcd_rec, Nat.gcd_comm]
    · clear hrec
      simp [round, Tryz.f169, a169, reg169, loop169, draw169, dok169, hlt]
      rw [List.drop_eq_nil_of_le (by omega)]
      rfl
theorem ev_Nodes (N : Nat) : ∀ (f : Val), f.nodes ≤ N → f.nodes ≤ 1000000000 → ∀ (m : Mem), evCall C0 92 [.agg f.cells] m = some (.ret (.int .i64 f.nodes), m) := by
  induction N with
  | zero => intro f hN; have := f.nodes_pos; omega
  | succ N ih =>
  intro f hN hb m
  rw [evCall_body C0 (C0_ext _ (by decide)) (by rw [C0_P]; exact Tryz.func92) rfl (by rw [C0_ann]; rfl) (by decide) (by simp [Tryz.f92])]
  simp [Tryz.f92, a92, reg92, loop92]
  have hn := Val.nodes_eq f
  refine loop_in (fun x : Nat × Nat => ⟨[(3, .int .i64 x.2), (7, .isl false f.args.length (Val.cellsL f.args)), (8, .int .i64 f.args.length), (9, .int .i64 x.1)], ⟨m.bx ++ [f.cells], m.rw⟩⟩)
    (fun x => some (.ret (.int .i64 (x.2 + Val.nodesL (f.args.drop x.1) : Nat)), m)) (fun x => f.args.length - x.1) (fun x => x.1 ≤ f.args.length ∧ x.2 + Val.nodesL (f.args.drop x.1) ≤ 1000000000) (0, 1) ?_ ?_ ?_ ?_ ?_
  · simp
  · simp [hn]
  · simp; omega
  · intro x; simp [Tryz.f92, a92, reg92, loop92]
  · rintro ⟨i, a⟩ hI hrec
    simp only at hI
    obtain ⟨hi, ha⟩ := hI
    have hlen := f.length_args
    by_cases hlt : i < f.args.length
    · have w2 : IntKind.i64.wrap (i + 1) = i + 1 := wrap_id _ (by omega)
      have hmem := Val.nodes_arg (List.getElem_mem hlt)
      have he := ih f.args[i] (by omega) (by omega)
      simp at he
      rw [Val.nodesL_drop hlt] at ha
      have w3 : IntKind.i64.wrap (a + f.args[i].nodes) = a + f.args[i].nodes := wrap_id _ (by omega)
      clear ih
      have h3 : (i + 1) * 3 ≤ f.args.length * 3 := by omega
      simp [round, Tryz.f92, a92, reg92, loop92, hlt, w2, w3, h3, he]
      refine hrec (i + 1, a + f.args[i].nodes) _ _ ?_ ?_ ?_ ?_
      · simp; omega
      · simp; omega
      · simp
      · simp only
        rw [Val.nodesL_drop hlt]
        simp; omega
    · clear hrec ih
      simp [round, Tryz.f92, a92, reg92, loop92, hlt]
      rw [List.drop_eq_nil_of_le (by omega), Val.nodesL]
      simp
theorem ev_RNodes (N : Nat) : ∀ (f : Val), f.nodes ≤ N → f.nodes ≤ 1000000000 → ∀ (m : Mem), evCall C0 73 [.agg f.cells] m = some (.ret (.int .i64 f.nodes), m) := by
  induction N with
  | zero => intro f hN; have := f.nodes_pos; omega
  | succ N ih =>
  intro f hN hb m
  rw [evCall_body C0 (C0_ext _ (by decide)) (by rw [C0_P]; exact Tryz.func73) rfl (by rw [C0_ann]; rfl) (by decide) (by simp [Tryz.f73])]
  simp [Tryz.f73, a73, reg73, loop73]
  have hn := Val.nodes_eq f
  refine loop_in (fun x : Nat × Nat => ⟨[(3, .int .i64 x.2), (7, .isl false f.args.length (Val.cellsL f.args)), (8, .int .i64 f.args.length), (9, .int .i64 x.1)], ⟨m.bx ++ [f.cells], m.rw⟩⟩)
    (fun x => some (.ret (.int .i64 (x.2 + Val.nodesL (f.args.drop x.1) : Nat)), m)) (fun x => f.args.length - x.1) (fun x => x.1 ≤ f.args.length ∧ x.2 + Val.nodesL (f.args.drop x.1) ≤ 1000000000) (0, 1) ?_ ?_ ?_ ?_ ?_
  · simp
  · simp [hn]
  · simp; omega
  · intro x; simp [Tryz.f73, a73, reg73, loop73]
  · rintro ⟨i, a⟩ hI hrec
    simp only at hI
    obtain ⟨hi, ha⟩ := hI
    have hlen := f.length_args
    by_cases hlt : i < f.args.length
    · have w2 : IntKind.i64.wrap (i + 1) = i + 1 := wrap_id _ (by omega)
      have hmem := Val.nodes_arg (List.getElem_mem hlt)
      have he := ih f.args[i] (by omega) (by omega)
      simp at he
      rw [Val.nodesL_drop hlt] at ha
      have w3 : IntKind.i64.wrap (a + f.args[i].nodes) = a + f.args[i].nodes := wrap_id _ (by omega)
      clear ih
      have h3 : (i + 1) * 3 ≤ f.args.length * 3 := by omega
      simp [round, Tryz.f73, a73, reg73, loop73, hlt, w2, w3, h3, he]
      refine hrec (i + 1, a + f.args[i].nodes) _ _ ?_ ?_ ?_ ?_
      · simp; omega
      · simp; omega
      · simp
      · simp only
        rw [Val.nodesL_drop hlt]
        simp; omega
    · clear hrec ih
      simp [round, Tryz.f73, a73, reg73, loop73, hlt]
      rw [List.drop_eq_nil_of_le (by omega), Val.nodesL]
      simp
def sysX (f : Fun) (x : A) : List A := f.cells ++ [x]
@[simp] theorem sysX_eq (f : Fun) (x : A) : sysX f x = f.cells ++ [x] := _root_.id rfl
def okVs (f : Fun) (n : Nat) (vs : List Val) : Bool := vs.all fun v => (chkV exS n v f 2000).1
def okS (f : Fun) (vs : List Val) : Bool := okF f && decide (vs.length ≤ 100) && okVs f vs.length vs && decide (Val.nodesL vs ≤ 20000)
theorem okVs_drop {f : Fun} {n : Nat} {vs : List Val} {i : Nat} (h : i < vs.length) : okVs f n (vs.drop i) = ((chkV exS n vs[i] f 2000).1 && okVs f n (vs.drop (i + 1))) := by
  unfold okVs
  rw [List.drop_eq_getElem_cons h, List.all_cons]
theorem okF_shapedS {f : Fun} (h : okF f = true) : shapedF f = true := ((okF_iff f).1 h).2.2
set_option maxHeartbeats 1000000 in
theorem ev_SValid (f : Fun) (vs : List Val) (hf : f.nodes ≤ 1000000) (hb : Val.nodesL vs ≤ 1000000) (hs : ∀ v ∈ vs, slimV v) (m : Mem) : evCall C0 43 [.agg (sysX f (.isl false vs.length (Val.cellsL vs)))] m = some (.ret (.bool (okS f vs)), m) := by
  rw [evCall_body C0 (C0_ext _ (by decide)) (by rw [C0_P]; exact Tryz.func43) rfl (by rw [C0_ann]; rfl) (by decide) (by simp [Tryz.f43])]
  have hv := ev_Valid f (by omega)
  have hl := Val.length_nodesL vs
  simp at hv
  unfold okS
  cases hc : okF f
  · simp [Tryz.f43, a43, reg43, loop43, hv, hc]
  by_cases h100 : vs.length ≤ 100
  · have hsh := okF_shapedS hc
    have h100' : ¬ (100 : Int) < vs.length := by omega
    simp [Tryz.f43, a43, reg43, loop43, hv, hc, h100, h100']
    refine loop_in (fun x : Nat × Nat => ⟨[(1, .ptr m.bx.length 0), (3, .int .i64 x.2), (17, .isl false vs.length (Val.cellsL vs)), (18, .int .i64 vs.length), (19, .int .i64 x.1)], ⟨m.bx ++ [sysX f (.isl false vs.length (Val.cellsL vs))], m.rw⟩⟩)
      (fun x => some (.ret (.bool (okVs f vs.length (vs.drop x.1) && decide (x.2 + Val.nodesL (vs.drop x.1) ≤ 20000))), m)) (fun x => vs.length - x.1) (fun x => x.1 ≤ vs.length ∧ x.2 + Val.nodesL (vs.drop x.1) ≤ 1000000) (0, 0) ?_ ?_ ?_ ?_ ?_
    · simp
    · simp
    · simp; omega
    · intro x; simp [Tryz.f43, a43, reg43, loop43]
    · rintro ⟨i, a⟩ hI hrec
      simp only at hI
      obtain ⟨hi, ha⟩ := hI
      by_cases hlt : i < vs.length
      · have w2 : IntKind.i64.wrap (i + 1) = i + 1 := wrap_id _ (by omega)
        have hmem := List.getElem_mem hlt
        have hnm := Val.nodes_mem hmem
        have he := ev_VValid f vs.length vs[i] hsh (by omega) (hs _ hmem)
        have hn := ev_Nodes vs[i].nodes vs[i] (Nat.le_refl _) (by omega)
        simp at he hn
        rw [Val.nodesL_drop hlt] at ha
        have w3 : IntKind.i64.wrap (a + vs[i].nodes) = a + vs[i].nodes := wrap_id _ (by omega)
        have h3 : (i + 1) * 3 ≤ vs.length * 3 := by omega
        rw [okVs_drop hlt]
        cases hcv : (chkV exS vs.length vs[i] f 2000).1
        · simp [round, Tryz.f43, a43, reg43, loop43, hlt, w2, w3, h3, he, hn, hcv]
        · simp [round, Tryz.f43, a43, reg43, loop43, hlt, w2, w3, h3, he, hn, hcv, endRound_M]
          refine hrec (i + 1, a + vs[i].nodes) _ _ ?_ ?_ ?_ ?_
          · simp; omega
          · simp; omega
          · simp
          · simp only
            rw [Val.nodesL_drop hlt]
            simp [Nat.add_assoc]
      · clear hrec
        simp [round, Tryz.f43, a43, reg43, loop43, hlt]
        rw [List.drop_eq_nil_of_le (by omega), Val.nodesL]
        simp [okVs]
        omega
  · have h100' : (100 : Int) < vs.length := by omega
    simp [Tryz.f43, a43, reg43, loop43, hv, hc, h100, h100']
end AE
end Go.Proofs.YtmfdpijmholedaaGreatDoor
/- Systems that came in. -/
set_option linter.unusedVariables false
set_option linter.unusedSimpArgs false
namespace Go.Proofs.YtmfdpijmholedaaGreatDoor
namespace AE
open Go Go.RowKit
set_option maxRecDepth 1000000 in
theorem cSys : Tryz.prog.cellsOf 27 = 4 := by kernel_rfl
set_option maxRecDepth 1000000 in
theorem cFunS : Tryz.prog.cellsOf 24 = 3 := by kernel_rfl
set_option maxRecDepth 100000 in
theorem open_sys {H : Type} {enc : TypeId × Value → H} {W : World} (N fuel : Nat) (hfu : fuel ≤ N) (cs : List Value) (x : DataW H × List MemPlace) (h : DataW.trod enc Tryz.prog W 0 (fun _ => true) true fuel 27 cs = some x) : ∃ (f : Fun) (vs : List Val), VRs W (g0 W) (sysX f (.isl false vs.length (Val.cellsL vs))) cs := by
  cases fuel with
  | zero => simp [DataW.trod] at h
  | succ N' =>
    obtain ⟨xs, n, hn, rfl, hlen, hxl, hf⟩ := DataW.trod_struct Tryz.underlying27 h
    rw [cSys] at hlen
    have hxl2 : xs.length = 2 := hxl
    clear hxl
    obtain ⟨a0, a1, a2, a3, rfl⟩ : ∃ a0 a1 a2 a3, cs = [a0, a1, a2, a3] := by
      match cs, hlen with
      | [a0, a1, a2, a3], _ => exact ⟨a0, a1, a2, a3, rfl⟩
    obtain ⟨x0, x1, rfl⟩ : ∃ x0 x1, xs = [x0, x1] := by
      match xs, hxl2 with
      | [a0, a1], _ => exact ⟨a0, a1, rfl⟩
    have h0 := hf 0 _ rfl
    have h1 := hf 1 _ rfl
    simp [cFunS, cVals] at h0 h1
    obtain ⟨f, hf0⟩ := open_fun _ _ (Nat.le_refl _) _ _ h0
    obtain ⟨l, v, e1, hv⟩ := open_slice (by decide) Tryz.underlying25 cVal Val.cells Val.cells_length (fun n' hn' ds y hy => open_val _ _ (Nat.le_refl _) ds y hy) h1
    simp at e1
    subst e1
    rw [Val.flat] at hv
    exact ⟨f, l, hf0.append (.one hv)⟩
end AE
end Go.Proofs.YtmfdpijmholedaaGreatDoor
/- When a system is valid: the program, the reference; its values as they come, or in a row. Printed by mkY2.py. -/
set_option linter.unusedVariables false
set_option linter.unusedSimpArgs false
namespace Go.Proofs.YtmfdpijmholedaaGreatDoor
namespace AE
open Go
set_option maxHeartbeats 1000000 in
theorem ev_SValidR (f : Fun) (vs : List Val) (hf : f.nodes ≤ 1000000) (hb : Val.nodesL vs ≤ 1000000) (hs : ∀ v ∈ vs, slimV v) (m : Mem) (id : Nat) (hR : m.rw[id]? = some ⟨47, Val.cellsL vs⟩) : evCall C0 43 [.agg (sysX f (.sl id (vs.length * 3) 0 vs.length))] m = some (.ret (.bool (okS f vs)), m) := by
  have hid : id < m.rw.length := (List.getElem?_eq_some_iff.1 hR).1
  have hR2 := (List.getElem?_eq_some_iff.1 hR).2
  rw [evCall_body C0 (C0_ext _ (by decide)) (by rw [C0_P]; exact Tryz.func43) rfl (by rw [C0_ann]; rfl) (by decide) (by simp [Tryz.f43])]
  have hv := ev_Valid f (by omega)
  have hl := Val.length_nodesL vs
  simp at hv
  unfold okS
  cases hc : okF f
  · simp [Tryz.f43, a43, reg43, loop43, hv, hc, hid, hR2]
  by_cases h100 : vs.length ≤ 100
  · have hsh := okF_shapedS hc
    have h100' : ¬ (100 : Int) < vs.length := by omega
    simp [Tryz.f43, a43, reg43, loop43, hv, hc, h100, h100', hid, hR2]
    refine loop_in (fun x : Nat × Nat => ⟨[(1, .ptr m.bx.length 0), (3, .int .i64 x.2), (17, (.sl id (vs.length * 3) 0 vs.length)), (18, .int .i64 vs.length), (19, .int .i64 x.1)], ⟨m.bx ++ [sysX f (.sl id (vs.length * 3) 0 vs.length)], m.rw⟩⟩)
      (fun x => some (.ret (.bool (okVs f vs.length (vs.drop x.1) && decide (x.2 + Val.nodesL (vs.drop x.1) ≤ 20000))), m)) (fun x => vs.length - x.1) (fun x => x.1 ≤ vs.length ∧ x.2 + Val.nodesL (vs.drop x.1) ≤ 1000000) (0, 0) ?_ ?_ ?_ ?_ ?_
    · simp
    · simp
    · simp; omega
    · intro x; simp [Tryz.f43, a43, reg43, loop43]
    · rintro ⟨i, a⟩ hI hrec
      simp only at hI
      obtain ⟨hi, ha⟩ := hI
      by_cases hlt : i < vs.length
      · have w2 : IntKind.i64.wrap (i + 1) = i + 1 := wrap_id _ (by omega)
        have hmem := List.getElem_mem hlt
        have hnm := Val.nodes_mem hmem
        have he := ev_VValid f vs.length vs[i] hsh (by omega) (hs _ hmem)
        have hn := ev_Nodes vs[i].nodes vs[i] (Nat.le_refl _) (by omega)
        simp at he hn
        rw [Val.nodesL_drop hlt] at ha
        have w3 : IntKind.i64.wrap (a + vs[i].nodes) = a + vs[i].nodes := wrap_id _ (by omega)
        have h3 : (i + 1) * 3 ≤ vs.length * 3 := by omega
        have h3' : i * 3 + 3 ≤ vs.length * 3 := by omega
        rw [okVs_drop hlt]
        cases hcv : (chkV exS vs.length vs[i] f 2000).1
        · simp [round, Tryz.f43, a43, reg43, loop43, hlt, w2, w3, h3, h3', he, hn, hcv, hid, hR2]
        · simp [round, Tryz.f43, a43, reg43, loop43, hlt, w2, w3, h3, h3', he, hn, hcv, hid, hR2]
          refine hrec (i + 1, a + vs[i].nodes) _ _ ?_ ?_ ?_ ?_
          · simp; omega
          · simp; omega
          · simp
          · simp only
            rw [Val.nodesL_drop hlt]
            simp [Nat.add_assoc]
      · clear hrec
        simp [round, Tryz.f43, a43, reg43, loop43, hlt]
        rw [List.drop_eq_nil_of_le (by omega), Val.nodesL]
        simp [okVs]
        omega
  · have h100' : (100 : Int) < vs.length := by omega
    simp [Tryz.f43, a43, reg43, loop43, hv, hc, h100, h100', hid, hR2]
set_option maxHeartbeats 1000000 in
theorem ev_SRIs (f : Fun) (vs : List Val) (hf : f.nodes ≤ 1000000) (hb : Val.nodesL vs ≤ 1000000) (hs : ∀ v ∈ vs, slimV v) (m : Mem) : evCall C0 26 [.agg (sysX f (.isl false vs.length (Val.cellsL vs)))] m = some (.ret (.bool (okS f vs)), m) := by
  rw [evCall_body C0 (C0_ext _ (by decide)) (by rw [C0_P]; exact Tryz.func26) rfl (by rw [C0_ann]; rfl) (by decide) (by simp [Tryz.f26])]
  have hv := ev_Is f (by omega)
  have hl := Val.length_nodesL vs
  rw [show (decide (0 < leftF f 21) && decide (f.depth ≤ 8) && shapedF f) = isF f from rfl] at hv
  simp at hv
  unfold okS
  rw [← isF_okF]
  cases hc : isF f
  · simp [Tryz.f26, a26, reg26, loop26, hv, hc]
  by_cases h100 : vs.length ≤ 100
  · have hsh := okF_shapedS (by rw [← isF_okF]; exact hc)
    have h100' : ¬ (100 : Int) < vs.length := by omega
    simp [Tryz.f26, a26, reg26, loop26, hv, hc, h100, h100']
    refine loop_in (fun x : Nat × Nat => ⟨[(1, .ptr m.bx.length 0), (3, .int .i64 x.2), (17, (.isl false vs.length (Val.cellsL vs))), (18, .int .i64 vs.length), (19, .int .i64 x.1)], ⟨m.bx ++ [sysX f (.isl false vs.length (Val.cellsL vs))], m.rw⟩⟩)
      (fun x => some (.ret (.bool (okVs f vs.length (vs.drop x.1) && decide (x.2 + Val.nodesL (vs.drop x.1) ≤ 20000))), m)) (fun x => vs.length - x.1) (fun x => x.1 ≤ vs.length ∧ x.2 + Val.nodesL (vs.drop x.1) ≤ 1000000) (0, 0) ?_ ?_ ?_ ?_ ?_
    · simp
    · simp
    · simp; omega
    · intro x; simp [Tryz.f26, a26, reg26, loop26]
    · rintro ⟨i, a⟩ hI hrec
      simp only at hI
      obtain ⟨hi, ha⟩ := hI
      by_cases hlt : i < vs.length
      · have w2 : IntKind.i64.wrap (i + 1) = i + 1 := wrap_id _ (by omega)
        have hmem := List.getElem_mem hlt
        have hnm := Val.nodes_mem hmem
        have he := ev_RIsV f vs.length vs[i] hsh (by omega) (by omega) (by omega) (hs _ hmem)
        have hn := ev_RNodes vs[i].nodes vs[i] (Nat.le_refl _) (by omega)
        simp at he hn
        rw [Val.nodesL_drop hlt] at ha
        have w3 : IntKind.i64.wrap (a + vs[i].nodes) = a + vs[i].nodes := wrap_id _ (by omega)
        have h3 : (i + 1) * 3 ≤ vs.length * 3 := by omega
        have h3' : i * 3 + 3 ≤ vs.length * 3 := by omega
        rw [okVs_drop hlt]
        cases hcv : (chkV exS vs.length vs[i] f 2000).1
        · simp [round, Tryz.f26, a26, reg26, loop26, hlt, w2, w3, h3, h3', he, hn, hcv]
        · simp [round, Tryz.f26, a26, reg26, loop26, hlt, w2, w3, h3, h3', he, hn, hcv]
          refine hrec (i + 1, a + vs[i].nodes) _ _ ?_ ?_ ?_ ?_
          · simp; omega
          · simp; omega
          · simp
          · simp only
            rw [Val.nodesL_drop hlt]
            simp [Nat.add_assoc]
      · clear hrec
        simp [round, Tryz.f26, a26, reg26, loop26, hlt]
        rw [List.drop_eq_nil_of_le (by omega), Val.nodesL]
        simp [okVs]
        omega
  · have h100' : (100 : Int) < vs.length := by omega
    simp [Tryz.f26, a26, reg26, loop26, hv, hc, h100, h100']
set_option maxHeartbeats 1000000 in
theorem ev_SRIsR (f : Fun) (vs : List Val) (hf : f.nodes ≤ 1000000) (hb : Val.nodesL vs ≤ 1000000) (hs : ∀ v ∈ vs, slimV v) (m : Mem) (id : Nat) (hR : m.rw[id]? = some ⟨47, Val.cellsL vs⟩) : evCall C0 26 [.agg (sysX f (.sl id (vs.length * 3) 0 vs.length))] m = some (.ret (.bool (okS f vs)), m) := by
  have hid : id < m.rw.length := (List.getElem?_eq_some_iff.1 hR).1
  have hR2 := (List.getElem?_eq_some_iff.1 hR).2
  rw [evCall_body C0 (C0_ext _ (by decide)) (by rw [C0_P]; exact Tryz.func26) rfl (by rw [C0_ann]; rfl) (by decide) (by simp [Tryz.f26])]
  have hv := ev_Is f (by omega)
  have hl := Val.length_nodesL vs
  rw [show (decide (0 < leftF f 21) && decide (f.depth ≤ 8) && shapedF f) = isF f from rfl] at hv
  simp at hv
  unfold okS
  rw [← isF_okF]
  cases hc : isF f
  · simp [Tryz.f26, a26, reg26, loop26, hv, hc, hid, hR2]
  by_cases h100 : vs.length ≤ 100
  · have hsh := okF_shapedS (by rw [← isF_okF]; exact hc)
    have h100' : ¬ (100 : Int) < vs.length := by omega
    simp [Tryz.f26, a26, reg26, loop26, hv, hc, h100, h100', hid, hR2]
    refine loop_in (fun x : Nat × Nat => ⟨[(1, .ptr m.bx.length 0), (3, .int .i64 x.2), (17, (.sl id (vs.length * 3) 0 vs.length)), (18, .int .i64 vs.length), (19, .int .i64 x.1)], ⟨m.bx ++ [sysX f (.sl id (vs.length * 3) 0 vs.length)], m.rw⟩⟩)
      (fun x => some (.ret (.bool (okVs f vs.length (vs.drop x.1) && decide (x.2 + Val.nodesL (vs.drop x.1) ≤ 20000))), m)) (fun x => vs.length - x.1) (fun x => x.1 ≤ vs.length ∧ x.2 + Val.nodesL (vs.drop x.1) ≤ 1000000) (0, 0) ?_ ?_ ?_ ?_ ?_
    · simp
    · simp
    · simp; omega
    · intro x; simp [Tryz.f26, a26, reg26, loop26]
    · rintro ⟨i, a⟩ hI hrec
      simp only at hI
      obtain ⟨hi, ha⟩ := hI
      by_cases hlt : i < vs.length
      · have w2 : IntKind.i64.wrap (i + 1) = i + 1 := wrap_id _ (by omega)
        have hmem := List.getElem_mem hlt
        have hnm := Val.nodes_mem hmem
        have he := ev_RIsV f vs.length vs[i] hsh (by omega) (by omega) (by omega) (hs _ hmem)
        have hn := ev_RNodes vs[i].nodes vs[i] (Nat.le_refl _) (by omega)
        simp at he hn
        rw [Val.nodesL_drop hlt] at ha
        have w3 : IntKind.i64.wrap (a + vs[i].nodes) = a + vs[i].nodes := wrap_id _ (by omega)
        have h3 : (i + 1) * 3 ≤ vs.length * 3 := by omega
        have h3' : i * 3 + 3 ≤ vs.length * 3 := by omega
        rw [okVs_drop hlt]
        cases hcv : (chkV exS vs.length vs[i] f 2000).1
        · simp [round, Tryz.f26, a26, reg26, loop26, hlt, w2, w3, h3, h3', he, hn, hcv, hid, hR2]
        · simp [round, Tryz.f26, a26, reg26, loop26, hlt, w2, w3, h3, h3', he, hn, hcv, hid, hR2]
          refine hrec (i + 1, a + vs[i].nodes) _ _ ?_ ?_ ?_ ?_
          · simp; omega
          · simp; omega
          · simp
          · simp only
            rw [Val.nodesL_drop hlt]
            simp [Nat.add_assoc]
      · clear hrec
        simp [round, Tryz.f26, a26, reg26, loop26, hlt]
        rw [List.drop_eq_nil_of_le (by omega), Val.nodesL]
        simp [okVs]
        omega
  · have h100' : (100 : Int) < vs.length := by omega
    simp [Tryz.f26, a26, reg26, loop26, hv, hc, h100, h100', hid, hR2]
theorem sameF_refl (f : Fun) : sameF f f = true := (sameF_iff f f).2 rfl
def fewS (f : Fun) (vs : List Val) (most : Int) : Bool := decide ((vs.length : Int) ≤ most) && decide (0 < leftF f (most + 1)) && (vs.all fun v => fewV v most) && decide ((Val.nodesL vs : Int) ≤ most)
theorem fewL_drop {vs : List Val} {most : Int} {i : Nat} (h : i < vs.length) : ((vs.drop i).all fun v => fewV v most) = (fewV vs[i] most && (vs.drop (i + 1)).all fun v => fewV v most) := by
  rw [List.drop_eq_getElem_cons h, List.all_cons]
theorem few_nodes {most : Int} (h0 : 0 ≤ most) : ∀ {vs : List Val}, (vs.all fun v => fewV v most) = true → (Val.nodesL vs : Int) ≤ vs.length * most
  | [], _ => by rw [Val.nodesL]; simp
  | v :: r, h => by
    rw [List.all_cons, Bool.and_eq_true] at h
    have h1 := fewV_nodes h0 h.1
    have h2 := few_nodes h0 h.2
    rw [Val.nodesL, List.length_cons]
    have h3 : ((r.length + 1 : Nat) : Int) * most = r.length * most + most := by rw [Int.natCast_add, Int.add_mul]; simp
    omega
set_option maxHeartbeats 1000000 in
theorem ev_SFew (f : Fun) (vs : List Val) (most : Int) (h0 : 0 ≤ most) (h1 : most ≤ 1000000) (m : Mem) : evCall C0 34 [.agg (sysX f (.isl false vs.length (Val.cellsL vs))), .int .i64 most] m = some (.ret (.bool (fewS f vs most)), m) := by
  rw [evCall_body C0 (C0_ext _ (by decide)) (by rw [C0_P]; exact Tryz.func34) rfl (by rw [C0_ann]; rfl) (by decide) (by simp [Tryz.f34])]
  have hfe := ev_Few f most
  simp at hfe
  have hfe' := fun m => hfe m (by omega) (by omega)
  unfold fewS
  by_cases hl : (vs.length : Int) ≤ most
  case neg =>
    have hl' : most < vs.length := by omega
    simp [Tryz.f34, a34, reg34, loop34, hl, hl']
  have hl' : ¬ most < vs.length := by omega
  by_cases hc : 0 < leftF f (most + 1)
  case neg => simp [Tryz.f34, a34, reg34, loop34, hl, hl', hfe', hc]
  simp [Tryz.f34, a34, reg34, loop34, hl, hl', hfe', hc]
  refine loop_in (fun x : Nat × Nat => ⟨[(1, .int .i64 most), (5, .int .i64 x.2), (21, .isl false vs.length (Val.cellsL vs)), (22, .int .i64 vs.length), (23, .int .i64 x.1)], ⟨m.bx ++ [sysX f (.isl false vs.length (Val.cellsL vs))], m.rw⟩⟩)
    (fun x => some (.ret (.bool (((vs.drop x.1).all fun v => fewV v most) && decide ((x.2 + Val.nodesL (vs.drop x.1) : Nat) ≤ most))), m)) (fun x => vs.length - x.1) (fun x => x.1 ≤ vs.length ∧ (x.2 : Int) ≤ most) (0, 0) ?_ ?_ ?_ ?_ ?_
  · simp
  · simp
  · simp; omega
  · intro x; simp [Tryz.f34, a34, reg34, loop34]
  · rintro ⟨i, a⟩ hI hrec
    simp only at hI
    obtain ⟨hi, ha⟩ := hI
    by_cases hlt : i < vs.length
    · have w2 : IntKind.i64.wrap (i + 1) = i + 1 := wrap_id _ (by omega)
      have he := ev_FewV vs[i] most
      simp at he
      have he' := fun m => he m (by omega) (by omega)
      have h3 : (i + 1) * 3 ≤ vs.length * 3 := by omega
      rw [fewL_drop hlt, Val.nodesL_drop hlt]
      cases hcv : fewV vs[i] most
      · simp [round, Tryz.f34, a34, reg34, loop34, hlt, w2, h3, he', hcv]
      · have hnd := fewV_nodes h0 hcv
        have hn := ev_RNodes vs[i].nodes vs[i] (Nat.le_refl _) (by omega)
        simp at hn
        have w3 : IntKind.i64.wrap (a + vs[i].nodes) = a + vs[i].nodes := wrap_id _ (by omega)
        by_cases hover : most < (a : Int) + vs[i].nodes
        · have hno : ¬ ((a : Int) + (vs[i].nodes + Val.nodesL (vs.drop (i + 1)))) ≤ most := by omega
          simp [round, Tryz.f34, a34, reg34, loop34, hlt, w2, w3, h3, he', hn, hcv, hover, hno]
        · simp [round, Tryz.f34, a34, reg34, loop34, hlt, w2, w3, h3, he', hn, hcv, hover]
          refine hrec (i + 1, a + vs[i].nodes) _ _ ?_ ?_ ?_ ?_
          · simp; omega
          · simp; omega
          · simp
          · simp [Int.add_assoc]
    · clear hrec
      simp [round, Tryz.f34, a34, reg34, loop34, hlt]
      rw [List.drop_eq_nil_of_le (by omega), Val.nodesL]
      simp
      omega
def chkE (f : Fun) (vs : List Val) : Int := if okS f vs then 0 else 30
theorem ev_SCheck (f : Fun) (vs : List Val) (hf : f.nodes ≤ 1000000) (hb : Val.nodesL vs ≤ 1000000) (hs : ∀ v ∈ vs, slimV v) (m : Mem) : evCall C0 21 [.agg (sysX f (.isl false vs.length (Val.cellsL vs)))] m = some (.ret (.int .i64 (chkE f vs)), m) := by
  rw [evCall_body C0 (C0_ext _ (by decide)) (by rw [C0_P]; exact Tryz.func21) rfl (by rw [C0_ann]; rfl) (by decide) (by simp [Tryz.f21])]
  have hv := ev_SValid f vs hf hb hs
  simp at hv
  unfold chkE
  cases hc : okS f vs <;> simp [Tryz.f21, a21, reg21, hv, hc]
theorem ev_SCheckR (f : Fun) (vs : List Val) (hf : f.nodes ≤ 1000000) (hb : Val.nodesL vs ≤ 1000000) (hs : ∀ v ∈ vs, slimV v) (m : Mem) (id : Nat) (hR : m.rw[id]? = some ⟨47, Val.cellsL vs⟩) : evCall C0 21 [.agg (sysX f (.sl id (vs.length * 3) 0 vs.length))] m = some (.ret (.int .i64 (chkE f vs)), m) := by
  rw [evCall_body C0 (C0_ext _ (by decide)) (by rw [C0_P]; exact Tryz.func21) rfl (by rw [C0_ann]; rfl) (by decide) (by simp [Tryz.f21])]
  have hv := fun bx => ev_SValidR f vs hf hb hs ⟨bx, m.rw⟩ id hR
  simp at hv
  unfold chkE
  cases hc : okS f vs <;> simp [Tryz.f21, a21, reg21, hv, hc]
theorem ev_lfew1 (f : Fun) (vs : List Val) (m : Mem) (fl : Bool) : evCall C0 9 [.isl fl 1 (sysX f (.isl false vs.length (Val.cellsL vs)))] m = some (.ret (.bool (fewS f vs 1500)), m) := by
  rw [evCall_body C0 (C0_ext _ (by decide)) (by rw [C0_P]; exact Tryz.func9) rfl (by rw [C0_ann]; rfl) (by decide) (by simp [Tryz.f9])]
  have he := ev_SFew f vs 1500 (by omega) (by omega)
  simp at he
  simp [Tryz.f9, a9, reg9, loop9]
  rw [evCode_loop]
  cases hc : fewS f vs 1500
  · simp [round, Tryz.f9, a9, reg9, loop9, he, hc]
  · simp [round, Tryz.f9, a9, reg9, loop9, he, hc, endRound_M0, endRound_M]
    rw [evCode_loop]
    simp [round, Tryz.f9, a9, reg9, loop9]
theorem ev_lfew2 (f g : Fun) (vs ws : List Val) (m : Mem) (fl : Bool) : evCall C0 9 [.isl fl 2 (sysX f (.isl false vs.length (Val.cellsL vs)) ++ sysX g (.isl false ws.length (Val.cellsL ws)))] m = some (.ret (.bool (fewS f vs 1500 && fewS g ws 1500)), m) := by
  rw [evCall_body C0 (C0_ext _ (by decide)) (by rw [C0_P]; exact Tryz.func9) rfl (by rw [C0_ann]; rfl) (by decide) (by simp [Tryz.f9])]
  have he := ev_SFew f vs 1500 (by omega) (by omega)
  have he2 := ev_SFew g ws 1500 (by omega) (by omega)
  simp at he he2
  have w2 : IntKind.i64.wrap 2 = 2 := wrap_id _ (by omega)
  simp [Tryz.f9, a9, reg9, loop9]
  rw [evCode_loop]
  cases hc : fewS f vs 1500
  · simp [round, Tryz.f9, a9, reg9, loop9, he, hc]
  · simp [round, Tryz.f9, a9, reg9, loop9, he, hc, endRound_M0, endRound_M]
    rw [evCode_loop]
    cases hc2 : fewS g ws 1500
    · simp [round, Tryz.f9, a9, reg9, loop9, he2, hc2]
    · simp [round, Tryz.f9, a9, reg9, loop9, he2, hc2, endRound_M0, endRound_M]
      rw [evCode_loop]
      simp [round, Tryz.f9, a9, reg9, loop9, w2]
theorem ev_fault1 (f : Fun) (vs : List Val) (hf : f.nodes ≤ 1000000) (hb : Val.nodesL vs ≤ 1000000) (hs : ∀ v ∈ vs, slimV v) (m : Mem) (fl : Bool) : evCall C0 12 [.isl fl 1 (sysX f (.isl false vs.length (Val.cellsL vs)))] m = some (.ret (.int .i64 (chkE f vs)), m) := by
  rw [evCall_body C0 (C0_ext _ (by decide)) (by rw [C0_P]; exact Tryz.func12) rfl (by rw [C0_ann]; rfl) (by decide) (by simp [Tryz.f12])]
  have he := ev_SRIs f vs hf hb hs
  have hsm := ev_RSame f.nodes f f (Nat.le_refl _) (by omega)
  simp at he hsm
  unfold chkE
  simp [Tryz.f12, a12, reg12, loop12, draw12, dok12]
  rw [evCode_loop]
  cases hc : okS f vs
  · simp [round, Tryz.f12, a12, reg12, loop12, draw12, dok12, he, hc]
  · simp [round, Tryz.f12, a12, reg12, loop12, draw12, dok12, he, hc, endRound_M0, endRound_M]
    rw [evCode_loop]
    simp [round, Tryz.f12, a12, reg12, loop12, draw12, dok12]
    rw [evCode_loop]
    simp [round, Tryz.f12, a12, reg12, loop12, draw12, dok12, hsm, sameF_refl, endRound_M0, endRound_M]
    rw [evCode_loop]
    simp [round, Tryz.f12, a12, reg12, loop12, draw12, dok12]
theorem ev_fault1R (f : Fun) (vs : List Val) (hf : f.nodes ≤ 1000000) (hb : Val.nodesL vs ≤ 1000000) (hs : ∀ v ∈ vs, slimV v) (m : Mem) (fl : Bool) (id : Nat) (hR : m.rw[id]? = some ⟨47, Val.cellsL vs⟩) : evCall C0 12 [.isl fl 1 (sysX f (.sl id (vs.length * 3) 0 vs.length))] m = some (.ret (.int .i64 (chkE f vs)), m) := by
  have hid : id < m.rw.length := (List.getElem?_eq_some_iff.1 hR).1
  rw [evCall_body C0 (C0_ext _ (by decide)) (by rw [C0_P]; exact Tryz.func12) rfl (by rw [C0_ann]; rfl) (by decide) (by simp [Tryz.f12])]
  have he := fun bx => ev_SRIsR f vs hf hb hs ⟨bx, m.rw⟩ id hR
  have hsm := ev_RSame f.nodes f f (Nat.le_refl _) (by omega)
  simp at he hsm
  unfold chkE
  simp [Tryz.f12, a12, reg12, loop12, draw12, dok12]
  rw [evCode_loop]
  cases hc : okS f vs
  · simp [round, Tryz.f12, a12, reg12, loop12, draw12, dok12, he, hc, hid]
  · simp [round, Tryz.f12, a12, reg12, loop12, draw12, dok12, he, hc, endRound_M0, endRound_M, hid]
    rw [evCode_loop]
    simp [round, Tryz.f12, a12, reg12, loop12, draw12, dok12, hid]
    rw [evCode_loop]
    simp [round, Tryz.f12, a12, reg12, loop12, draw12, dok12, hsm, sameF_refl, endRound_M0, endRound_M, hid]
    rw [evCode_loop]
    simp [round, Tryz.f12, a12, reg12, loop12, draw12, dok12, hid]
def sameVL : List Val → List Val → Bool
  | [], [] => true
  | f :: r, g :: s => decide (cmpV f g = 0) && sameVL r s
  | _, _ => false
theorem sameVL_ne : ∀ {l r : List Val}, ¬ l.length = r.length → sameVL l r = false
  | [], [], h => absurd rfl h
  | [], _ :: _, _ => rfl
  | _ :: _, [], _ => rfl
  | f :: r, g :: s, h => by rw [sameVL, sameVL_ne (by simpa using h), Bool.and_false]
theorem sameVL_drop {l r : List Val} {i : Nat} (h : i < l.length) (h' : i < r.length) : sameVL (l.drop i) (r.drop i) = (decide (cmpV l[i] r[i] = 0) && sameVL (l.drop (i + 1)) (r.drop (i + 1))) := by
  rw [List.drop_eq_getElem_cons h, List.drop_eq_getElem_cons h', sameVL]
def sameS (f g : Fun) (vs ws : List Val) : Bool := sameF f g && sameVL vs ws
set_option maxHeartbeats 1000000 in
theorem ev_EqualV (l r : List Val) (b b' : Bool) (hb : l.length ≤ 1000000000) (hS : ∀ (f g : Val) (m : Mem), f ∈ l → evCall C0 38 [.agg f.cells, .agg g.cells] m = some (.ret (.bool (decide (cmpV f g = 0))), m)) (m : Mem) :
    evCall C0 66 [.isl b l.length (Val.cellsL l), .isl b' r.length (Val.cellsL r), .fn 38 []] m = some (.ret (.bool (sameVL l r)), m) := by
  rw [evCall_body C0 (C0_ext _ (by decide)) (by rw [C0_P]; exact Tryz.func66) rfl (by rw [C0_ann]; rfl) (by decide) (by simp [Tryz.f66])]
  by_cases c1 : l.length = r.length
  case neg =>
    have d1 : ¬ (l.length : Int) = r.length := by omega
    simp [Tryz.f66, a66, reg66, loop66, d1, sameVL_ne c1]
  have d1 : (l.length : Int) = r.length := by omega
  simp [Tryz.f66, a66, reg66, loop66, eq_true d1]
  refine loop_in (fun i : Nat => ⟨[(1, .isl b' r.length (Val.cellsL r)), (2, .fn 38 []), (15, .isl b l.length (Val.cellsL l)), (16, .int .i64 l.length), (17, .int .i64 i)], m⟩)
    (fun i => some (.ret (.bool (sameVL (l.drop i) (r.drop i))), m)) (fun i => l.length - i) (fun i => i ≤ l.length) 0 ?_ ?_ ?_ ?_ ?_
  · simp
  · simp
  · omega
  · intro x; simp [Tryz.f66, a66, reg66, loop66]
  · intro i hi hrec
    by_cases hlt : i < l.length
    · have w2 : IntKind.i64.wrap (i + 1) = i + 1 := wrap_id _ (by omega)
      have hlt' : i < r.length := by omega
      have he := fun m => hS l[i] r[i] m (List.getElem_mem hlt)
      simp at he
      have h3 : (i + 1) * 3 ≤ l.length * 3 := by omega
      have h3' : (i + 1) * 3 ≤ r.length * 3 := by omega
      rw [sameVL_drop hlt hlt']
      by_cases hc : cmpV l[i] r[i] = 0
      · simp [hc] at he
        simp [round, Tryz.f66, a66, reg66, loop66, hlt, hlt', w2, h3, h3', he, hc, endRound_M]
        refine hrec (i + 1) _ _ ?_ ?_ ?_ ?_
        · omega
        · omega
        · simp
        · simp
      · simp [hc] at he
        simp [round, Tryz.f66, a66, reg66, loop66, hlt, hlt', w2, h3, h3', he, hc]
    · clear hrec
      simp [round, Tryz.f66, a66, reg66, loop66, hlt]
      rw [List.drop_eq_nil_of_le (by omega), List.drop_eq_nil_of_le (by omega), sameVL]
theorem ev_SSame (f g : Fun) (vs ws : List Val) (hf : f.nodes ≤ 1000000) (hb : Val.nodesL vs ≤ 1000000) (hs : ∀ v ∈ vs, slimV v) (m : Mem) :
    evCall C0 22 [.agg (sysX f (.isl false vs.length (Val.cellsL vs))), .agg (sysX g (.isl false ws.length (Val.cellsL ws)))] m = some (.ret (.bool (sameS f g vs ws)), m) := by
  rw [evCall_body C0 (C0_ext _ (by decide)) (by rw [C0_P]; exact Tryz.func22) rfl (by rw [C0_ann]; rfl) (by decide) (by simp [Tryz.f22])]
  have h1 := ev_Same f.nodes f g (Nat.le_refl _) (by omega)
  have h2 := ev_EqualV vs ws false false (by have := Val.length_nodesL vs; omega) (fun u v m hu => ev_vSame u v (by have := Val.nodes_mem hu; omega) (hs _ hu) m)
  simp at h1 h2
  unfold sameS
  cases hc : sameF f g <;> simp [Tryz.f22, a22, reg22, h1, h2, hc]
set_option maxHeartbeats 1000000 in
theorem ev_SRSame (f g : Fun) (vs ws : List Val) (hf : f.nodes ≤ 1000000) (hb : Val.nodesL vs ≤ 1000000) (hs : ∀ v ∈ vs, slimV v) (m : Mem) :
    evCall C0 16 [.agg (sysX f (.isl false vs.length (Val.cellsL vs))), .agg (sysX g (.isl false ws.length (Val.cellsL ws)))] m = some (.ret (.bool (sameS f g vs ws)), m) := by
  rw [evCall_body C0 (C0_ext _ (by decide)) (by rw [C0_P]; exact Tryz.func16) rfl (by rw [C0_ann]; rfl) (by decide) (by simp [Tryz.f16])]
  have h1 := ev_RSame f.nodes f g (Nat.le_refl _) (by omega)
  have hl := Val.length_nodesL vs
  simp at h1
  unfold sameS
  cases hc : sameF f g
  · simp [Tryz.f16, a16, reg16, loop16, draw16, dok16, h1, hc]
  by_cases c1 : vs.length = ws.length
  case neg =>
    have d1 : ¬ (vs.length : Int) = ws.length := by omega
    simp [Tryz.f16, a16, reg16, loop16, draw16, dok16, h1, hc, d1, sameVL_ne c1]
  have d1 : (vs.length : Int) = ws.length := by omega
  simp [Tryz.f16, a16, reg16, loop16, draw16, dok16, h1, hc, eq_true d1]
  refine loop_in (fun i : Nat => ⟨[(2, .ptr m.bx.length 0), (3, .ptr (m.bx.length + 1) 0), (23, .int .i64 vs.length), (24, .int .i64 i)], ⟨m.bx ++ [sysX f (.isl false vs.length (Val.cellsL vs)), sysX g (.isl false ws.length (Val.cellsL ws))], m.rw⟩⟩)
    (fun i => some (.ret (.bool (sameVL (vs.drop i) (ws.drop i))), m)) (fun i => vs.length - i) (fun i => i ≤ vs.length) 0 ?_ ?_ ?_ ?_ ?_
  · simp
  · simp
  · omega
  · intro x; simp [Tryz.f16, a16, reg16, loop16, draw16, dok16]
  · intro i hi hrec
    by_cases hlt : i < vs.length
    · have w2 : IntKind.i64.wrap (i + 1) = i + 1 := wrap_id _ (by omega)
      have hlt' : i < ws.length := by omega
      have hmem := List.getElem_mem hlt
      have he := ev_RSameV vs[i] ws[i] (by have := Val.nodes_mem hmem; omega) (hs _ hmem)
      simp at he
      have h3 : (i + 1) * 3 ≤ vs.length * 3 := by omega
      have h3' : (i + 1) * 3 ≤ ws.length * 3 := by omega
      rw [sameVL_drop hlt hlt']
      by_cases hc : cmpV vs[i] ws[i] = 0
      · simp [hc] at he
        simp [round, Tryz.f16, a16, reg16, loop16, draw16, dok16, hlt, hlt', w2, h3, h3', he, hc]
        refine hrec (i + 1) _ _ ?_ ?_ ?_ ?_
        · omega
        · omega
        · simp
        · simp
      · simp [hc] at he
        simp [round, Tryz.f16, a16, reg16, loop16, draw16, dok16, hlt, hlt', w2, h3, h3', he, hc]
    · clear hrec
      simp [round, Tryz.f16, a16, reg16, loop16, draw16, dok16, hlt]
      rw [List.drop_eq_nil_of_le (by omega), List.drop_eq_nil_of_le (by omega), sameVL]
set_option maxHeartbeats 2000000 in
theorem ev_SCopy (f : Fun) (vs : List Val) (hf : f.nodes ≤ 1000000) (hb : Val.nodesL vs ≤ 1000000) (hs : ∀ v ∈ vs, slimV v) (m : Mem) : evCall C0 23 [.agg (sysX f (.isl false vs.length (Val.cellsL vs)))] m = some (.ret (.agg (sysX f (.isl false vs.length (Val.cellsL vs)))), m) := by
  rw [evCall_body C0 (C0_ext _ (by decide)) (by rw [C0_P]; exact Tryz.func23) rfl (by rw [C0_ann]; rfl) (by decide) (by simp [Tryz.f23])]
  have hlen := Val.length_nodesL vs
  have hcf := ev_Copy f.nodes f (Nat.le_refl _) (by omega)
  simp at hcf
  simp [Tryz.f23, a23, reg23, loop23, draw23, dok23, hcf]
  by_cases h0 : 0 < vs.length
  case neg =>
    have : vs = [] := List.eq_nil_of_length_eq_zero (by omega)
    rw [evCode_loop]
    subst this
    simp [round, Tryz.f23, a23, reg23, loop23, draw23, dok23]
  have hne : vs ≠ [] := by rintro rfl; simp at h0
  have hm0 := List.getElem_mem h0
  have he0 := ev_VCopy vs[0].nodes vs[0] (Nat.le_refl _) (by have := Val.nodes_mem hm0; omega) (hs _ hm0)
  simp at he0
  rw [evCode_loop]
  have h3 : 3 ≤ vs.length * 3 := by omega
  have g3 := Val.at_cellsL vs 0 h0
  simp at g3
  simp [round, Tryz.f23, a23, reg23, loop23, draw23, dok23, h0, he0, h3, g3, endRound_R0]
  refine loop_in (fun i : Nat => ⟨[(2, .ptr (m.bx.length + 1) 0), (3, .ptr (m.bx.length + 2) 0), (11, .isl false vs.length (Val.cellsL vs)), (12, .int .i64 vs.length), (13, .int .i64 i)],
    ⟨m.bx ++ [sysX f (.isl false vs.length (Val.cellsL vs)), [.int .i64 0, .int .i64 0, .nils, .nils], sysX f (.sl (m.rw.length + 0) (i * 3) 0 i)], m.rw ++ [⟨47, Val.cellsL (vs.take i)⟩]⟩⟩)
    (fun i => some (.ret (.agg (sysX f (.isl false vs.length (Val.cellsL vs)))), m)) (fun i => vs.length - i) (fun i => 0 < i ∧ i ≤ vs.length) 1 ?_ ?_ ?_ ?_ ?_
  · have : vs.take 1 = [vs[0]] := by rw [List.take_succ_eq_append_getElem h0]; simp
    simp [this, Val.cellsL]
  · simp
  · omega
  · intro x; simp [Tryz.f23, a23, reg23, loop23, draw23, dok23]
  · rintro i ⟨hi0, hi⟩ hrec
    have hmin : min i vs.length = i := by omega
    by_cases hlt : i < vs.length
    · have w2 : IntKind.i64.wrap (i + 1) = i + 1 := wrap_id _ (by omega)
      have hmem := List.getElem_mem hlt
      have he := ev_VCopy vs[i].nodes vs[i] (Nat.le_refl _) (by have := Val.nodes_mem hmem; omega) (hs _ hmem)
      simp at he
      have h3 : (i + 1) * 3 ≤ vs.length * 3 := by omega
      have h4 : (i + 1) * 56 ≤ 70368744177664 := by omega
      have h5 : i + 1 ≤ 70368744177664 := by omega
      simp [round, Tryz.f23, a23, reg23, loop23, draw23, dok23, hlt, w2, h3, h4, h5, he, hmin, endRound_R]
      refine hrec (i + 1) _ _ ?_ ?_ ?_ ?_
      · omega
      · omega
      · simp [Val.cellsL_snoc hlt]
      · simp
    · clear hrec
      have : vs.take i = vs := List.take_of_length_le (by omega)
      have hl : i = vs.length := by omega
      subst hl
      simp [round, Tryz.f23, a23, reg23, loop23, draw23, dok23, this]
      rw [List.take_of_length_le (by simp)]
theorem ev_SValid0 (f : Fun) (hf : f.nodes ≤ 1000000) (m : Mem) : evCall C0 43 [.agg (sysX f .nils)] m = some (.ret (.bool (okS f [])), m) := by
  rw [evCall_body C0 (C0_ext _ (by decide)) (by rw [C0_P]; exact Tryz.func43) rfl (by rw [C0_ann]; rfl) (by decide) (by simp [Tryz.f43])]
  have hv := ev_Valid f (by omega)
  simp at hv
  cases hc : okF f
  · simp [Tryz.f43, a43, reg43, loop43, hv, hc, okS]
  · simp [Tryz.f43, a43, reg43, loop43, hv, hc]
    rw [evCode_loop]
    simp [round, Tryz.f43, a43, reg43, loop43, okS, hc, okVs, Val.nodesL]
theorem ev_SRIs0 (f : Fun) (hf : f.nodes ≤ 1000000) (m : Mem) : evCall C0 26 [.agg (sysX f .nils)] m = some (.ret (.bool (okS f [])), m) := by
  rw [evCall_body C0 (C0_ext _ (by decide)) (by rw [C0_P]; exact Tryz.func26) rfl (by rw [C0_ann]; rfl) (by decide) (by simp [Tryz.f26])]
  have hv := ev_Is f (by omega)
  rw [show (decide (0 < leftF f 21) && decide (f.depth ≤ 8) && shapedF f) = isF f from rfl, isF_okF] at hv
  simp at hv
  cases hc : okF f
  · simp [Tryz.f26, a26, reg26, loop26, hv, hc, okS]
  · simp [Tryz.f26, a26, reg26, loop26, hv, hc]
    rw [evCode_loop]
    simp [round, Tryz.f26, a26, reg26, loop26, okS, hc, okVs, Val.nodesL]
theorem ev_SCheck0 (f : Fun) (hf : f.nodes ≤ 1000000) (m : Mem) : evCall C0 21 [.agg (sysX f .nils)] m = some (.ret (.int .i64 (chkE f [])), m) := by
  rw [evCall_body C0 (C0_ext _ (by decide)) (by rw [C0_P]; exact Tryz.func21) rfl (by rw [C0_ann]; rfl) (by decide) (by simp [Tryz.f21])]
  have hv := ev_SValid0 f hf
  simp at hv
  unfold chkE
  cases hc : okS f [] <;> simp [Tryz.f21, a21, reg21, hv, hc]
theorem ev_fault10 (f : Fun) (hf : f.nodes ≤ 1000000) (m : Mem) (fl : Bool) : evCall C0 12 [.isl fl 1 (sysX f .nils)] m = some (.ret (.int .i64 (chkE f [])), m) := by
  rw [evCall_body C0 (C0_ext _ (by decide)) (by rw [C0_P]; exact Tryz.func12) rfl (by rw [C0_ann]; rfl) (by decide) (by simp [Tryz.f12])]
  have he := ev_SRIs0 f hf
  have hsm := ev_RSame f.nodes f f (Nat.le_refl _) (by omega)
  simp at he hsm
  unfold chkE
  simp [Tryz.f12, a12, reg12, loop12, draw12, dok12]
  rw [evCode_loop]
  cases hc : okS f []
  · simp [round, Tryz.f12, a12, reg12, loop12, draw12, dok12, he, hc]
  · simp [round, Tryz.f12, a12, reg12, loop12, draw12, dok12, he, hc, endRound_M0, endRound_M]
    rw [evCode_loop]
    simp [round, Tryz.f12, a12, reg12, loop12, draw12, dok12]
    rw [evCode_loop]
    simp [round, Tryz.f12, a12, reg12, loop12, draw12, dok12, hsm, sameF_refl, endRound_M0, endRound_M]
    rw [evCode_loop]
    simp [round, Tryz.f12, a12, reg12, loop12, draw12, dok12]
theorem fewS_spec {f : Fun} {vs : List Val} (h : fewS f vs 1500 = true) : f.nodes ≤ 1500 ∧ vs.length ≤ 1500 ∧ Val.nodesL vs ≤ 1500 ∧ ∀ v ∈ vs, fewV v 1500 = true := by
  unfold fewS at h
  simp only [Bool.and_eq_true, decide_eq_true_eq] at h
  obtain ⟨⟨⟨h1, h2⟩, h3⟩, h4⟩ := h
  rw [leftF_nodes f _ (by omega)] at h2
  exact ⟨by omega, by omega, by omega, fun v hv => List.all_eq_true.1 h3 v hv⟩
theorem sameVL_refl : ∀ vs : List Val, sameVL vs vs = true
  | [] => rfl
  | v :: r => by rw [sameVL, sameVL_refl r, (show cmpV v v = 0 from (cmpV_zero v v).2 rfl)]; rfl
theorem sameS_refl (f : Fun) (vs : List Val) : sameS f f vs vs = true := by rw [sameS, sameF_refl, sameVL_refl]; rfl
def fillV (bs : List Val) : List Val → List Val
  | [] => bs
  | v :: r => fillV (if bs.length < 300 then bs ++ [v] else bs) r
theorem fillV_len : ∀ (l bs : List Val), bs.length ≤ 300 → (fillV bs l).length ≤ 300
  | [], bs, h => h
  | v :: r, bs, h => by
    rw [fillV]
    split
    · exact fillV_len r _ (by simp; omega)
    · exact fillV_len r _ h
theorem fillV_mem {vs : List Val} : ∀ (l bs : List Val), (∀ v ∈ l, v ∈ vs) → (∀ v ∈ bs, v ∈ vs) → ∀ v ∈ fillV bs l, v ∈ vs
  | [], bs, _, h => h
  | v :: r, bs, hl, h => by
    rw [fillV]
    have h1 : ∀ u ∈ r, u ∈ vs := fun u hu => hl u (List.mem_cons_of_mem _ hu)
    split
    · refine fillV_mem r _ h1 fun u hu => ?_
      rcases List.mem_append.1 hu with hu | hu
      · exact h u hu
      · rw [List.mem_singleton.1 hu]; exact hl v (List.mem_cons_self ..)
    · exact fillV_mem r _ h1 h
theorem nodesL_bound {k : Nat} : ∀ {bs : List Val}, (∀ v ∈ bs, v.nodes ≤ k) → Val.nodesL bs ≤ bs.length * k
  | [], _ => by rw [Val.nodesL]; omega
  | v :: r, h => by
    rw [Val.nodesL, List.length_cons, Nat.add_mul]
    have h1 := h v (List.mem_cons_self ..)
    have h2 := nodesL_bound fun u hu => h u (List.mem_cons_of_mem _ hu)
    omega
theorem few_slimS {vs : List Val} (h : ∀ v ∈ vs, fewV v 1500 = true) : ∀ v ∈ vs, slimV v := fun v hv => by
  have := h v hv
  unfold fewV at this
  rw [Bool.and_eq_true] at this
  exact light_slim (by omega) v this.2
set_option maxHeartbeats 4000000 in
theorem ev_SystemForms (f g : Fun) (vs ws : List Val) (n : Int) (hn0 : 0 ≤ n) (hn : n < 256) (m : Mem) : evCall C0 5 [.agg (sysX f (.isl false vs.length (Val.cellsL vs))), .agg (sysX g (.isl false ws.length (Val.cellsL ws))), .int .u8 n] m = some (.ret (.bool true), m) := by
  rw [evCall_body C0 (C0_ext _ (by decide)) (by rw [C0_P]; exact Tryz.func5) rfl (by rw [C0_ann]; rfl) (by decide) (by simp [Tryz.f5])]
  have hfw := ev_lfew2 f g vs ws
  simp at hfw
  cases hc : fewS f vs 1500
  · simp [Tryz.f5, a5, reg5, loop5, draw5, dok5, hfw, hc, ev_awake]
  cases hc2 : fewS g ws 1500
  · simp [Tryz.f5, a5, reg5, loop5, draw5, dok5, hfw, hc, hc2, ev_awake]
  obtain ⟨k1, k2, k3, k4⟩ := fewS_spec hc
  have k5 := few_slimS k4
  have w1 : IntKind.i64.wrap n = n := wrap_id _ (by omega)
  have hk0 : 0 ≤ n.tmod 20 := Int.tmod_nonneg _ hn0
  have hk1 : n.tmod 20 < 20 := Int.tmod_lt_of_pos _ (by omega)
  have e1 := ev_SCheck f vs (by omega) (by omega) k5
  have e2 := fun m => ev_fault1 f vs (by omega) (by omega) k5 m true
  have e3 := ev_SSame f g vs ws (by omega) (by omega) k5
  have e4 := ev_SRSame f g vs ws (by omega) (by omega) k5
  have e5 := ev_SCopy f vs (by omega) (by omega) k5
  have e6 := ev_SSame f f vs vs (by omega) (by omega) k5
  rw [sameS_refl] at e6
  have z1 := ev_SCheck0 f (by omega)
  have z2 := fun m => ev_fault10 f (by omega) m true
  simp at e1 e2 e3 e4 e5 e6 z1 z2
  simp [Tryz.f5, a5, reg5, loop5, draw5, dok5, hfw, hc, hc2, w1]
  by_cases hv : vs = []
  · refine loop_in (fun i : Nat => ⟨[(3, .ptr m.bx.length 0), (4, .ptr (m.bx.length + 1) 0), (7, .ptr (m.bx.length + 2) 0), (21, .int .i64 (n.tmod 20)), (22, .int .i64 i)], ⟨m.bx ++ [sysX f (.isl false vs.length (Val.cellsL vs)), sysX g (.isl false ws.length (Val.cellsL ws)), sysX f .nils], m.rw⟩⟩)
      (fun i => some (.ret (.bool true), m)) (fun i => 20 - i) (fun i => i ≤ n.tmod 20) 0 ?_ ?_ ?_ ?_ ?_
    · simp
    · simp
    · simpa using hk0
    · intro x; simp [Tryz.f5, a5, reg5, loop5, draw5, dok5]
    · intro i hi hrec
      by_cases hlt : (i : Int) < n.tmod 20
      · have w2 : IntKind.i64.wrap (i + 1) = i + 1 := wrap_id _ (by omega)
        subst hv
        simp [round, Tryz.f5, a5, reg5, loop5, draw5, dok5, hlt, w2]
        rw [evCode_loop]
        simp [round, Tryz.f5, a5, reg5, loop5, draw5, dok5, hlt, w2]
        refine hrec (i + 1) _ _ ?_ ?_ ?_ ?_
        · omega
        · omega
        · simp
        · simp
      · clear hrec
        simp [round, Tryz.f5, a5, reg5, loop5, draw5, dok5, hlt, e1, e2, e3, e4, e5, e6, z1, z2, ev_awake]
  have h0 : 0 < vs.length := List.length_pos_iff.2 hv
  by_cases hk : 0 < n.tmod 20
  case neg =>
    rw [evCode_loop]
    simp [round, Tryz.f5, a5, reg5, loop5, draw5, dok5, hk, e1, e2, e3, e4, e5, e6, z1, z2, ev_awake]
  have g3 := Val.at_cellsL vs 0 h0
  simp at g3
  have h3 : 3 ≤ vs.length * 3 := by omega
  rw [evCode_loop]
  simp [round, Tryz.f5, a5, reg5, loop5, draw5, dok5, hk]
  rw [evCode_loop]
  simp [round, Tryz.f5, a5, reg5, loop5, draw5, dok5, h0, h3, g3, endRound_R0]
  rw [loop_mp (fun x : Nat × List Val => ⟨[(3, .ptr m.bx.length 0), (4, .ptr (m.bx.length + 1) 0), (7, .ptr (m.bx.length + 2) 0), (21, .int .i64 (n.tmod 20)), (22, .int .i64 0), (25, .isl false vs.length (Val.cellsL vs)), (26, .int .i64 vs.length), (27, .int .i64 x.1)], ⟨m.bx ++ [sysX f (.isl false vs.length (Val.cellsL vs)), sysX g (.isl false ws.length (Val.cellsL ws)), sysX f (.sl (m.rw.length + 0) ((x.2).length * 3) 0 (x.2).length)], m.rw ++ [⟨47, Val.cellsL (x.2)⟩]⟩⟩) (fun x => some (.normal, ⟨[(3, .ptr m.bx.length 0), (4, .ptr (m.bx.length + 1) 0), (7, .ptr (m.bx.length + 2) 0), (21, .int .i64 (n.tmod 20)), (22, .int .i64 0), (25, .isl false vs.length (Val.cellsL vs)), (26, .int .i64 vs.length), (27, .int .i64 vs.length), (28, .bool false)], ⟨m.bx ++ [sysX f (.isl false vs.length (Val.cellsL vs)), sysX g (.isl false ws.length (Val.cellsL ws)), sysX f (.sl (m.rw.length + 0) ((fillV x.2 (vs.drop x.1)).length * 3) 0 (fillV x.2 (vs.drop x.1)).length)], m.rw ++ [⟨47, Val.cellsL (fillV x.2 (vs.drop x.1))⟩]⟩⟩)) (fun x => vs.length - x.1) (fun x => x.1 ≤ vs.length ∧ x.2.length ≤ 300) (1, [vs[0]]) ?_ rfl ?_ ?_ ?_]
  rotate_left
  · simp [Tryz.f5, a5, reg5, loop5, draw5, dok5, Val.cellsL]
  · exact ⟨h0, by simp⟩
  · intro x; simp [Tryz.f5, a5, reg5, loop5, draw5, dok5]
  · rintro ⟨j, bs⟩ ⟨hj, hbs⟩ hrec2
    simp only at hj hbs
    by_cases hlt : j < vs.length
    · have w2 : IntKind.i64.wrap (j + 1) = j + 1 := wrap_id _ (by omega)
      have h3 : (j + 1) * 3 ≤ vs.length * 3 := by omega
      rw [show vs.drop j = vs[j] :: vs.drop (j + 1) from List.drop_eq_getElem_cons hlt, fillV]
      by_cases h300 : bs.length < 300
      · have h300' : (bs.length : Int) < 300 := by omega
        have h4 : (bs.length + 1) * 56 ≤ 70368744177664 := by omega
        have h5 : bs.length + 1 ≤ 70368744177664 := by omega
        simp [round, Tryz.f5, a5, reg5, loop5, draw5, dok5, hlt, w2, h3, h4, h5, h300, h300', endRound_R]
        refine hrec2 (j + 1, bs ++ [vs[j]]) _ _ ?_ ?_ ?_ ?_
        · simp; omega
        · simp; omega
        · simp [Val.cellsL_append, Val.cellsL]
        · simp
      · have h300' : ¬ (bs.length : Int) < 300 := by omega
        simp [round, Tryz.f5, a5, reg5, loop5, draw5, dok5, hlt, w2, h3, h300, h300', endRound_R]
        refine hrec2 (j + 1, bs) _ _ ?_ ?_ ?_ ?_
        · simp; omega
        · simp; omega
        · simp
        · simp
    · clear hrec2
      have hjl : j = vs.length := by omega
      subst hjl
      simp [round, Tryz.f5, a5, reg5, loop5, draw5, dok5, fillV]
  have hb0 : (fillV [vs[0]] (vs.drop 1)).length ≤ 300 := fillV_len _ _ (by simp)
  have hb1 : ∀ v ∈ fillV [vs[0]] (vs.drop 1), v ∈ vs := fillV_mem _ _ (fun v hv => List.mem_of_mem_drop hv) (fun v hv => by rw [List.mem_singleton.1 hv]; exact List.getElem_mem h0)
  simp only
  generalize fillV [vs[0]] (vs.drop 1) = b0 at hb0 hb1
  simp [Tryz.f5, a5, reg5, loop5, draw5, dok5, endRound_R0]
  refine loop_in (fun x : Nat × List Val => ⟨[(3, .ptr m.bx.length 0), (4, .ptr (m.bx.length + 1) 0), (7, .ptr (m.bx.length + 2) 0), (21, .int .i64 (n.tmod 20)), (22, .int .i64 x.1)], ⟨m.bx ++ [sysX f (.isl false vs.length (Val.cellsL vs)), sysX g (.isl false ws.length (Val.cellsL ws)), sysX f (.sl (m.rw.length + 0) ((x.2).length * 3) 0 (x.2).length)], m.rw ++ [⟨47, Val.cellsL (x.2)⟩]⟩⟩)
    (fun i => some (.ret (.bool true), m)) (fun x => 20 - x.1) (fun x => x.1 ≤ n.tmod 20 ∧ x.2.length ≤ 300 ∧ ∀ v ∈ x.2, v ∈ vs) (1, b0) ?_ ?_ ?_ ?_ ?_
  · simp
  · simp
  · exact ⟨by simp; omega, hb0, hb1⟩
  · intro x; simp [Tryz.f5, a5, reg5, loop5, draw5, dok5]
  · rintro ⟨i, bs⟩ ⟨hi, hbs, hmb⟩ hrec
    simp only at hi hbs hmb
    by_cases hlt : (i : Int) < n.tmod 20
    · have w2 : IntKind.i64.wrap (i + 1) = i + 1 := wrap_id _ (by omega)
      simp [round, Tryz.f5, a5, reg5, loop5, draw5, dok5, hlt, w2]
      rw [loop_mp (fun x : Nat × List Val => ⟨[(3, .ptr m.bx.length 0), (4, .ptr (m.bx.length + 1) 0), (7, .ptr (m.bx.length + 2) 0), (21, .int .i64 (n.tmod 20)), (22, .int .i64 i), (25, .isl false vs.length (Val.cellsL vs)), (26, .int .i64 vs.length), (27, .int .i64 x.1)], ⟨m.bx ++ [sysX f (.isl false vs.length (Val.cellsL vs)), sysX g (.isl false ws.length (Val.cellsL ws)), sysX f (.sl (m.rw.length + 0) ((x.2).length * 3) 0 (x.2).length)], m.rw ++ [⟨47, Val.cellsL (x.2)⟩]⟩⟩) (fun x => some (.normal, ⟨[(3, .ptr m.bx.length 0), (4, .ptr (m.bx.length + 1) 0), (7, .ptr (m.bx.length + 2) 0), (21, .int .i64 (n.tmod 20)), (22, .int .i64 i), (25, .isl false vs.length (Val.cellsL vs)), (26, .int .i64 vs.length), (27, .int .i64 vs.length), (28, .bool false)], ⟨m.bx ++ [sysX f (.isl false vs.length (Val.cellsL vs)), sysX g (.isl false ws.length (Val.cellsL ws)), sysX f (.sl (m.rw.length + 0) ((fillV x.2 (vs.drop x.1)).length * 3) 0 (fillV x.2 (vs.drop x.1)).length)], m.rw ++ [⟨47, Val.cellsL (fillV x.2 (vs.drop x.1))⟩]⟩⟩)) (fun x => vs.length - x.1) (fun x => x.1 ≤ vs.length ∧ x.2.length ≤ 300) (0, bs) ?_ rfl ?_ ?_ ?_]
      rotate_left
      · simp [Tryz.f5, a5, reg5, loop5, draw5, dok5]
      · exact ⟨by simp, hbs⟩
      · intro x; simp [Tryz.f5, a5, reg5, loop5, draw5, dok5]
      · rintro ⟨j, bs⟩ ⟨hj, hbs⟩ hrec2
        simp only at hj hbs
        by_cases hlt : j < vs.length
        · have w2 : IntKind.i64.wrap (j + 1) = j + 1 := wrap_id _ (by omega)
          have h3 : (j + 1) * 3 ≤ vs.length * 3 := by omega
          rw [show vs.drop j = vs[j] :: vs.drop (j + 1) from List.drop_eq_getElem_cons hlt, fillV]
          by_cases h300 : bs.length < 300
          · have h300' : (bs.length : Int) < 300 := by omega
            have h4 : (bs.length + 1) * 56 ≤ 70368744177664 := by omega
            have h5 : bs.length + 1 ≤ 70368744177664 := by omega
            simp [round, Tryz.f5, a5, reg5, loop5, draw5, dok5, hlt, w2, h3, h4, h5, h300, h300', endRound_R]
            refine hrec2 (j + 1, bs ++ [vs[j]]) _ _ ?_ ?_ ?_ ?_
            · simp; omega
            · simp; omega
            · simp [Val.cellsL_append, Val.cellsL]
            · simp
          · have h300' : ¬ (bs.length : Int) < 300 := by omega
            simp [round, Tryz.f5, a5, reg5, loop5, draw5, dok5, hlt, w2, h3, h300, h300', endRound_R]
            refine hrec2 (j + 1, bs) _ _ ?_ ?_ ?_ ?_
            · simp; omega
            · simp; omega
            · simp
            · simp
        · clear hrec2
          have hjl : j = vs.length := by omega
          subst hjl
          simp [round, Tryz.f5, a5, reg5, loop5, draw5, dok5, fillV]
      simp [Tryz.f5, a5, reg5, loop5, draw5, dok5, endRound_R, w2]
      refine hrec (i + 1, fillV bs vs) _ _ ?_ ?_ ?_ ?_
      · simp; omega
      · exact ⟨by simp; omega, fillV_len _ _ hbs, fillV_mem _ _ (fun v hv => hv) hmb⟩
      · simp
      · simp
    · clear hrec
      have q1 : Val.nodesL bs ≤ 1000000 := by
        have h5 := nodesL_bound (k := 1500) (bs := bs) fun v hv => by have := Val.nodes_mem (hmb v hv); omega
        have h6 := Nat.mul_le_mul_right 1500 hbs
        omega
      have q2 : ∀ v ∈ bs, slimV v := fun v hv => k5 v (hmb v hv)
      have r1 := fun bx => ev_SCheckR f bs (by omega) q1 q2 ⟨bx, m.rw ++ [⟨47, Val.cellsL bs⟩]⟩ m.rw.length (by simp)
      have r2 := fun bx => ev_fault1R f bs (by omega) q1 q2 ⟨bx, m.rw ++ [⟨47, Val.cellsL bs⟩]⟩ true m.rw.length (by simp)
      simp at r1 r2
      simp [round, Tryz.f5, a5, reg5, loop5, draw5, dok5, hlt, e1, e2, e3, e4, e5, e6, r1, r2, ev_awake]
theorem ev_SystemFormsR (f : Fun) (vs : List Val) (g : Fun) (ws : List Val) (n : Int) (hw : (Lit.int .u8 n).wf = true) (m : Mem) : evCall C0 5 [.agg (sysX f (.isl false vs.length (Val.cellsL vs))), .agg (sysX g (.isl false ws.length (Val.cellsL ws))), .int .u8 n] m = some (.ret (.bool true), m) := by
  have h : 0 ≤ n ∧ n < 256 := by
    simp only [Lit.wf, Bool.and_eq_true, decide_eq_true_eq] at hw
    have h1 : IntKind.u8.min = 0 := by decide
    have h2 : IntKind.u8.max = 255 := by decide
    omega
  exact ev_SystemForms f g vs ws n h.1 h.2 m
end AE
end Go.Proofs.YtmfdpijmholedaaGreatDoor
/- The row of the statement SystemForms. Printed by mkrow.py. -/
set_option linter.unusedVariables false
set_option linter.unusedSimpArgs false
namespace Go.Proofs.YtmfdpijmholedaaGreatDoor
namespace AE
open Go Go.ChangeShapes Go.WideShapes Go.ChangeAt Go.RowKit
theorem own : ownKnob Tryz.prog.godebug = none := by kernel_rfl
theorem laidOut : laidOutB Tryz.prog = true := by kernel_rfl
theorem door_met_systemForms (os : Os) (args : Array Value) : laidMetH Tryz.prog Rows.systemFormsRow.laid ((World.laidAll Tryz.prog os Rows.systemFormsRow.laid).forCall (fun _ _ => 0) ⟨#[], args, []⟩).memory := by
  rw [MakeChecks.laidMetH_plain _ _ _ (by kernel_rfl)]
  exact laidMet_laidAll _ (by kernel_rfl) (by kernel_rfl)
set_option maxRecDepth 100000 in
theorem lifted_systemForms (os : Os) (started : os.Started) (H : Type) (enc : TypeId × Value → H) :
    ReturnsInHanded {} Tryz.checked os 5 .any (fun w args => (Rows.systemFormsSpec.pre enc Tryz.prog Tryz.f5 [] false w args ∧ laidMetH Tryz.prog Rows.systemFormsRow.laid w) ∧ sizedMet enc Tryz.prog Tryz.f5 (OpenSpec.ofChange Rows.systemFormsSpec) false w args)
      (Rows.systemFormsSpec.post enc Tryz.prog Tryz.f5 false true false false) := by
  refine returnsInHanded_of_change_and (C := Tryz.checked) (X := fun w _ => laidMetH Tryz.prog Rows.systemFormsRow.laid w) (fun _ _ _ hh h => h.of_heap hh) own started (by kernel_rfl) Tryz.func5
    (ChangeSpec.witness_shaped (enc := enc) (C := Tryz.checked) (os := os) (X := fun w _ => laidMetH Tryz.prog Rows.systemFormsRow.laid w) false (World.laidAll Tryz.prog os Rows.systemFormsRow.laid) #[.agg #[.int .i64 0, .int .i64 0, .slice none 0 0, .slice none 0 0], .agg #[.int .i64 0, .int .i64 0, .slice none 0 0, .slice none 0 0], .int .u8 0] 8 rfl (World.shaped_of_ZipB (by kernel_rfl) (by kernel_rfl)) (by kernel_rfl) (by kernel_rfl) (by kernel_rfl) (door_met_systemForms os _)) ?_
  intro W base args ds gs before hval0 hW _ _ hL _
  have hW' := hW
  obtain ⟨p, q, hA0, hV, rfl, hfz, hnd⟩ := hW
  have hA : DataW.TrodAll enc Tryz.prog W 0 (fun _ => true) true Tryz.f5.params.toList args.toList ds p := hA0
  rw [Tryz.params5] at hA
  obtain ⟨v0, v1, v2, d0, d1, d2, p0, p1, p2, rfl, rfl, rfl, h0, h1, h2⟩ := trodAll_three hA
  obtain ⟨rfl, rfl⟩ := trodVars_none hV
  have k0 := h0
  have k1 := h1
  have k2 := h2
  have lt0 : ∀ x ∈ p0, x.block < W.heap.size := by obtain ⟨m, hm⟩ := k0; exact DataW.trod_lt m _ _ _ hm
  have lt1 : ∀ x ∈ p1, x.block < W.heap.size := by obtain ⟨m, hm⟩ := k1; exact DataW.trod_lt m _ _ _ hm
  have lt2 : ∀ x ∈ p2, x.block < W.heap.size := by obtain ⟨m, hm⟩ := k2; exact DataW.trod_lt m _ _ _ hm
  obtain ⟨n0, h0⟩ := h0
  obtain ⟨x0, y0, hx0⟩ := open_sys n0 n0 (Nat.le_refl _) _ _ h0
  obtain ⟨n1, h1⟩ := h1
  obtain ⟨x1, y1, hx1⟩ := open_sys n1 n1 (Nat.le_refl _) _ _ h1
  obtain ⟨x2, rfl, _, _, hw2⟩ := open_int Tryz.underlying5 (hval0 2 5 v2 rfl rfl) h2
  have hs := sr0 (P := Tryz.prog) (gl_of_laid (laid := Rows.systemFormsRow.laid) (by kernel_rfl) (by simp [Rows.systemFormsRow]) (by simp [Rows.systemFormsRow]) hL) (tb_of_laid (laid := Rows.systemFormsRow.laid) (by kernel_rfl) (by simp [Rows.systemFormsRow]) hL)
  have hcall := (sound ok0 5 [.agg (sysX x0 (.isl false y0.length (Val.cellsL y0))), .agg (sysX x1 (.isl false y1.length (Val.cellsL y1))), .int .u8 x2] ⟨[], []⟩ _ (ev_SystemFormsR x0 y0 x1 y1 x2 hw2 ⟨[], []⟩)).2 W (g0 W) W [v0, v1, .int .u8 x2] (by rw [C0_P, C0_gl]; exact hs) ?_
  · rw [C0_P] at hcall
    refine Calls.mono hcall fun e W' hR => ?_
    obtain ⟨g', hs', _, hres⟩ := hR
    cases e with
    | panicked ch => exact hres.elim
    | outgrown => exact hres.elim
    | returned v =>
      have hv : v = .bool true := hres
      subst hv
      have bel := hs'.below
      exact ⟨_, rfl, _, _, _, [], _, [], hW', trodAll_mk1 (shut_bool Tryz.underlying4 _), (trodAll_cons_mk (Below.trod laidOut (by kernel_rfl) (of_decide_eq_true (by kernel_rfl)) k0 bel lt0) (trodAll_cons_mk (Below.trod laidOut (by kernel_rfl) (of_decide_eq_true (by kernel_rfl)) k1 bel lt1) (trodAll_cons_mk (Below.trod laidOut (by kernel_rfl) (of_decide_eq_true (by kernel_rfl)) k2 bel lt2) trodAll_mk0))), rfl, bel.frame _, fun h => by cases h⟩
  · exact .mk_cons (agg_of hx0 (by simp)) (.mk_cons (agg_of hx1 (by simp)) (.mk_cons VR.mkInt VRs.mk_nil))
theorem said_systemForms : Rows.SystemFormsSaid :=
  OpenClaim.holds_of_wide 5 Tryz.f5 rfl rfl rfl rfl rfl rfl rfl ⟨rfl, rfl, rfl, rfl, rfl⟩ rfl rfl rfl rfl rfl (by kernel_rfl) Tryz.func5 (by kernel_rfl)
    (of_decide_eq_true (by kernel_rfl)) (by unfold Func.isWrapper; first | (rw [if_pos (by decide +kernel)]; kernel_rfl) | (rw [if_neg (by decide +kernel)]; exact ⟨rfl, rfl⟩))
    (fun os started H enc _ => lifted_systemForms os started H enc)
#print axioms said_systemForms
end AE
end Go.Proofs.YtmfdpijmholedaaGreatDoor
/- The card of the statement SystemForms. Printed by mkrow.py. -/
set_option linter.unusedVariables false
set_option linter.unusedSimpArgs false
namespace Go.Proofs.YtmfdpijmholedaaGreatDoor
namespace AE
open Go
theorem card_systemForms : Rows.SystemFormsCardSaid :=
  Claim7.holds_tied_plain_at .later [] [.data, .data, .data, .data, .sentinel, .sentinel, .data, .pinned] true (true, "16bfc96b6015e7c1836e6e85ac56fb9af05c80819149fea3c30a26e5d3ab28d3") true
    said_systemForms (fun _ h => by cases h) (by kernel_rfl) (fun _ h => by cases h) systemForms_row_tie rfl ⟨rfl, rfl⟩ (by kernel_rfl) rfl
    (fun f fn hf hfn => by
      obtain rfl : f = 5 := Option.some.inj ((show Tryz.prog.funcNamed "ectype/ectypelaw03.SystemForms" = some 5 by kernel_rfl).symm.trans hf) |>.symm
      obtain rfl : fn = Tryz.f5 := (Option.some.inj (Tryz.func5.symm.trans hfn)).symm
      exact ⟨by kernel_rfl, fun j t ht => by
        rw [Tryz.params5] at ht
        have h3 : t = 27 ∨ t = 5 := by
          rcases j with _ | _ | _ | j
          · exact .inl (by simpa using ht.symm)
          · exact .inl (by simpa using ht.symm)
          · exact .inr ((by simpa using ht.symm))
          · simp at ht
        rcases h3 with rfl | rfl
        · exact (show Tryz.prog.wantsStandIn 27 = false by kernel_rfl)
        · exact (show Tryz.prog.wantsStandIn 5 = false by kernel_rfl)
      ⟩)
    (by kernel_rfl)
#print axioms card_systemForms
end AE
end Go.Proofs.YtmfdpijmholedaaGreatDoor
