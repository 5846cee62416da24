/- Calls that leave their rows behind. -/
import Derived.Test.YthoomlenmgdebaaGreatDoorAE4
set_option linter.unusedVariables false
set_option linter.unusedSimpArgs false
namespace Go.Proofs.YthoomlenmgdebaaGreatDoor
namespace AE
open Go

/-- The rows are closed, or as they were. -/
def RowsOk (nb : Nat) (R0 R : List Row) : Prop := ∀ i, i < R.length → R[i]? = R0[i]? ∨ ∃ r, R[i]? = some r ∧ r.cs.all (closed nb R.length) = true
theorem RowsOk.refl (nb : Nat) (R : List Row) : RowsOk nb R R := fun i h => .inl rfl
theorem RowsOk.more {nb : Nat} {R R' : List Row} (h : R'.all (fun r => r.cs.all (closed nb (R.length + R'.length))) = true) : RowsOk nb R (R ++ R') := fun i hi => by
  by_cases h1 : i < R.length
  · exact .inl (List.getElem?_append_left h1)
  · rw [List.length_append] at hi ⊢
    refine .inr ⟨R'[i - R.length]'(by omega), ?_, List.all_eq_true.1 h _ (List.getElem_mem _)⟩
    rw [List.getElem?_append_right (by omega), List.getElem?_eq_getElem]
theorem leave_keep (P : Program) (m : Mem) (bx b : List (List A)) (R : List Row) (x : Res) (hb : bx.length = m.bx.length) (h1 : ∀ i, i < m.bx.length → bx[i]? = m.bx[i]? ∨ ∃ cs, bx[i]? = some cs ∧ cs.all (closed m.bx.length R.length) = true) (h2 : RowsOk m.bx.length m.rw R) (h3 : closed m.bx.length R.length x.val = true) : leave P true m x ⟨bx ++ b, R⟩ = some (x, ⟨bx, R⟩) := by
  have hk : KeptR m ⟨bx ++ b, R⟩ ∧ closed m.bx.length (⟨bx ++ b, R⟩ : Mem).rw.length x.val = true := by
    refine ⟨⟨by simp [hb], fun i hi => ?_, h2⟩, h3⟩
    rw [List.getElem?_append_left (by omega)]
    exact h1 i hi
  rw [leave, if_pos rfl, if_pos hk]
  simp only [← hb, List.take_left]
theorem leave_keep0 (P : Program) (m : Mem) (b : List (List A)) (R : List Row) (x : Res) (h2 : RowsOk m.bx.length m.rw R) (h3 : closed m.bx.length R.length x.val = true) : leave P true m x ⟨m.bx ++ b, R⟩ = some (x, ⟨m.bx, R⟩) :=
  leave_keep P m m.bx b R x rfl (fun i hi => .inl rfl) h2 h3
theorem leave_keep1 (P : Program) (m : Mem) (i : Nat) (cs : List A) (b : List (List A)) (R : List Row) (x : Res) (hcs : cs.all (closed m.bx.length R.length) = true) (h2 : RowsOk m.bx.length m.rw R) (h3 : closed m.bx.length R.length x.val = true) : leave P true m x ⟨m.bx.set i cs ++ b, R⟩ = some (x, ⟨m.bx.set i cs, R⟩) := by
  refine leave_keep P m _ b R x (by simp) (fun j hj => ?_) h2 h3
  rw [List.getElem?_set]
  by_cases h : i = j
  · subst h; exact .inr ⟨cs, by simp [hj], hcs⟩
  · exact .inl (by simp [h])
theorem endRound_rw {l : List Nat} {m : Mem} {R' : List Row} {tm : List (Nat × A)} (hl : l.all (fun t => closed m.bx.length (m.rw.length + R'.length) (lk t tm)) = true) (hr : R'.all (fun r => r.cs.all (closed m.bx.length (m.rw.length + R'.length))) = true) :
    endRound (some l) m ⟨tm, ⟨m.bx, m.rw ++ R'⟩⟩ = some ⟨prune (some l) tm, ⟨m.bx, m.rw ++ R'⟩⟩ := by
  have := endRound_R0 (l := l) (B := m.bx) (L := []) (L' := []) (R := m.rw) (R' := R') (tm := tm) (by simp) (by simpa using hl) (by simp) (by simpa using hr)
  simpa using this
theorem endRound_rwR {l : List Nat} {m : Mem} {R0 R' : List Row} {tm : List (Nat × A)} (hl : l.all (fun t => closed m.bx.length (m.rw.length + R'.length) (lk t tm)) = true) (hr : R'.all (fun r => r.cs.all (closed m.bx.length (m.rw.length + R'.length))) = true) :
    endRound (some l) ⟨m.bx, m.rw ++ R0⟩ ⟨tm, ⟨m.bx, m.rw ++ R'⟩⟩ = some ⟨prune (some l) tm, ⟨m.bx, m.rw ++ R'⟩⟩ := by
  have := endRound_R (l := l) (B := m.bx) (L := []) (L' := []) (R := m.rw) (R0 := R0) (R' := R') (tm := tm) (by simp) (by simpa using hl) (by simp) (by simpa using hr)
  simpa using this
theorem loop_mp {C : Cfg} {f nt : Nat} {σ : Type} (S : σ → St) (G : σ → Option (Ex × St)) (meas : σ → Nat) (I : σ → Prop) (x : σ) {b : Code} {id : Nat} {s0 : St} {r : Option (Ex × St)}
    (hs : (⟨prune (C.ann.loop f (headId b)) s0.tm, s0.m⟩ : St) = S x) (hr : G x = r) (hI : I x) (hp : ∀ x, prune (C.ann.loop f (headId b)) (S x).tm = (S x).tm)
    (h : ∀ x, I x → (∀ y s r, meas y < meas x → I y → s = S y → G y = r → ofBlock id (evCode C f nt (.loop b) s) = r) → ofBlock id (andThen (round C f nt b (S x)) (evCode C f nt (.loop b))) = G x) :
    ofBlock id (evCode C f nt (.loop b) s0) = r := by
  have e : evCode C f nt (.loop b) s0 = evCode C f nt (.loop b) (S x) := by
    rw [evCode_loop, evCode_loop (s := S x), hs]
    have : (⟨prune (C.ann.loop f (headId b)) (S x).tm, (S x).m⟩ : St) = S x := by rw [hp]
    rw [this]
  rw [e]
  exact loop_mid S G meas I x rfl hr hI hp h
/-- A list of numbers that grows in a row of its own. -/
def lsA (id : Nat) (l : List Int) : A := if l.length = 0 then .nils else .sl id l.length 0 l.length
end AE
end Go.Proofs.YthoomlenmgdebaaGreatDoor
