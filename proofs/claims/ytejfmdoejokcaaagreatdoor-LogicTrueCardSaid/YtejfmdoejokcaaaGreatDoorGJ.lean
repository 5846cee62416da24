/- The program's merging of elements; evaluated. -/
import Derived.Test.YtejfmdoejokcaaaGreatDoorGH
import Derived.Test.YtejfmdoejokcaaaGreatDoorGI
import Derived.Test.YtejfmdoejokcaaaGreatDoorGG
import Derived.Test.YtejfmdoejokcaaaGreatDoorGF
import Derived.Test.YtejfmdoejokcaaaGreatDoorGE
import Derived.Lay
import Derived.Stop.Joined
import Derived.Carry
import Derived.Test.YtejfmdoejokcaaaGreatDoorCards
import Derived.Test.YtejfmdoejokcaaaGreatDoorTie
import Derived.SevenTiedAt
set_option linter.unusedVariables false
set_option linter.unusedSimpArgs false
namespace Go.Proofs.YtejfmdoejokcaaaGreatDoor
namespace AE
open Go
structure MapOk (t : Int → Val) (h : FuncId) (caps : List A) (n : Int) (Q : Mem → Prop) : Prop where
  ev : ∀ x, 0 ≤ x → x < n → ∀ m, Q m → evCall C0 h (.int .i64 x :: caps) m = some (.ret (.agg (t x).cells), m)
  up : ∀ m b r, Q m → Q ⟨m.bx ++ b, m.rw ++ r⟩
  cl : ∀ m, Q m → closed m.bx.length m.rw.length (.fn h caps) = true
  sm : ∀ x, (t x).nodes ≤ 1 ∧ slimV (t x)
section
variable {t : Int → Val} {h : FuncId} {caps : List A} {n : Int} {Q : Mem → Prop}
end
mutual
theorem ok_loose {ex : Fun → List Val → List Int → Bool} (n : Int) : ∀ (v : Val) (f : Fun), okV ex n v f = true → okV exL n v f = true
  | .mk k l w, f, h => by
    rw [okV, Bool.and_eq_true, Bool.and_eq_true] at h ⊢
    exact ⟨⟨h.1.1, rfl⟩, okL_loose n l _ 0 h.2⟩
theorem okL_loose {ex : Fun → List Val → List Int → Bool} (n : Int) : ∀ (l : List Val) (g : Nat → Fun) (i : Nat), okL ex n l g i = true → okL exL n l g i = true
  | [], g, i, h => by rw [okL]
  | v :: r, g, i, h => by
    rw [okL, Bool.and_eq_true] at h ⊢
    exact ⟨ok_loose n v _ h.1, okL_loose n r _ _ h.2⟩
end
theorem ev_RIndex (l : List Int) (k : Int) (fl : Bool) (hl : l.length ≤ 1000000000) (m : Mem) : evCall C0 30 [.isl fl l.length (ints l), .int .i64 k] m = some (.ret (.int .i64 (idxA (fun x => decide (x = k)) l 0)), m) := by
  rw [evCall_body C0 (C0_ext _ (by decide)) (by rw [C0_P]; exact Tryz.func30) rfl (by rw [C0_ann]; rfl) (by rw [C0_ann]; rfl) (by decide) (by simp [Tryz.f30])]
  simp [Tryz.f30, a30, reg30, loop30]
  refine loop_in (fun i : Nat => ⟨[(1, .int .i64 k), (7, .isl fl l.length (ints l)), (8, .int .i64 l.length), (9, .int .i64 i)], m⟩)
    (fun i => some (.ret (.int .i64 (idxA (fun x => decide (x = k)) (l.drop i) i)), m)) (fun i => l.length - i) (fun i => i ≤ l.length) 0 ?_ ?_ ?_ ?_ ?_
  · simp
  · simp
  · simp
  · intro x; simp [Tryz.f30, a30, reg30, loop30]
  · intro i hi hrec
    by_cases hlt : i < l.length
    · have w2 : IntKind.i64.wrap (i + 1) = i + 1 := wrap_id _ (by omega)
      have h3 : i + 1 ≤ l.length := by omega
      have hat := ints_at hlt
      rw [idxA_drop hlt]
      by_cases hc : l[i] = k
      · simp [round, Tryz.f30, a30, reg30, loop30, hlt, w2, h3, hat, hc]
      · simp [round, Tryz.f30, a30, reg30, loop30, hlt, w2, h3, hat, hc, endRound_M0]
        refine hrec (i + 1) _ _ ?_ ?_ ?_ ?_
        · omega
        · omega
        · simp
        · simp
    · clear hrec
      rw [List.drop_eq_nil_of_le (by omega), idxA]
      simp [round, Tryz.f30, a30, reg30, loop30, hlt]
theorem okS_spec {f : Fun} {vs : List Val} (h : okS f vs = true) : shapedF f = true ∧ vs.length ≤ 100 ∧ ∀ v ∈ vs, okV exL vs.length v f = true := by
  unfold okS at h
  simp only [Bool.and_eq_true, decide_eq_true_eq] at h
  obtain ⟨⟨⟨h1, h2⟩, h3⟩, _⟩ := h
  refine ⟨okF_shapedS h1, h2, fun v hv => ?_⟩
  have := List.all_eq_true.1 h3 v hv
  exact ok_loose _ v f (((chkV_spec exS vs.length v f 2000 (by omega)).1).1 this).2
set_option maxHeartbeats 1000000 in
theorem ev_SRSt (f : Fun) (ws : List Val) (l : List Int) (fl : Bool) (hl : l.length ≤ 1000000000) (m : Mem) : evCall C0 29 [.agg (sysX f (.isl false ws.length (Val.cellsL ws))), .isl fl l.length (ints l)] m = some (.ret (.bool (!(l.any fun y => decide (y < 0) || decide ((ws.length : Int) ≤ y)))), m) := by
  rw [evCall_body C0 (C0_ext _ (by decide)) (by rw [C0_P]; exact Tryz.func29) rfl (by rw [C0_ann]; rfl) (by rw [C0_ann]; rfl) (by decide) (by simp [Tryz.f29])]
  simp [Tryz.f29, a29, reg29, loop29]
  refine loop_in (fun i : Nat => ⟨[(2, .ptr m.bx.length 0), (7, .isl fl l.length (ints l)), (8, .int .i64 l.length), (9, .int .i64 i)], ⟨m.bx ++ [sysX f (.isl false ws.length (Val.cellsL ws))], m.rw⟩⟩)
    (fun i => some (.ret (.bool (!((l.drop i).any fun y => decide (y < 0) || decide ((ws.length : Int) ≤ y)))), m)) (fun i => l.length - i) (fun i => i ≤ l.length) 0 ?_ ?_ ?_ ?_ ?_
  · simp
  · simp
  · simp
  · intro x; simp [Tryz.f29, a29, reg29, loop29]
  · intro i hi hrec
    by_cases hlt : i < l.length
    · have w2 : IntKind.i64.wrap (i + 1) = i + 1 := wrap_id _ (by omega)
      have h3 : i + 1 ≤ l.length := by omega
      have hat := ints_at hlt
      rw [List.drop_eq_getElem_cons hlt, List.any_cons]
      by_cases h1 : l[i] < 0
      · simp [round, Tryz.f29, a29, reg29, loop29, hlt, w2, h3, hat, h1]
      · by_cases h2 : (ws.length : Int) ≤ l[i]
        · simp [round, Tryz.f29, a29, reg29, loop29, hlt, w2, h3, hat, h1, h2]
        · simp [round, Tryz.f29, a29, reg29, loop29, hlt, w2, h3, hat, h1, h2, endRound_M0]
          refine hrec (i + 1) _ _ ?_ ?_ ?_ ?_
          · omega
          · omega
          · simp
          · simp [h1, h2]
    · clear hrec
      rw [List.drop_eq_nil_of_le (by omega)]
      simp [round, Tryz.f29, a29, reg29, loop29, hlt]
section
variable (f : Fun) (vs : List Val) (a : Fm)
def few8 : Bool := fewS f vs 200 && decide (vs.length ≤ 8)
theorem few8_spec {f : Fun} {vs : List Val} (h : few8 f vs = true) : f.nodes ≤ 1000000 ∧ vs.length ≤ 8 ∧ Val.nodesL vs ≤ 1000000 ∧ (∀ v ∈ vs, slimV v) ∧ ∀ v ∈ vs, v.nodes ≤ 1000000 := by
  unfold few8 fewS at h
  simp only [Bool.and_eq_true, decide_eq_true_eq] at h
  obtain ⟨⟨⟨⟨h1, h2⟩, h3⟩, h4⟩, h5⟩ := h
  rw [leftF_nodes f _ (by omega)] at h2
  refine ⟨by omega, h5, by omega, fun v hv => ?_, fun v hv => by have := Val.nodes_mem hv; omega⟩
  have := List.all_eq_true.1 h3 v hv
  unfold fewV at this
  rw [Bool.and_eq_true] at this
  exact light_slim (by omega) v this.2
theorem ev_lfew8 (m : Mem) (fl : Bool) : evCall C0 22 [.isl fl 1 (sysX f (.isl false vs.length (Val.cellsL vs)))] m = some (.ret (.bool (few8 f vs)), m) := by
  rw [evCall_body C0 (C0_ext _ (by decide)) (by rw [C0_P]; exact Tryz.func22) rfl (by rw [C0_ann]; rfl) (by rw [C0_ann]; rfl) (by decide) (by simp [Tryz.f22])]
  have he := ev_SFew f vs 200 (by omega) (by omega)
  simp at he
  unfold few8
  simp [Tryz.f22, a22, reg22, loop22]
  rw [evCode_loop]
  cases hc : fewS f vs 200
  · simp [round, Tryz.f22, a22, reg22, loop22, he, hc]
  by_cases h8 : vs.length ≤ 8
  · have h8' : ¬ (8 : Int) < vs.length := by omega
    simp [round, Tryz.f22, a22, reg22, loop22, he, hc, h8, h8', endRound_M0, endRound_M]
    rw [evCode_loop]
    simp [round, Tryz.f22, a22, reg22, loop22]
  · have h8' : (8 : Int) < vs.length := by omega
    simp [round, Tryz.f22, a22, reg22, loop22, he, hc, h8, h8', endRound_M0, endRound_M]
theorem fine_zero {f : Fun} {vs : List Val} {a : Fm} (h : fineE f vs a = 0) : okS f vs = true ∧ isFm f a = true := by
  unfold fineE at h
  cases c1 : okS f vs
  · rw [c1] at h; simp at h
  · cases c2 : isFm f a
    · rw [c1, c2] at h; simp at h
    · exact ⟨rfl, rfl⟩
theorem isFm_ok {f : Fun} {a : Fm} (h : isFm f a = true) : okA f none a = true := by
  unfold isFm at h
  rw [Bool.and_eq_true] at h
  exact h.2
theorem fine_sets (h8 : few8 f vs = true) (ha : a.nodes ≤ 1000000) (h : fineE f vs a = 0) : SlOk f vs a ∧ SeOk f vs a ∧ okA f none a = true := by
  obtain ⟨q1, q2⟩ := fine_zero h
  obtain ⟨s1, s2, s3⟩ := okS_spec q1
  obtain ⟨k1, k2, k3, k4, k5⟩ := few8_spec h8
  exact ⟨(ev_VS f vs (by omega) s1 s3 k5 a.nodes a (Nat.le_refl _) ha).2, (ev_TS f vs (by omega) s1 s3 k5 a.nodes a (Nat.le_refl _) ha).2, isFm_ok q2⟩
def holdsB (x : Int) : Bool := decide (fineE f vs a = 0) && decide (0 ≤ x ∧ x < vs.length) && (setA f vs a).getD x.toNat false
def holdsE (x : Int) : Int := if fineE f vs a = 0 then (if 0 ≤ x ∧ x < vs.length then 0 else 1) else fineE f vs a
theorem ev_LHolds (x : Int) (h8 : few8 f vs = true) (ha : a.nodes ≤ 1000000) (m : Mem) :
    evCall C0 24 [.agg (sysX f (.isl false vs.length (Val.cellsL vs))), .int .i64 x, .agg a.cells] m = some (.ret (.tup [.bool (holdsB f vs a x), .int .i64 (holdsE f vs a x)]), m) := by
  rw [evCall_body C0 (C0_ext _ (by decide)) (by rw [C0_P]; exact Tryz.func24) rfl (by rw [C0_ann]; rfl) (by rw [C0_ann]; rfl) (by decide) (by simp [Tryz.f24])]
  obtain ⟨k1, k2, k3, k4, k5⟩ := few8_spec h8
  have h1 := ev_fineA f vs a k1 k3 k4 (by omega)
  simp at h1
  unfold holdsB holdsE
  by_cases c : fineE f vs a = 0
  case neg => simp [Tryz.f24, a24, reg24, h1, c]
  obtain ⟨s1, _, s2⟩ := fine_sets f vs a h8 ha c
  have h2 := ev_LStates f vs a s1 s2
  have hl := setA_len f vs a.nodes a (Nat.le_refl _)
  simp at h2
  generalize setA f vs a = S at h2 hl
  by_cases x0 : x < 0
  · simp [Tryz.f24, a24, reg24, h1, c, x0, show ¬ (0 ≤ x ∧ x < vs.length) by omega]
  by_cases x1 : (vs.length : Int) ≤ x
  · simp [Tryz.f24, a24, reg24, h1, c, x0, x1, show ¬ (0 ≤ x ∧ x < vs.length) by omega]
  obtain ⟨k, rfl⟩ : ∃ k : Nat, x = k := ⟨x.toNat, by omega⟩
  have hk : k < S.length := by omega
  have hk1 : k + 1 ≤ S.length := by omega
  have hat := boolsL_at hk
  have hgd : S.getD k false = S[k] := by simp [List.getD_eq_getElem?_getD, hk]
  rw [show ((k : Nat) : Int).toNat = k from Int.toNat_natCast k, hgd]
  simp [Tryz.f24, a24, reg24, h1, c, x0, x1, h2, hat, hk1, show k < vs.length by omega]
set_option maxHeartbeats 4000000 in
theorem ev_LogicTrue (x : Int) (m : Mem) : evCall C0 5 [.agg (sysX f (.isl false vs.length (Val.cellsL vs))), .int .i64 x, .agg a.cells] m = some (.ret (.bool true), m) := by
  rw [evCall_body C0 (C0_ext _ (by decide)) (by rw [C0_P]; exact Tryz.func5) rfl (by rw [C0_ann]; rfl) (by rw [C0_ann]; rfl) (by decide) (by simp [Tryz.f5])]
  have h1 := fun fl m => ev_lfew8 f vs m fl
  have h2 := fun m => ev_FewA a 60 m (by omega) (by omega)
  simp at h1 h2
  cases c1 : few8 f vs
  case false => simp [Tryz.f5, a5, reg5, h1, c1, ev_awake]
  by_cases c2 : 0 < leftA a 61
  case neg => simp [Tryz.f5, a5, reg5, h1, c1, h2, c2, ev_awake]
  have n2 : a.nodes ≤ 1000000 := by rw [leftA_nodes a 61 (by omega)] at c2; omega
  obtain ⟨k1, k2, k3, k4, k5⟩ := few8_spec c1
  have e1 := ev_LTrue f vs a k1 k3 k4 (by omega) (fun h => ⟨(fine_sets f vs a c1 n2 h).1, (fine_sets f vs a c1 n2 h).2.2⟩)
  have e2 := ev_LHolds f vs a x c1 n2
  have e3 := ev_SRIs f vs k1 k3 k4
  by_cases c : fineE f vs a = 0
  case neg =>
    have hb : holdsB f vs a x = false := by unfold holdsB; simp [c]
    have he : holdsE f vs a x = fineE f vs a := by unfold holdsE; rw [if_neg c]
    rw [hb, he] at e2
    rw [if_neg c] at e1
    simp [ints] at e1 e2 e3
    cases c3 : okS f vs
    · have hE : fineE f vs a = 30 := by unfold fineE; rw [c3]; rfl
      rw [hE] at e1 e2
      simp [Tryz.f5, a5, reg5, h1, c1, h2, c2, e1, e2, e3, c3, ev_awake]
    · obtain ⟨s1, _⟩ := okS_spec c3
      have e4 := ev_IsA f a s1 (by omega)
      have c4 : isFm f a = false := by
        cases h : isFm f a
        · rfl
        · exact absurd (by unfold fineE; rw [c3, h]; rfl) c
      have hE : fineE f vs a = 70 := by unfold fineE; rw [c3, c4]; rfl
      rw [hE] at e1 e2
      simp at e4
      simp [Tryz.f5, a5, reg5, h1, c1, h2, c2, e1, e2, e3, c3, e4, c4, ev_awake]
  obtain ⟨c3, c4⟩ := fine_zero c
  obtain ⟨s1, _⟩ := okS_spec c3
  obtain ⟨t1, t2, t3⟩ := fine_sets f vs a c1 n2 c
  have e4 := ev_IsA f a s1 (by omega)
  have e5 := ev_RTrue f vs a (by omega) t2 t3
  have hl := setA_len f vs a.nodes a (Nat.le_refl _)
  have hil := idxT_len (setA f vs a) 0
  rw [if_pos c, c] at e1
  have e6 := ev_SameInts false false (idxT (setA f vs a) 0) (idxT (setA f vs a) 0) (by omega)
  have e7 := ev_SRSt f vs [x] true (by simp)
  have e8 := ev_RIndex (idxT (setA f vs a) 0) x false (by omega)
  simp [ints] at e7
  by_cases hx : 0 ≤ x ∧ x < vs.length
  · have hb : holdsB f vs a x = (setA f vs a).getD x.toNat false := by unfold holdsB; simp [c, hx]
    have he : holdsE f vs a x = 0 := by unfold holdsE; rw [if_pos c, if_pos hx]
    have hi := idxA_pos (fun y => decide (y = x)) (idxT (setA f vs a) 0) 0 (by omega)
    have hm := idxT_at (S := setA f vs a) x.toNat
    rw [show ((x.toNat : Nat) : Int) = x by omega] at hm
    have hany : ((idxT (setA f vs a) 0).any fun y => decide (y = x)) = (setA f vs a).getD x.toNat false := by
      rw [Bool.eq_iff_iff, ← hm, List.any_eq_true]
      constructor
      · rintro ⟨y, hy, hyx⟩
        rw [decide_eq_true_eq] at hyx
        subst hyx
        exact hy
      · exact fun h => ⟨x, h, by simp⟩
    rw [hany] at hi
    rw [hb, he] at e2
    have x0 : ¬ x < 0 := by omega
    have x1 : ¬ (vs.length : Int) ≤ x := by omega
    simp at e1 e2 e3 e4 e5 e6 e8 hi
    simp [Tryz.f5, a5, reg5, h1, c1, h2, c2, e1, e2, e3, c3, e4, c4, e5, e6, e7, e8, x0, x1, hi, ev_awake]
  · have hb : holdsB f vs a x = false := by unfold holdsB; simp [c, hx]
    have he : holdsE f vs a x = 1 := by unfold holdsE; rw [if_pos c, if_neg hx]
    rw [hb, he] at e2
    have x0 : x < 0 ∨ (vs.length : Int) ≤ x := by omega
    simp at e1 e2 e3 e4 e5 e6 e8
    simp [Tryz.f5, a5, reg5, h1, c1, h2, c2, e1, e2, e3, c3, e4, c4, e5, e6, e7, e8, x0, ev_awake]
end
theorem ev_LogicTrueR (f : Fun) (vs : List Val) (x : Int) (a : Fm) (m : Mem) : evCall C0 5 [.agg (sysX f (.isl false vs.length (Val.cellsL vs))), .int .i64 x, .agg a.cells] m = some (.ret (.bool true), m) := ev_LogicTrue f vs a x m
end AE
end Go.Proofs.YtejfmdoejokcaaaGreatDoor
/- Trees of formulas that came in. -/
set_option linter.unusedVariables false
set_option linter.unusedSimpArgs false
namespace Go.Proofs.YtejfmdoejokcaaaGreatDoor
namespace AE
open Go Go.RowKit
set_option maxRecDepth 1000000 in
theorem cFm : Tryz.prog.cellsOf 27 = 4 := by kernel_rfl
set_option maxRecDepth 1000000 in
theorem cFms : Tryz.prog.cellsOf 25 = 1 := by kernel_rfl
theorem Fm.flat : ∀ l : List Fm, l.flatMap Fm.cells = Fm.cellsL l
  | [] => by simp
  | f :: r => by rw [List.flatMap_cons, Fm.flat r, Fm.cellsL]
set_option maxRecDepth 100000 in
theorem open_fm {H : Type} {enc : TypeId × Value → H} {W : World} : ∀ (N fuel : Nat), fuel ≤ N → ∀ (cs : List Value) (x : DataW H × List MemPlace), DataW.trod enc Tryz.prog W 0 (fun _ => true) true fuel 27 cs = some x → ∃ f : Fm, VRs W (g0 W) f.cells cs := by
  intro N
  induction N with
  | zero =>
    intro fuel hfu cs x h
    obtain rfl : fuel = 0 := by omega
    simp [DataW.trod] at h
  | succ N ih =>
    intro fuel hfu cs x h
    obtain ⟨xs, n, hn, rfl, hlen, hxl, hf⟩ := DataW.trod_struct Tryz.underlying27 h
    rw [cFm] at hlen
    have hxl3 : xs.length = 4 := hxl
    clear hxl
    obtain ⟨a0, a1, a2, a3, rfl⟩ : ∃ a0 a1 a2 a3, cs = [a0, a1, a2, a3] := by
      match cs, hlen with
      | [a0, a1, a2, a3], _ => exact ⟨a0, a1, a2, a3, rfl⟩
    obtain ⟨x0, x1, x2, x3, rfl⟩ : ∃ x0 x1 x2 x3, xs = [x0, x1, x2, x3] := by
      match xs, hxl3 with
      | [a0, a1, a2, a3], _ => exact ⟨a0, a1, a2, a3, rfl⟩
    have h0 := hf 0 _ rfl
    have h1 := hf 1 _ rfl
    have h2 := hf 2 _ rfl
    have h3 := hf 3 _ rfl
    simp [cInt, cFms] at h0 h1 h2 h3
    obtain ⟨k, e0, _, _⟩ := DataW.trod_int Tryz.underlying3 h0
    obtain ⟨m, e1, _, _⟩ := DataW.trod_int Tryz.underlying3 h1
    obtain ⟨q, e2, _, _⟩ := DataW.trod_int Tryz.underlying3 h2
    simp at e0 e1 e2
    subst e0 e1 e2
    obtain ⟨l, v, e3, hv⟩ := open_slice (by decide) Tryz.underlying25 cFm Fm.cells Fm.cells_length (fun n' hn' ds y hy => ih n' (by omega) ds y hy) h3
    simp at e3
    subst e3
    rw [Fm.flat] at hv
    refine ⟨.mk k m q l, ?_⟩
    rw [Fm.cells_eq]
    exact .mk_cons VR.mkInt (.mk_cons VR.mkInt (.mk_cons VR.mkInt (.mk_cons hv VRs.mk_nil)))
end AE
end Go.Proofs.YtejfmdoejokcaaaGreatDoor
/- The row of the statement LogicTrue. Printed by mkrow.py. -/
set_option linter.unusedVariables false
set_option linter.unusedSimpArgs false
namespace Go.Proofs.YtejfmdoejokcaaaGreatDoor
namespace AE
open Go Go.ChangeShapes Go.WideShapes Go.ChangeAt Go.RowKit
theorem own : ownKnob Tryz.prog.godebug = none := by kernel_rfl
theorem laidOut : laidOutB Tryz.prog = true := by kernel_rfl
theorem door_met_logicTrue (os : Os) (args : Array Value) : laidMetH Tryz.prog Rows.logicTrueRow.laid ((World.laidAll Tryz.prog os Rows.logicTrueRow.laid).forCall (fun _ _ => 0) ⟨#[], args, []⟩).memory := by
  rw [MakeChecks.laidMetH_plain _ _ _ (by kernel_rfl)]
  exact laidMet_laidAll _ (by kernel_rfl) (by kernel_rfl)
set_option maxRecDepth 100000 in
theorem lifted_logicTrue (os : Os) (started : os.Started) (H : Type) (enc : TypeId × Value → H) :
    ReturnsInHanded {} Tryz.checked os 5 .any (fun w args => (Rows.logicTrueSpec.pre enc Tryz.prog Tryz.f5 [] false w args ∧ laidMetH Tryz.prog Rows.logicTrueRow.laid w) ∧ sizedMet enc Tryz.prog Tryz.f5 (OpenSpec.ofChange Rows.logicTrueSpec) false w args)
      (Rows.logicTrueSpec.post enc Tryz.prog Tryz.f5 false true false false) := by
  refine returnsInHanded_of_change_and (C := Tryz.checked) (X := fun w _ => laidMetH Tryz.prog Rows.logicTrueRow.laid w) (fun _ _ _ hh h => h.of_heap hh) own started (by kernel_rfl) Tryz.func5
    (ChangeSpec.witness_shaped (enc := enc) (C := Tryz.checked) (os := os) (X := fun w _ => laidMetH Tryz.prog Rows.logicTrueRow.laid w) false (World.laidAll Tryz.prog os Rows.logicTrueRow.laid) #[.agg #[.int .i64 0, .int .i64 0, .slice none 0 0, .slice none 0 0], .int .i64 0, .agg #[.int .i64 0, .int .i64 0, .int .i64 0, .slice none 0 0]] 8 rfl (World.shaped_of_ZipB (by kernel_rfl) (by kernel_rfl)) (by kernel_rfl) (by kernel_rfl) (by kernel_rfl) (door_met_logicTrue os _)) ?_
  intro W base args ds gs before hval0 hW _ _ hL _
  have hW' := hW
  obtain ⟨p, q, hA0, hV, rfl, hfz, hnd⟩ := hW
  have hA : DataW.TrodAll enc Tryz.prog W 0 (fun _ => true) true Tryz.f5.params.toList args.toList ds p := hA0
  rw [Tryz.params5] at hA
  obtain ⟨v0, v1, v2, d0, d1, d2, p0, p1, p2, rfl, rfl, rfl, h0, h1, h2⟩ := trodAll_three hA
  obtain ⟨rfl, rfl⟩ := trodVars_none hV
  have k0 := h0
  have k1 := h1
  have k2 := h2
  have lt0 : ∀ x ∈ p0, x.block < W.heap.size := by obtain ⟨m, hm⟩ := k0; exact DataW.trod_lt m _ _ _ hm
  have lt1 : ∀ x ∈ p1, x.block < W.heap.size := by obtain ⟨m, hm⟩ := k1; exact DataW.trod_lt m _ _ _ hm
  have lt2 : ∀ x ∈ p2, x.block < W.heap.size := by obtain ⟨m, hm⟩ := k2; exact DataW.trod_lt m _ _ _ hm
  obtain ⟨n0, h0⟩ := h0
  obtain ⟨x0, y0, hx0⟩ := open_sys n0 n0 (Nat.le_refl _) _ _ h0
  obtain ⟨x1, rfl, _, _, hw1⟩ := open_int Tryz.underlying3 (hval0 1 3 v1 rfl rfl) h1
  obtain ⟨n2, h2⟩ := h2
  obtain ⟨x2, hx2⟩ := open_fm n2 n2 (Nat.le_refl _) _ _ h2
  have hs := sr0 (P := Tryz.prog) (gl_of_laid (laid := Rows.logicTrueRow.laid) (by kernel_rfl) (by simp [Rows.logicTrueRow]) (by simp [Rows.logicTrueRow]) (by simp [Rows.logicTrueRow]) hL) (tb_of_laid (laid := Rows.logicTrueRow.laid) (by kernel_rfl) (by simp [Rows.logicTrueRow]) hL)
  have hcall := (sound ok0 5 [.agg (sysX x0 (.isl false y0.length (Val.cellsL y0))), .int .i64 x1, .agg x2.cells] ⟨[], []⟩ _ (ev_LogicTrueR x0 y0 x1 x2 ⟨[], []⟩)).2 W (g0 W) W [v0, .int .i64 x1, v2] (by rw [C0_P, C0_gl]; exact hs) ?_
  · rw [C0_P] at hcall
    refine Calls.mono hcall fun e W' hR => ?_
    obtain ⟨g', hs', _, hres⟩ := hR
    cases e with
    | panicked ch => exact hres.elim
    | outgrown => exact hres.elim
    | returned v =>
      have hv : v = .bool true := hres
      subst hv
      have bel := hs'.below
      exact ⟨_, rfl, _, _, _, [], _, [], hW', trodAll_mk1 (shut_bool Tryz.underlying4 _), (trodAll_cons_mk (Below.trod laidOut (by kernel_rfl) (of_decide_eq_true (by kernel_rfl)) k0 bel lt0) (trodAll_cons_mk (Below.trod laidOut (by kernel_rfl) (of_decide_eq_true (by kernel_rfl)) k1 bel lt1) (trodAll_cons_mk (Below.trod laidOut (by kernel_rfl) (of_decide_eq_true (by kernel_rfl)) k2 bel lt2) trodAll_mk0))), rfl, bel.frame _, fun h => by cases h⟩
  · exact .mk_cons (agg_of hx0 (by simp)) (.mk_cons VR.mkInt (.mk_cons (agg_of hx2 (by simp)) VRs.mk_nil))
theorem said_logicTrue : Rows.LogicTrueSaid :=
  OpenClaim.holds_of_wide 5 Tryz.f5 rfl rfl rfl rfl rfl rfl rfl ⟨rfl, rfl, rfl, rfl, rfl⟩ rfl rfl rfl rfl rfl (by kernel_rfl) Tryz.func5 (by kernel_rfl)
    (of_decide_eq_true (by kernel_rfl)) (by unfold Func.isWrapper; first | (rw [if_pos (by decide +kernel)]; kernel_rfl) | (rw [if_neg (by decide +kernel)]; exact ⟨rfl, rfl⟩))
    (fun os started H enc _ => lifted_logicTrue os started H enc)
end AE
end Go.Proofs.YtejfmdoejokcaaaGreatDoor
/- The card of the statement LogicTrue. Printed by mkrow.py. -/
set_option linter.unusedVariables false
set_option linter.unusedSimpArgs false
namespace Go.Proofs.YtejfmdoejokcaaaGreatDoor
namespace AE
open Go
theorem card_logicTrue : Rows.LogicTrueCardSaid :=
  Claim7.holds_tied_plain_at .later [] [.data, .data, .data, .data, .sentinel, .sentinel, .data, .widerDeep, .pinned] true (true, "70642d1fde59d5f0e3c6a178434cd940d613635ed48435bc76478f3e7c8f55f8") true
    said_logicTrue (fun _ h => by cases h) (by kernel_rfl) (fun _ h => by cases h) logicTrue_row_tie rfl ⟨rfl, rfl⟩ (by kernel_rfl) rfl
    (fun f fn hf hfn => by
      obtain rfl : f = 5 := Option.some.inj ((show Tryz.prog.funcNamed "ectype/ectypelaw07.LogicTrue" = some 5 by kernel_rfl).symm.trans hf) |>.symm
      obtain rfl : fn = Tryz.f5 := (Option.some.inj (Tryz.func5.symm.trans hfn)).symm
      exact ⟨by kernel_rfl, fun j t ht => by
        rw [Tryz.params5] at ht
        have h3 : t = 48 ∨ t = 3 ∨ t = 27 := by
          rcases j with _ | _ | _ | j
          · exact .inl (by simpa using ht.symm)
          · exact .inr (.inl (by simpa using ht.symm))
          · exact .inr (.inr ((by simpa using ht.symm)))
          · simp at ht
        rcases h3 with rfl | rfl | rfl
        · exact (show Tryz.prog.wantsStandIn 48 = false by kernel_rfl)
        · exact (show Tryz.prog.wantsStandIn 3 = false by kernel_rfl)
        · exact (show Tryz.prog.wantsStandIn 27 = false by kernel_rfl)
      ⟩)
    (by kernel_rfl)
#print axioms card_logicTrue
end AE
end Go.Proofs.YtejfmdoejokcaaaGreatDoor
