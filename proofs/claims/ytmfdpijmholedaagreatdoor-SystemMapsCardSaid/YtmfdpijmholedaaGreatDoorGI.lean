/- ContainsFunc over values and numbers; narrow; evaluated. -/
import Derived.Test.YtmfdpijmholedaaGreatDoorGG
import Derived.Test.YtmfdpijmholedaaGreatDoorGF
import Derived.Test.YtmfdpijmholedaaGreatDoorGH
import Derived.Lay
import Derived.Stop.Joined
import Derived.Carry
import Derived.Test.YtmfdpijmholedaaGreatDoorCards
import Derived.Test.YtmfdpijmholedaaGreatDoorTie
import Derived.SevenTiedAt
set_option linter.unusedVariables false
set_option linter.unusedSimpArgs false
namespace Go.Proofs.YtmfdpijmholedaaGreatDoor
namespace AE
open Go
def idxA {α : Type} (p : α → Bool) : List α → Int → Int
  | [], _ => -1
  | a :: r, i => if p a then i else idxA p r (i + 1)
theorem idxA_pos {α : Type} (p : α → Bool) : ∀ (l : List α) (i : Int), 0 ≤ i → decide (0 ≤ idxA p l i) = l.any p
  | [], i, _ => rfl
  | a :: r, i, h => by
    rw [idxA, List.any_cons]
    split
    · rename_i hp; simp [hp, h]
    · rename_i hp; rw [idxA_pos p r (i + 1) (by omega)]; simp [hp]
theorem idxA_drop {α : Type} {p : α → Bool} {l : List α} {i : Nat} (h : i < l.length) : idxA p (l.drop i) i = if p l[i] then (i : Int) else idxA p (l.drop (i + 1)) ((i + 1 : Nat) : Int) := by
  rw [List.drop_eq_getElem_cons h, idxA]
  rfl
section
variable {g : FuncId} {caps : List A}
set_option maxHeartbeats 2000000 in
theorem ev_IndexV (p : Val → Bool) (l : List Val) (fl : Bool) (hl : l.length ≤ 1000000000) (m : Mem) (hcl : closed m.bx.length m.rw.length (.fn g caps) = true) (hp : ∀ u, u ∈ l → evCall C0 g (.agg u.cells :: caps) m = some (.ret (.bool (p u)), m)) :
    evCall C0 210 [.isl fl l.length (Val.cellsL l), .fn g caps] m = some (.ret (.int .i64 (idxA p l 0)), m) := by
  rw [evCall_body C0 (C0_ext _ (by decide)) (by rw [C0_P]; exact Tryz.func210) rfl (by rw [C0_ann]; rfl) (by decide) (by simp [Tryz.f210])]
  simp [Tryz.f210, a210, reg210, loop210]
  refine loop_in (fun i : Nat => ⟨[(0, .isl fl l.length (Val.cellsL l)), (1, .fn g caps), (7, .int .i64 l.length), (8, .int .i64 i)], m⟩)
    (fun i => some (.ret (.int .i64 (idxA p (l.drop i) i)), m)) (fun i => l.length - i) (fun i => i ≤ l.length) 0 ?_ ?_ ?_ ?_ ?_
  · simp
  · simp
  · simp
  · intro x; simp [Tryz.f210, a210, reg210, loop210]
  · intro i hi hrec
    by_cases hlt : i < l.length
    · have w2 : IntKind.i64.wrap (i + 1) = i + 1 := wrap_id _ (by omega)
      have h3 : (i + 1) * 3 ≤ l.length * 3 := by omega
      have he := hp l[i] (List.getElem_mem hlt)
      simp at he
      rw [idxA_drop hlt]
      cases hc : p l[i]
      · simp [hc] at he
        simp [round, Tryz.f210, a210, reg210, loop210, hlt, w2, h3, he, endRound_M0, hcl]
        refine hrec (i + 1) _ _ ?_ ?_ ?_ ?_
        · omega
        · omega
        · simp
        · simp
      · simp [hc] at he
        simp [round, Tryz.f210, a210, reg210, loop210, hlt, w2, h3, he]
    · clear hrec
      rw [List.drop_eq_nil_of_le (by omega), idxA]
      simp [round, Tryz.f210, a210, reg210, loop210, hlt]
theorem ev_ContainsV (p : Val → Bool) (l : List Val) (fl : Bool) (hl : l.length ≤ 1000000000) (m : Mem) (hcl : closed m.bx.length m.rw.length (.fn g caps) = true) (hp : ∀ u, u ∈ l → evCall C0 g (.agg u.cells :: caps) m = some (.ret (.bool (p u)), m)) :
    evCall C0 183 [.isl fl l.length (Val.cellsL l), .fn g caps] m = some (.ret (.bool (l.any p)), m) := by
  rw [evCall_body C0 (C0_ext _ (by decide)) (by rw [C0_P]; exact Tryz.func183) rfl (by rw [C0_ann]; rfl) (by decide) (by simp [Tryz.f183])]
  have he := ev_IndexV p l fl hl m hcl hp
  have h1 := idxA_pos p l 0 (by omega)
  simp [Tryz.f183, a183, reg183, he, h1]
set_option maxHeartbeats 2000000 in
theorem ev_IndexI (p : Int → Bool) (l : List Int) (fl : Bool) (hl : l.length ≤ 1000000000) (m : Mem) (hcl : closed m.bx.length m.rw.length (.fn g caps) = true) (hp : ∀ u, u ∈ l → evCall C0 g (.int .i64 u :: caps) m = some (.ret (.bool (p u)), m)) :
    evCall C0 82 [.isl fl l.length (ints l), .fn g caps] m = some (.ret (.int .i64 (idxA p l 0)), m) := by
  rw [evCall_body C0 (C0_ext _ (by decide)) (by rw [C0_P]; exact Tryz.func82) rfl (by rw [C0_ann]; rfl) (by decide) (by simp [Tryz.f82])]
  simp [Tryz.f82, a82, reg82, loop82]
  refine loop_in (fun i : Nat => ⟨[(0, .isl fl l.length (ints l)), (1, .fn g caps), (7, .int .i64 l.length), (8, .int .i64 i)], m⟩)
    (fun i => some (.ret (.int .i64 (idxA p (l.drop i) i)), m)) (fun i => l.length - i) (fun i => i ≤ l.length) 0 ?_ ?_ ?_ ?_ ?_
  · simp
  · simp
  · simp
  · intro x; simp [Tryz.f82, a82, reg82, loop82]
  · intro i hi hrec
    by_cases hlt : i < l.length
    · have w2 : IntKind.i64.wrap (i + 1) = i + 1 := wrap_id _ (by omega)
      have h3 : i + 1 ≤ l.length := by omega
      have he := hp l[i] (List.getElem_mem hlt)
      have hat := ints_at hlt
      rw [idxA_drop hlt]
      cases hc : p l[i]
      · simp [hc] at he
        simp [round, Tryz.f82, a82, reg82, loop82, hlt, w2, h3, he, hat, endRound_M0, hcl]
        refine hrec (i + 1) _ _ ?_ ?_ ?_ ?_
        · omega
        · omega
        · simp
        · simp
      · simp [hc] at he
        simp [round, Tryz.f82, a82, reg82, loop82, hlt, w2, h3, he, hat]
    · clear hrec
      rw [List.drop_eq_nil_of_le (by omega), idxA]
      simp [round, Tryz.f82, a82, reg82, loop82, hlt]
theorem ev_ContainsI (p : Int → Bool) (l : List Int) (fl : Bool) (hl : l.length ≤ 1000000000) (m : Mem) (hcl : closed m.bx.length m.rw.length (.fn g caps) = true) (hp : ∀ u, u ∈ l → evCall C0 g (.int .i64 u :: caps) m = some (.ret (.bool (p u)), m)) :
    evCall C0 36 [.isl fl l.length (ints l), .fn g caps] m = some (.ret (.bool (l.any p)), m) := by
  rw [evCall_body C0 (C0_ext _ (by decide)) (by rw [C0_P]; exact Tryz.func36) rfl (by rw [C0_ann]; rfl) (by decide) (by simp [Tryz.f36])]
  have he := ev_IndexI p l fl hl m hcl hp
  have h1 := idxA_pos p l 0 (by omega)
  simp [Tryz.f36, a36, reg36, he, h1]
end
theorem wideL_any {c : Fun} : ∀ {l : List Val} {g : Nat → Fun} {i : Nat}, (∀ j, g j = c) → wideL l g i = l.any fun u => wideV u c
  | [], g, i, _ => by rw [wideL]; rfl
  | v :: r, g, i, h => by rw [wideL, h i, wideL_any h, List.any_cons]
theorem ev_narrow (ex : Fun → List Val → List Int → Bool) (n : Int) (N : Nat) : ∀ (v : Val), v.nodes ≤ N → v.nodes ≤ 1000000 → ∀ (f : Fun), shapedF f = true → okV ex n v f = true → ∀ (m : Mem), evCall C0 151 [.agg f.cells, .agg v.cells] m = some (.ret (.bool (!wideV v f)), m) := by
  induction N with
  | zero => intro v hN; have := v.nodes_pos; omega
  | succ N ih =>
  intro v hN hb f hf hok m
  have hlen := v.length_args
  rw [okV_eq, Bool.and_eq_true, Bool.and_eq_true] at hok
  obtain ⟨⟨hh, _⟩, hokl⟩ := hok
  obtain ⟨hd1, hd2, hd3⟩ := head_num hh
  have hh' := hh
  unfold headL at hh'
  simp only [Bool.and_eq_true] at hh'
  obtain ⟨⟨q1, q2⟩, q3⟩ := hh'
  have key : ∀ (k : 4 ≤ f.kind) (hl : f.args.length = 1), evCall C0 151 [.agg f.cells, .agg v.cells] m = some (.ret (.bool (!wideV v f)), m) := fun k hl => by
    have f0 : 0 < f.args.length := by omega
    have b1 := Fun.at_cellsL f.args 0 f0
    simp at b1
    have hg : ∀ j, argF f v.num j = f.args[0] := fun j => by
      unfold argF
      rw [if_neg (by omega), if_neg (by omega), List.getD_eq_getElem?_getD, List.getElem?_eq_getElem f0]
      rfl
    have hset : setsK f.kind = false → v.args.length ≤ 100 := fun h => by
      have h4 : f.kind = 4 := by
        have := shaped_kind hf
        unfold setsK wtd at h
        simp at h
        omega
      simp [h4] at q1
      have := shaped_num hf
      omega
    have hwd : wideV v f = (decide (100 < v.args.length) || v.args.any fun u => wideV u f.args[0]) := by
      rw [wideV_eq, wideL_any hg]
      cases hs : setsK f.kind
      · have := hset hs
        simp [show ¬ 100 < v.args.length by omega]
      · simp
    have hcf : ∀ (M : Mem) (k : Nat), M.bx[k]? = some f.cells → evCall C0 183 [.isl false v.args.length (Val.cellsL v.args), .fn 184 [.ptr k 0]] M = some (.ret (.bool (v.args.any fun u => wideV u f.args[0])), M) := fun M k hMk => by
      have hk1 : k < M.bx.length := (List.getElem?_eq_some_iff.1 hMk).1
      have hk2 := (List.getElem?_eq_some_iff.1 hMk).2
      refine ev_ContainsV _ _ _ (by omega) _ (by simp [hk1]) fun u hu => ?_
      have hm := Val.nodes_arg hu
      obtain ⟨j, hj, rfl⟩ := List.getElem_of_mem hu
      have o0 := okL_mem hokl j hj
      rw [hg] at o0
      have he := ih v.args[j] (by omega) (by omega) f.args[0] (shaped_arg hf f0) o0
      simp at he
      rw [evCall_body C0 (C0_ext _ (by decide)) (by rw [C0_P]; exact Tryz.func184) rfl (by rw [C0_ann]; rfl) (by decide) (by simp [Tryz.f184])]
      simp [Tryz.f184, a184, reg184, draw184, dok184, at_lt, hk1, hk2, b1, he, hl]
    rw [hwd]
    have hcf1 := hcf ⟨m.bx ++ [f.cells, v.cells], m.rw⟩ m.bx.length (by simp)
    simp at hcf1
    rw [evCall_body C0 (C0_ext _ (by decide)) (by rw [C0_P]; exact Tryz.func151) rfl (by rw [C0_ann]; rfl) (by decide) (by simp [Tryz.f151])]
    have k4 : ¬ f.kind = 0 ∧ ¬ f.kind = 1 ∧ ¬ f.kind = 2 ∧ ¬ f.kind = 3 := by omega
    by_cases hc : v.args.length ≤ 100
    · simp [Tryz.f151, a151, reg151, draw151, dok151, k4, show (v.args.length : Int) ≤ 100 by omega, hcf1, show ¬ 100 < v.args.length by omega]
    · simp [Tryz.f151, a151, reg151, draw151, dok151, k4, show ¬ (v.args.length : Int) ≤ 100 by omega, show 100 < v.args.length by omega]
  rcases shaped_kind hf with ⟨h0, hl⟩ | ⟨h0, hl⟩ | ⟨h0, hl⟩ | ⟨h0, hl⟩ | ⟨h0, hl⟩ | ⟨h0, hl⟩ | ⟨h0, hl⟩ | ⟨h0, hl⟩
  · have : v.args = [] := List.eq_nil_of_length_eq_zero (hd3 (.inl h0))
    rw [evCall_body C0 (C0_ext _ (by decide)) (by rw [C0_P]; exact Tryz.func151) rfl (by rw [C0_ann]; rfl) (by decide) (by simp [Tryz.f151])]
    rw [wideV_eq, this, wideL]
    simp [Tryz.f151, a151, reg151, draw151, dok151, h0, setsK, wtd]
  · have : v.args = [] := List.eq_nil_of_length_eq_zero (hd3 (.inr h0))
    rw [evCall_body C0 (C0_ext _ (by decide)) (by rw [C0_P]; exact Tryz.func151) rfl (by rw [C0_ann]; rfl) (by decide) (by simp [Tryz.f151])]
    rw [wideV_eq, this, wideL]
    simp [Tryz.f151, a151, reg151, draw151, dok151, h0, setsK, wtd]
  · simp [h0, hl] at q1
    have a0 : 0 < v.args.length := by omega
    have a1 : 1 < v.args.length := by omega
    have f0 : 0 < f.args.length := by omega
    have f1 : 1 < f.args.length := by omega
    have g0 : argF f v.num 0 = f.args[0] := by unfold argF; rw [if_pos h0, List.getD_eq_getElem?_getD, List.getElem?_eq_getElem f0]; rfl
    have g1 : argF f v.num 1 = f.args[1] := by unfold argF; rw [if_pos h0, List.getD_eq_getElem?_getD, List.getElem?_eq_getElem f1]; rfl
    have b1 := Fun.at_cellsL f.args 0 f0
    have b2 := Fun.at_cellsL f.args 1 f1
    have b3 := Val.at_cellsL v.args 0 a0
    have b4 := Val.at_cellsL v.args 1 a1
    simp at b1 b2 b3 b4
    have o0 := okL_mem hokl 0 a0
    have o1 := okL_mem hokl 1 a1
    rw [Nat.zero_add] at o0 o1
    rw [g0] at o0
    rw [g1] at o1
    have m0 := Val.nodes_arg (List.getElem_mem a0)
    have m1 := Val.nodes_arg (List.getElem_mem a1)
    have he0 := ih v.args[0] (by omega) (by omega) f.args[0] (shaped_arg hf f0) o0
    have he1 := ih v.args[1] (by omega) (by omega) f.args[1] (shaped_arg hf f1) o1
    simp at he0 he1
    have hw : wideV v f = (wideV v.args[0] f.args[0] || wideV v.args[1] f.args[1]) := by
      have e0 := wideL_drop a0 (argF f v.num)
      have e1 := wideL_drop a1 (argF f v.num)
      rw [List.drop_zero] at e0
      rw [wideV_eq, e0, e1, g0, g1, List.drop_eq_nil_of_le (by omega), wideL]
      simp [h0, setsK, wtd]
    rw [hw]
    rw [evCall_body C0 (C0_ext _ (by decide)) (by rw [C0_P]; exact Tryz.func151) rfl (by rw [C0_ann]; rfl) (by decide) (by simp [Tryz.f151])]
    cases hc : wideV v.args[0] f.args[0]
    · simp [hc] at he0
      simp [Tryz.f151, a151, reg151, draw151, dok151, h0, ← q1, hl, b1, b2, b3, b4, he0, he1]
    · simp [hc] at he0
      simp [Tryz.f151, a151, reg151, draw151, dok151, h0, ← q1, hl, b1, b2, b3, b4, he0, he1]
  · simp [h0] at q1
    have a0 : 0 < v.args.length := by omega
    have f0 : 0 < f.args.length := by omega
    have f1 : 1 < f.args.length := by omega
    have b1 := Fun.at_cellsL f.args 0 f0
    have b2 := Fun.at_cellsL f.args 1 f1
    have b3 := Val.at_cellsL v.args 0 a0
    simp at b1 b2 b3
    have o0 := okL_mem hokl 0 a0
    rw [Nat.zero_add] at o0
    have m0 := Val.nodes_arg (List.getElem_mem a0)
    have e0 := wideL_drop a0 (argF f v.num)
    rw [List.drop_zero, List.drop_eq_nil_of_le (by omega), wideL, Bool.or_false] at e0
    rw [wideV_eq, e0]
    by_cases cn : v.num = 0
    · have g0 : argF f v.num 0 = f.args[0] := by unfold argF; rw [if_neg (by omega), if_pos h0, cn, List.getD_eq_getElem?_getD, List.getElem?_eq_getElem (by simpa using f0)]; rfl
      rw [g0] at o0 ⊢
      have he0 := ih v.args[0] (by omega) (by omega) f.args[0] (shaped_arg hf f0) o0
      simp at he0
      rw [evCall_body C0 (C0_ext _ (by decide)) (by rw [C0_P]; exact Tryz.func151) rfl (by rw [C0_ann]; rfl) (by decide) (by simp [Tryz.f151])]
      simp [Tryz.f151, a151, reg151, draw151, dok151, h0, q1.2, hl, b1, b2, b3, he0, cn, setsK, wtd]
    · have cm : v.num = 1 := by omega
      have g0 : argF f v.num 0 = f.args[1] := by unfold argF; rw [if_neg (by omega), if_pos h0, cm, List.getD_eq_getElem?_getD, List.getElem?_eq_getElem (by simpa using f1)]; rfl
      rw [g0] at o0 ⊢
      have he0 := ih v.args[0] (by omega) (by omega) f.args[1] (shaped_arg hf f1) o0
      simp at he0
      rw [evCall_body C0 (C0_ext _ (by decide)) (by rw [C0_P]; exact Tryz.func151) rfl (by rw [C0_ann]; rfl) (by decide) (by simp [Tryz.f151])]
      simp [Tryz.f151, a151, reg151, draw151, dok151, h0, q1.2, hl, b1, b2, b3, he0, cm, setsK, wtd]
  · exact key (by omega) hl
  · exact key (by omega) hl
  · exact key (by omega) hl
  · exact key (by omega) hl
theorem idV_ok (n : Int) : MapOk idV 150 [] n (fun _ => True) where
  ev x _ _ m _ := by
    rw [evCall_body C0 (C0_ext _ (by decide)) (by rw [C0_P]; exact Tryz.func150) rfl (by rw [C0_ann]; rfl) (by decide) (by simp [Tryz.f150])]
    simp [Tryz.f150, a150, reg150, idV]
  up _ _ _ _ := trivial
  cl m _ := by simp
  sm x := by rw [Val.nodes_eq, slimV_eq]; simp [idV, Val.nodesL, slimL]
theorem ev_vnormal (f : Fun) (n : Int) (v : Val) (hf : shapedF f = true) (hb : v.nodes ≤ 1000000) (hs : slimV v) (m : Mem) : evCall C0 108 [.agg f.cells, .int .i64 n, .agg v.cells] m = some (.ret (.tup [.agg (rNorm f n v).1.cells, .int .i64 (rNorm f n v).2]), m) := by
  have he := ev_vcheck (m.bx.length + 3) n true v.nodes v (Nat.le_refl _) (by omega) hs f hf 2000 ⟨m.bx ++ [f.cells, v.cells, [.int .i64 0, .nils, .nils], [.int .i64 n, .int .i64 2000, .bool true]], m.rw⟩ (by omega) (by omega) (by simp)
  rw [show exOf true = exL from rfl] at he
  have hspec := (chkV_spec exL n v f 2000 (by omega)).1
  rw [evCall_body C0 (C0_ext _ (by decide)) (by rw [C0_P]; exact Tryz.func108) rfl (by rw [C0_ann]; rfl) (by decide) (by simp [Tryz.f108])]
  simp at he
  cases hc : (chkV exL n v f 2000).1
  · simp [hc] at he
    have hr : rNorm f n v = (zeroV, 20) := by
      unfold rNorm
      split
      · rename_i hn
        have : okV exL n v f = false := by
          rw [Bool.eq_false_iff]
          intro h
          have := hspec.2 ⟨by omega, h⟩
          rw [hc] at this
          cases this
        rw [norm_none n v f this]
      · rfl
    rw [hr]
    simp [Tryz.f108, a108, reg108, he, zeroV]
  · simp [hc] at he
    have h1 := hspec.1 hc
    have hnm := norm_map n v f hf h1.2
    have hok := norm_ok n v f _ hnm
    have hmn := map_nodes (t := idV) (idV_ok n).sm v f hs (by omega)
    have hmp := ev_Mapped (idV_ok n) v.nodes v (Nat.le_refl _) hb hs f hf h1.2
    have hnr := ev_narrow exN n _ (mapV idV v f) (Nat.le_refl _) (by omega) f hf hok
    have hr : rNorm f n v = if wideV (mapV idV v f) f then (zeroV, 2) else (mapV idV v f, 0) := by
      unfold rNorm
      rw [if_pos (by omega), hnm]
    rw [hr]
    simp at hmp hnr
    cases hw : wideV (mapV idV v f) f
    · simp [hw] at hnr
      simp [Tryz.f108, a108, reg108, he, hmp, hnr]
    · simp [hw] at hnr
      simp [Tryz.f108, a108, reg108, he, hmp, hnr, zeroV]
theorem ev_RSame00 (m : Mem) : evCall C0 41 [.agg [.int .i64 0, .isl false 0 [], .isl false 0 []], .agg [.int .i64 0, .nils, .nils]] m = some (.ret (.bool true), m) := by
  have he : ∀ m, evCall C0 86 [.agg [.int .i64 0, .isl false 0 [], .isl false 0 []], .agg [.int .i64 0, .nils, .nils]] m = some (.ret (.int .i64 0), m) := fun m => by
    have ho : ∀ m, evCall C0 130 [.int .i64 0, .int .i64 0] m = some (.ret (.int .i64 0), m) := fun m => by
      rw [evCall_body C0 (C0_ext _ (by decide)) (by rw [C0_P]; exact Tryz.func130) rfl (by rw [C0_ann]; rfl) (by decide) (by simp [Tryz.f130])]
      simp [Tryz.f130, a130, reg130]
    rw [evCall_body C0 (C0_ext _ (by decide)) (by rw [C0_P]; exact Tryz.func86) rfl (by rw [C0_ann]; rfl) (by decide) (by simp [Tryz.f86])]
    simp [Tryz.f86, a86, reg86, loop86, draw86, dok86]
    rw [evCode_loop]
    simp [round, Tryz.f86, a86, reg86, loop86, draw86, dok86]
    rw [evCode_loop]
    simp [round, Tryz.f86, a86, reg86, loop86, draw86, dok86, ho]
  rw [evCall_body C0 (C0_ext _ (by decide)) (by rw [C0_P]; exact Tryz.func41) rfl (by rw [C0_ann]; rfl) (by decide) (by simp [Tryz.f41])]
  simp [Tryz.f41, a41, reg41, he]
def pNorm (f : Fun) (n : Int) (v : Val) : Val × Int := if errF f n = 0 then rNorm f n v else (zeroV, errF f n)
theorem rNorm_nodes {f : Fun} {n : Int} {v : Val} (hs : slimV v) (hb : v.nodes ≤ 1000000000) : (rNorm f n v).1.nodes ≤ v.nodes ∧ slimV (rNorm f n v).1 := by
  have hz : zeroV.nodes ≤ v.nodes ∧ slimV zeroV := by
    have := v.nodes_pos
    rw [Val.nodes_eq, slimV_eq]
    simp [zeroV, Val.nodesL, slimL]
    omega
  unfold rNorm
  split
  · cases h : normV n v f with
    | none => exact hz
    | some y =>
      simp only
      split
      · exact hz
      · exact norm_nodes n v f y hs hb h
  · exact hz
mutual
theorem ok_loose {ex : Fun → List Val → List Int → Bool} (n : Int) : ∀ (v : Val) (f : Fun), okV ex n v f = true → okV exL n v f = true
  | .mk k l w, f, h => by
    rw [okV, Bool.and_eq_true, Bool.and_eq_true] at h ⊢
    exact ⟨⟨h.1.1, rfl⟩, okL_loose n l _ 0 h.2⟩
theorem okL_loose {ex : Fun → List Val → List Int → Bool} (n : Int) : ∀ (l : List Val) (g : Nat → Fun) (i : Nat), okL ex n l g i = true → okL exL n l g i = true
  | [], g, i, h => by rw [okL]
  | v :: r, g, i, h => by
    rw [okL, Bool.and_eq_true] at h ⊢
    exact ⟨ok_loose n v _ h.1, okL_loose n r _ _ h.2⟩
end
def toV (to : List Int) (x : Int) : Val := idV (to.getD x.toNat 0)
theorem toV_sm (to : List Int) (x : Int) : (toV to x).nodes ≤ 1 ∧ slimV (toV to x) := by
  unfold toV idV
  rw [Val.nodes_eq, slimV_eq]
  simp [Val.nodesL, slimL]
def RMapAt (to : List Int) (fl : Bool) (n : Int) (v : Val) : Prop :=
  ∀ f, shapedF f = true → okV exL n v f = true → ∀ m : Mem, evCall C0 42 [.agg f.cells, .agg v.cells, .isl fl to.length (ints to)] m = some (.ret (.agg (mapV (toV to) v f).cells), m)
set_option maxHeartbeats 8000000 in
theorem ev_RMap1 (to : List Int) (fl : Bool) (n : Int) (hto : n ≤ to.length) (v : Val) (hb : v.nodes ≤ 1000000) (hs : slimV v) (H : ∀ u, u ∈ v.args → RMapAt to fl n u) : RMapAt to fl n v := by
  intro f hf hok m
  have hs' := hs
  rw [slimV_eq] at hs'
  rw [okV_eq, Bool.and_eq_true, Bool.and_eq_true] at hok
  obtain ⟨⟨hh, _⟩, hokl⟩ := hok
  have hlen := v.length_args
  have hvn := v.nodes_eq
  have hnum := head_num hh
  have hpb : partsB f v = true := by
    rw [head_split hf, Bool.and_eq_true, Bool.and_eq_true] at hh
    exact hh.1.1
  have hp := ev_Parts f v hf (by omega)
  obtain ⟨hPl, hPa⟩ := parts_at hf hpb
  have hst := ev_Sets f.kind
  simp [hpb] at hp
  generalize partsL f v = P at hp hPl hPa
  by_cases hk0 : f.kind = 0
  · have hh' := hh
    unfold headL at hh'
    simp [hk0] at hh'
    obtain ⟨x, hx⟩ : ∃ x : Nat, v.num = x := ⟨v.num.toNat, by omega⟩
    have hxl : x < to.length := by omega
    have hat := ints_at hxl
    rw [mapV_eq, if_pos hk0, hx]
    rw [evCall_body C0 (C0_ext _ (by decide)) (by rw [C0_P]; exact Tryz.func42) rfl (by rw [C0_ann]; rfl) (by decide) (by simp [Tryz.f42])]
    simp [Tryz.f42, a42, reg42, loop42, draw42, dok42, hk0, hx, hxl, show x + 1 ≤ to.length by omega, hat, toV, idV]
  have hmn := mapL_nodes (toV_sm to) v.args (argF f v.num) 0 hs'.2 (by omega)
  have hml := mapL_length (toV to) v.args (argF f v.num) 0
  have hmv : mapV (toV to) v f = if setsK f.kind = true then mergeV f.kind v.num (mapL (toV to) v.args (argF f v.num) 0) v.ws else .mk v.num (mapL (toV to) v.args (argF f v.num) 0) v.ws := by
    rw [mapV_eq, if_neg hk0]
    have hk := shaped_kind hf
    by_cases h1 : f.kind = 1
    · have ha : v.args = [] := List.eq_nil_of_length_eq_zero (hnum.2.2 (.inr h1))
      rw [if_pos h1, ha, mapL, hnum.2.1 (by rw [h1]; rfl)]
      simp [h1, setsK, wtd]
    rw [if_neg h1]
    by_cases h2 : f.kind = 2
    · rw [hnum.1 hk0 h1 (by omega), hnum.2.1 (by rw [h2]; rfl)]
      simp [h2, setsK, wtd]
    by_cases h3 : f.kind = 3
    · rw [hnum.2.1 (by rw [h3]; rfl)]
      simp [h3, setsK, wtd]
    by_cases h4 : f.kind = 4
    · rw [hnum.1 hk0 h1 h3, hnum.2.1 (by rw [h4]; rfl)]
      simp [h4, setsK, wtd]
    rw [if_neg h2, if_neg h3, if_neg h4, if_pos, hnum.1 hk0 h1 h3]
    unfold setsK wtd
    simp only [Bool.or_eq_true, decide_eq_true_eq]
    omega
  rw [hmv]
  have hwz : v.ws.length * 8 ≤ 70368744177664 := by omega
  have hwy : v.ws.length ≤ 70368744177664 := by omega
  rw [evCall_body C0 (C0_ext _ (by decide)) (by rw [C0_P]; exact Tryz.func42) rfl (by rw [C0_ann]; rfl) (by decide) (by simp [Tryz.f42])]
  by_cases hw0 : v.ws.length = 0
  case' pos =>
    simp [hw0] at hp
    simp [Tryz.f42, a42, reg42, loop42, draw42, dok42, hk0, hp, hw0]
  case' neg => simp [Tryz.f42, a42, reg42, loop42, draw42, dok42, hk0, hp, hw0, show ¬ v.ws = [] from fun h => hw0 (by rw [h]; rfl), hwz, hwy, flat_mem_ints]
  all_goals
    refine loop_in (fun x : Nat × List Val => ⟨[(2, .isl fl to.length (ints to)), (3, .ptr m.bx.length 0), (6, .ptr (m.bx.length + 2) 0), (7, .isl false P.length (Fun.cellsL P)), (9, .ptr (m.bx.length + 3) 0), (34, .isl false v.args.length (Val.cellsL v.args)), (35, .int .i64 v.args.length), (36, .int .i64 x.1)],
        ⟨m.bx ++ [f.cells, v.cells, [.int .i64 0, .nils, .nils], [.int .i64 v.num, xA (m.rw.length + (wR v.ws).length) x.2, wA m.rw.length v.ws]], m.rw ++ (wR v.ws ++ xR x.2)⟩⟩)
      (fun x => some (.ret (.agg (if setsK f.kind = true then mergeV f.kind v.num (mapL (toV to) v.args (argF f v.num) 0) v.ws else .mk v.num (mapL (toV to) v.args (argF f v.num) 0) v.ws).cells), m)) (fun x => v.args.length - x.1)
      (fun x => x.1 ≤ v.args.length ∧ x.2.length = x.1 ∧ mapL (toV to) v.args (argF f v.num) 0 = x.2 ++ mapL (toV to) (v.args.drop x.1) (argF f v.num) x.1) (0, []) ?_ ?_ ?_ ?_ ?_
    · simp [xA, wA, wR, xR, hw0]
    · simp
    · simp
    · intro x; simp [Tryz.f42, a42, reg42, loop42, draw42, dok42]
    · rintro ⟨i, xs⟩ ⟨hi, hxl, hnl⟩ hrec
      simp only at hi hxl hnl ⊢
      have hcl := wxR_closed v.ws xs
      have hwc := wA_closed m.rw.length v.ws xs
      by_cases hlt : i < v.args.length
      · have w2 : IntKind.i64.wrap (i + 1) = i + 1 := wrap_id _ (by omega)
        have h3 : (i + 1) * 3 ≤ v.args.length * 3 := by omega
        have hiP : i < P.length := by omega
        have hgi := hPa i hiP
        have hk01 : ¬ f.kind = 0 ∧ ¬ f.kind = 1 := by
          refine ⟨fun h => ?_, fun h => ?_⟩
          · have := hnum.2.2 (.inl h); omega
          · have := hnum.2.2 (.inr h); omega
        have hgs := argF_shaped hf hk01.1 hk01.2 hh i hlt
        have o0 := okL_mem hokl i hlt
        rw [Nat.zero_add] at hgs o0
        have he := H v.args[i] (List.getElem_mem hlt) (argF f v.num i) hgs o0
        have hin := mapL_snoc hlt hnl
        have hwc2 : ∀ nb x, closed nb (m.rw.length + ((wR v.ws).length + x)) (wA m.rw.length v.ws) = true := fun nb x => wA_closed2 _ _ _ _
        have hwR := wR_closed v.ws
        simp at he
        cases xs with
        | nil =>
          have hi0 : i = 0 := by simpa using hxl.symm
          subst hi0
          have b3 := Val.at_cellsL v.args 0 hlt
          have b1 := Fun.at_cellsL P 0 hiP
          rw [hgi] at b1
          simp at b1 b3
          simp [round, Tryz.f42, a42, reg42, loop42, draw42, dok42, hlt, w2, h3, hiP, show 3 ≤ P.length * 3 by omega, show 3 ≤ v.args.length * 3 by omega, hgi, b1, b3, he, xA, xR, app_at, app_set, endRound_J, hwR, hwc2]
          refine hrec (1, [mapV (toV to) v.args[0] (argF f v.num 0)]) _ _ ?_ ?_ ?_ ?_
          · simp; omega
          · exact ⟨by simp only; omega, rfl, by rw [hin]; rfl⟩
          · simp [xA, xR, Val.cellsL]
          · simp
        | cons a r =>
          have hr : r.length + 1 = i := by simpa using hxl
          simp [round, Tryz.f42, a42, reg42, loop42, draw42, dok42, hlt, w2, h3, hiP, show (i + 1) * 3 ≤ P.length * 3 by omega, hgi, he, xA, xR, app_at, app_set, endRound_J, hwR, hwc2, show (r.length + 1 + 1) * 56 ≤ 70368744177664 by omega, show r.length + 1 + 1 ≤ 70368744177664 by omega]
          refine hrec (i + 1, a :: r ++ [mapV (toV to) v.args[i] (argF f v.num i)]) _ _ ?_ ?_ ?_ ?_
          · simp; omega
          · exact ⟨by simp only; omega, by simp; omega, by rw [hin]⟩
          · simp [xA, xR, Val.cellsL, Val.cellsL_append]
          · simp
      · clear hrec
        have hie : i = v.args.length := by omega
        subst hie
        rw [List.drop_eq_nil_of_le (Nat.le_refl _), mapL, List.append_nil] at hnl
        rw [hnl] at hmn hml ⊢
        cases hset : setsK f.kind
        · have hwt : wtd f.kind = false := by
            cases h : wtd f.kind
            · rfl
            · unfold setsK at hset
              rw [h, Bool.or_true] at hset
              cases hset
          have hwe := hnum.2.1 hwt
          rw [hset] at hst
          by_cases hx0 : xs.length = 0
          · have hx1 : v.args.length = 0 := by omega
            have hxe : xs = [] := List.eq_nil_of_length_eq_zero hx0
            subst hxe
            simp [round, Tryz.f42, a42, reg42, loop42, draw42, dok42, hst, xA, wA, xR, wR, hwe, hx1]
          · have hx1 : ¬ v.args.length = 0 := by omega
            have hall : List.take (xs.length * 3) (Val.cellsL xs) = Val.cellsL xs := List.take_of_length_le (by simp)
            simp [round, Tryz.f42, a42, reg42, loop42, draw42, dok42, hst, xA, wA, xR, wR, hwe, hx0, hx1, hxl, hall]
            try (rw [← hxl]; exact hall)
        · rw [hset] at hst
          have hss := (head_sets hset).1 hh
          have hwk3 : wtd f.kind = true → v.ws.length = xs.length ∧ (∀ w, w ∈ v.ws → 1 ≤ w) ∧ v.ws.sum ≤ 1048576 := fun h => by
            rw [if_pos h] at hss
            have h2 := (weighI_iff v.ws 0 (by omega)).1 hss.2.1
            exact ⟨by omega, h2.1, by omega⟩
          have hk7 : f.kind = 7 → 0 < xs.length := fun h => by
            have hw7 : wtd f.kind = true := by rw [h]; rfl
            rw [if_pos hw7] at hss
            have := hss.2.2.2
            omega
          by_cases hx0 : xs.length = 0
          · have hx1 : v.args.length = 0 := by omega
            have hxe : xs = [] := List.eq_nil_of_length_eq_zero hx0
            subst hxe
            have hwe : v.ws = [] := by
              cases h : wtd f.kind
              · exact hnum.2.1 h
              · exact List.eq_nil_of_length_eq_zero (by rw [(hwk3 h).1]; rfl)
            have hk56 : f.kind = 5 ∨ f.kind = 6 := by
              rcases setsK_kind hset with h | h | h
              · exact .inl h
              · exact .inr h
              · have := hk7 h; simp at this
            have he0 := ev_Merged0 f.kind v.num hk56
            simp at he0
            have hmv : mergeV f.kind v.num [] v.ws = .mk v.num [] [] := by
              unfold mergeV mergeP
              rw [hwe]
              rcases hk56 with h | h <;> rw [h] <;> rfl
            simp [hmv]
            simp [round, Tryz.f42, a42, reg42, loop42, draw42, dok42, hst, xA, wA, xR, wR, hwe, hx1, he0]
          · have hx1 : 0 < xs.length := by omega
            have hmw : mwA f.kind m.rw.length (.mk v.num xs v.ws) = wA m.rw.length v.ws := by
              unfold mwA wA
              cases h : wtd f.kind
              · rw [hnum.2.1 h]; simp
              · have := (hwk3 h).1
                rw [if_neg (by simp), if_neg (by omega)]
                rfl
            have he := ev_MergedR f.kind (.mk v.num xs v.ws) (m.rw.length + (wR v.ws).length) m.rw.length hset (by rw [Val.nodes_eq, Val.args_mk]; omega) (by rw [slimV_eq]; exact ⟨hs'.1, hmn.2⟩) hwk3 hk7
              ⟨m.bx ++ [f.cells, v.cells, [.int .i64 0, .nils, .nils], [.int .i64 v.num, xA (m.rw.length + (wR v.ws).length) xs, wA m.rw.length v.ws]], m.rw ++ (wR v.ws ++ xR xs)⟩
              (by simp [app_at, xR, show ¬ xs = [] from fun h => hx0 (by rw [h]; rfl)])
              (fun h => by
                have h1 : ¬ v.ws.length = 0 := by rw [(hwk3 h).1]; omega
                have := app_at m.rw (wR v.ws ++ xR xs) 0
                rw [Nat.add_zero] at this
                simp only [this]
                unfold wR
                rw [if_neg h1]
                rfl)
            rw [hmw] at he
            have hxx : xA (m.rw.length + (wR v.ws).length) xs = .sl (m.rw.length + (wR v.ws).length) (xs.length * 3) 0 xs.length := by unfold xA; rw [if_neg hx0]
            simp [hxx, hxl] at he
            simp [round, Tryz.f42, a42, reg42, loop42, draw42, dok42, hst, hxx, he, hxl]
theorem ev_RMap (to : List Int) (fl : Bool) (n : Int) (hto : n ≤ to.length) (N : Nat) : ∀ (v : Val), v.nodes ≤ N → v.nodes ≤ 1000000 → slimV v → RMapAt to fl n v := by
  induction N with
  | zero => intro v hN; have := v.nodes_pos; omega
  | succ N ih =>
  intro v hN hb hs
  have hs' := (slimV_eq v ▸ hs).2
  exact ev_RMap1 to fl n hto v hb hs fun u hu => ih u (by have := Val.nodes_arg hu; omega) (by have := Val.nodes_arg hu; omega) (slimL_mem hs' hu)
theorem along_ok (to : List Int) (fl : Bool) (n : Int) (hto : n ≤ to.length) (id : Nat) : MapOk (toV to) 85 [.ptr id 0] n (fun m => m.bx[id]? = some [.isl fl to.length (ints to)]) where
  ev x h0 h1 m hm := by
    have hid : id < m.bx.length := (List.getElem?_eq_some_iff.1 hm).1
    have hg := (List.getElem?_eq_some_iff.1 hm).2
    obtain ⟨k, rfl⟩ : ∃ k : Nat, x = k := ⟨x.toNat, by omega⟩
    have hxl : k < to.length := by omega
    have hat := ints_at hxl
    rw [evCall_body C0 (C0_ext _ (by decide)) (by rw [C0_P]; exact Tryz.func85) rfl (by rw [C0_ann]; rfl) (by decide) (by simp [Tryz.f85])]
    simp [Tryz.f85, a85, reg85, at_lt, hid, hg, hxl, show k + 1 ≤ to.length by omega, hat, toV, idV]
  up m b r h := by
    have hid : id < m.bx.length := (List.getElem?_eq_some_iff.1 h).1
    simp only
    rw [List.getElem?_append_left hid]
    exact h
  cl m h := by
    have hid : id < m.bx.length := (List.getElem?_eq_some_iff.1 h).1
    simp [hid]
  sm := toV_sm to
theorem ev_Along (to : List Int) (fl : Bool) (n : Int) (hto : n ≤ to.length) (f : Fun) (v : Val) (hf : shapedF f = true) (hok : okV exL n v f = true) (hb : v.nodes ≤ 1000000) (hs : slimV v) (m : Mem) :
    evCall C0 39 [.agg f.cells, .agg v.cells, .isl fl to.length (ints to)] m = some (.ret (.agg (mapV (toV to) v f).cells), m) := by
  rw [evCall_body C0 (C0_ext _ (by decide)) (by rw [C0_P]; exact Tryz.func39) rfl (by rw [C0_ann]; rfl) (by decide) (by simp [Tryz.f39])]
  have he := ev_Mapped (along_ok to fl n hto (m.bx.length + 2)) v.nodes v (Nat.le_refl _) hb hs f hf hok ⟨m.bx ++ [f.cells, v.cells, [.isl fl to.length (ints to)], [.int .i64 0, .nils, .nils]], m.rw⟩ (by simp)
  simp at he
  simp [Tryz.f39, a39, reg39, he]
def mapsB (n : Int) (to : List Int) : Bool := !(to.any fun y => decide (y < 0) || decide (100 ≤ y)) && decide ((to.length : Int) = n)
def pMap (to : List Int) (f : Fun) (n : Int) (v : Val) : Val × Int := if errV f n v = 0 then (if mapsB n to then (mapV (toV to) v f, 0) else (zeroV, 1)) else (zeroV, errV f n v)
theorem errV_zero {f : Fun} {n : Int} {v : Val} (h0 : errV f n v = 0) : errF f n = 0 ∧ okV exS n v f = true ∧ v.nodes ≤ 2000 := by
  unfold errV at h0
  by_cases hx : errF f n = 0
  · rw [if_pos hx] at h0
    refine ⟨hx, ?_⟩
    cases hc : (chkV exS n v f 2000).1
    · rw [hc] at h0; simp at h0
    · have := ((chkV_spec exS n v f 2000 (by omega)).1).1 hc
      exact ⟨this.2, by omega⟩
  · rw [if_neg hx] at h0; exact absurd h0 hx
section
variable (C : Cfg) (f nt : Nat) (all rest : List Oper) (d : Option Tmp) (tm : List (Nat × A)) (m : Mem)
@[simp] theorem opD_makeSlice (t : TypeId) (l c : Operand) : opD C f nt all rest d (.makeSlice t l c) ⟨tm, m⟩ = stepD C f nt all rest d .eff m tm (makeSliceA C.P t (opd C.gl tm l) (opd C.gl tm c) m) := _root_.id rfl
end
@[simp] theorem makeSliceA_eq (P : Program) (t : TypeId) (k k' : IntKind) (l c : Int) (m : Mem) : makeSliceA P t (.int k l) (.int k' c) m = (elemT P t).bind fun e => (zeroOf P e).bind fun z => (bytesOf P e).bind fun by_ =>
    if l = c ∧ 0 ≤ l ∧ l * by_ ≤ 70368744177664 ∧ l ≤ 70368744177664 ∧ z.length = szOf P e ∧ 0 < szOf P e then
      some (.sl m.rw.length (l.toNat * szOf P e) 0 l.toNat, { m with rw := m.rw ++ [⟨e, (List.replicate l.toNat z).flatten⟩] })
    else none := _root_.id rfl
set_option maxHeartbeats 2000000 in
theorem ev_FCopied (N : Nat) : ∀ (f : Fun), f.nodes ≤ N → f.nodes ≤ 1000000000 → ∀ (m : Mem), evCall C0 76 [.agg f.cells] m = some (.ret (.agg f.cells), m) := by
  induction N with
  | zero => intro f hN; have := f.nodes_pos; omega
  | succ N ih =>
  intro f hN hb m
  rw [evCall_body C0 (C0_ext _ (by decide)) (by rw [C0_P]; exact Tryz.func76) rfl (by rw [C0_ann]; rfl) (by decide) (by simp [Tryz.f76])]
  have hlen := f.length_args
  simp [Tryz.f76, a76, reg76, loop76, draw76, dok76]
  by_cases h0 : 0 < f.args.length
  case neg =>
    have : f.args = [] := List.eq_nil_of_length_eq_zero (by omega)
    rw [evCode_loop]
    simp [round, Tryz.f76, a76, reg76, loop76, draw76, dok76, this]
  have he0 := ih f.args[0] (by have := Fun.nodes_arg (List.getElem_mem h0); omega) (by have := Fun.nodes_arg (List.getElem_mem h0); omega)
  simp at he0
  rw [evCode_loop]
  have h3 : 3 ≤ f.args.length * 3 := by omega
  have g3 := Fun.at_cellsL f.args 0 h0
  simp at g3
  simp [round, Tryz.f76, a76, reg76, loop76, draw76, dok76, h0, he0, h3, g3, endRound_R0]
  refine loop_in (fun i : Nat => ⟨[(1, .ptr m.bx.length 0), (2, .ptr (m.bx.length + 1) 0), (9, .isl false f.args.length (Fun.cellsL f.args)), (10, .int .i64 f.args.length), (11, .int .i64 i)],
    ⟨m.bx ++ [[.int .i64 f.kind, .int .i64 f.num, .sl (m.rw.length + 0) (i * 3) 0 i], [.int .i64 0, .int .i64 0, .nils]], m.rw ++ [⟨24, Fun.cellsL (f.args.take i)⟩]⟩⟩)
    (fun i => some (.ret (.agg f.cells), m)) (fun i => f.args.length - i) (fun i => 0 < i ∧ i ≤ f.args.length) 1 ?_ ?_ ?_ ?_ ?_
  · have : f.args.take 1 = [f.args[0]] := by rw [List.take_succ_eq_append_getElem h0]; simp
    simp [this, Fun.cellsL]
  · simp
  · omega
  · intro x; simp [Tryz.f76, a76, reg76, loop76, draw76, dok76]
  · rintro i ⟨hi0, hi⟩ hrec
    have hmin : min i f.args.length = i := by omega
    by_cases hlt : i < f.args.length
    · have w2 : IntKind.i64.wrap (i + 1) = i + 1 := wrap_id _ (by omega)
      have hmem := Fun.nodes_arg (List.getElem_mem hlt)
      have he := ih f.args[i] (by omega) (by omega)
      simp at he
      clear ih
      have h3 : (i + 1) * 3 ≤ f.args.length * 3 := by omega
      have h4 : (i + 1) * 40 ≤ 70368744177664 := by omega
      have h5 : i + 1 ≤ 70368744177664 := by omega
      simp [round, Tryz.f76, a76, reg76, loop76, draw76, dok76, hlt, w2, h3, h4, h5, he, hmin, endRound_R]
      refine hrec (i + 1) _ _ ?_ ?_ ?_ ?_
      · omega
      · omega
      · simp [Fun.cellsL_snoc hlt]
      · simp
    · clear hrec ih
      have : f.args.take i = f.args := List.take_of_length_le (by omega)
      have hl : i = f.args.length := by omega
      subst hl
      simp [round, Tryz.f76, a76, reg76, loop76, draw76, dok76, this]
      try rw [List.take_of_length_le (by simp)]
def bothE (f g : Fun) (vs ws : List Val) : Int := if okS f vs && okS g ws then (if sameF f g then 0 else 1) else 30
theorem sameF_comm (f g : Fun) : sameF g f = sameF f g := by
  rw [Bool.eq_iff_iff, sameF_iff, sameF_iff]
  exact ⟨fun h => h.symm, fun h => h.symm⟩
theorem ev_Both (f g : Fun) (vs ws : List Val) (hf : f.nodes ≤ 1000000) (hg : g.nodes ≤ 1000000) (hb : Val.nodesL vs ≤ 1000000) (hb2 : Val.nodesL ws ≤ 1000000) (hs : ∀ v ∈ vs, slimV v) (hs2 : ∀ v ∈ ws, slimV v) (m : Mem) :
    evCall C0 35 [.agg (sysX f (.isl false vs.length (Val.cellsL vs))), .agg (sysX g (.isl false ws.length (Val.cellsL ws)))] m = some (.ret (.int .i64 (bothE f g vs ws)), m) := by
  rw [evCall_body C0 (C0_ext _ (by decide)) (by rw [C0_P]; exact Tryz.func35) rfl (by rw [C0_ann]; rfl) (by decide) (by simp [Tryz.f35])]
  have h1 := ev_SValid f vs hf hb hs
  have h2 := ev_SValid g ws hg hb2 hs2
  have h3 := ev_Same f.nodes f g (Nat.le_refl _) (by omega)
  simp at h1 h2 h3
  unfold bothE
  cases c1 : okS f vs
  · simp [Tryz.f35, a35, reg35, h1, c1]
  cases c2 : okS g ws
  · simp [Tryz.f35, a35, reg35, h1, h2, c1, c2]
  cases c3 : sameF f g <;> simp [Tryz.f35, a35, reg35, h1, h2, h3, c1, c2, c3]
theorem ev_fault2 (f g : Fun) (vs ws : List Val) (hf : f.nodes ≤ 1000000) (hg : g.nodes ≤ 1000000) (hb : Val.nodesL vs ≤ 1000000) (hb2 : Val.nodesL ws ≤ 1000000) (hs : ∀ v ∈ vs, slimV v) (hs2 : ∀ v ∈ ws, slimV v) (m : Mem) (fl : Bool) :
    evCall C0 12 [.isl fl 2 (sysX f (.isl false vs.length (Val.cellsL vs)) ++ sysX g (.isl false ws.length (Val.cellsL ws)))] m = some (.ret (.int .i64 (bothE f g vs ws)), m) := by
  rw [evCall_body C0 (C0_ext _ (by decide)) (by rw [C0_P]; exact Tryz.func12) rfl (by rw [C0_ann]; rfl) (by decide) (by simp [Tryz.f12])]
  have he := ev_SRIs f vs hf hb hs
  have he2 := ev_SRIs g ws hg hb2 hs2
  have hsm := ev_RSame f.nodes f f (Nat.le_refl _) (by omega)
  have hsm2 := ev_RSame g.nodes g f (Nat.le_refl _) (by omega)
  rw [sameF_comm] at hsm2
  have w2 : IntKind.i64.wrap 2 = 2 := wrap_id _ (by omega)
  simp at he he2 hsm hsm2
  unfold bothE
  simp [Tryz.f12, a12, reg12, loop12, draw12, dok12]
  rw [evCode_loop]
  cases hc : okS f vs
  · simp [round, Tryz.f12, a12, reg12, loop12, draw12, dok12, he, hc]
  simp [round, Tryz.f12, a12, reg12, loop12, draw12, dok12, he, hc, endRound_M0, endRound_M]
  rw [evCode_loop]
  cases hc2 : okS g ws
  · simp [round, Tryz.f12, a12, reg12, loop12, draw12, dok12, he2, hc2]
  simp [round, Tryz.f12, a12, reg12, loop12, draw12, dok12, he2, hc2, endRound_M0, endRound_M, w2]
  rw [evCode_loop]
  simp [round, Tryz.f12, a12, reg12, loop12, draw12, dok12]
  rw [evCode_loop]
  simp [round, Tryz.f12, a12, reg12, loop12, draw12, dok12, hsm, sameF_refl, endRound_M0, endRound_M]
  rw [evCode_loop]
  cases hc3 : sameF f g
  · simp [round, Tryz.f12, a12, reg12, loop12, draw12, dok12, hsm2, hc3]
  simp [round, Tryz.f12, a12, reg12, loop12, draw12, dok12, hsm2, hc3, endRound_M0, endRound_M, w2]
  rw [evCode_loop]
  simp [round, Tryz.f12, a12, reg12, loop12, draw12, dok12]
theorem ev_SRSame00 (m : Mem) : evCall C0 16 [.agg [.int .i64 0, .int .i64 0, .isl false 0 [], .isl false 0 []], .agg [.int .i64 0, .int .i64 0, .nils, .nils]] m = some (.ret (.bool true), m) := by
  have h1 : ∀ m, evCall C0 40 [.agg [.int .i64 0, .int .i64 0, .isl false 0 []], .agg [.int .i64 0, .int .i64 0, .nils]] m = some (.ret (.bool true), m) := fun m => by
    rw [evCall_body C0 (C0_ext _ (by decide)) (by rw [C0_P]; exact Tryz.func40) rfl (by rw [C0_ann]; rfl) (by decide) (by simp [Tryz.f40])]
    simp [Tryz.f40, a40, reg40, loop40, draw40, dok40]
    rw [evCode_loop]
    simp [round, Tryz.f40, a40, reg40, loop40, draw40, dok40]
  rw [evCall_body C0 (C0_ext _ (by decide)) (by rw [C0_P]; exact Tryz.func16) rfl (by rw [C0_ann]; rfl) (by decide) (by simp [Tryz.f16])]
  simp [Tryz.f16, a16, reg16, loop16, draw16, dok16, h1]
  rw [evCode_loop]
  simp [round, Tryz.f16, a16, reg16, loop16, draw16, dok16]
theorem ev_SlIndex (l : List Int) (k : Int) (fl : Bool) (hl : l.length ≤ 1000000000) (m : Mem) : evCall C0 93 [.isl fl l.length (ints l), .int .i64 k] m = some (.ret (.int .i64 (idxA (fun x => decide (x = k)) l 0)), m) := by
  rw [evCall_body C0 (C0_ext _ (by decide)) (by rw [C0_P]; exact Tryz.func93) rfl (by rw [C0_ann]; rfl) (by decide) (by simp [Tryz.f93])]
  simp [Tryz.f93, a93, reg93, loop93]
  refine loop_in (fun i : Nat => ⟨[(0, .isl fl l.length (ints l)), (1, .int .i64 k), (7, .int .i64 l.length), (8, .int .i64 i)], m⟩)
    (fun i => some (.ret (.int .i64 (idxA (fun x => decide (x = k)) (l.drop i) i)), m)) (fun i => l.length - i) (fun i => i ≤ l.length) 0 ?_ ?_ ?_ ?_ ?_
  · simp
  · simp
  · simp
  · intro x; simp [Tryz.f93, a93, reg93, loop93]
  · intro i hi hrec
    by_cases hlt : i < l.length
    · have w2 : IntKind.i64.wrap (i + 1) = i + 1 := wrap_id _ (by omega)
      have h3 : i + 1 ≤ l.length := by omega
      have hat := ints_at hlt
      rw [idxA_drop hlt]
      by_cases hc : l[i] = k
      · simp [round, Tryz.f93, a93, reg93, loop93, hlt, w2, h3, hat, hc, eq_comm]
      · have hc' : ¬ k = l[i] := fun h => hc h.symm
        simp [round, Tryz.f93, a93, reg93, loop93, hlt, w2, h3, hat, hc, hc', endRound_M0]
        refine hrec (i + 1) _ _ ?_ ?_ ?_ ?_
        · omega
        · omega
        · simp
        · simp
    · clear hrec
      rw [List.drop_eq_nil_of_le (by omega), idxA]
      simp [round, Tryz.f93, a93, reg93, loop93, hlt]
theorem ev_SlContains (l : List Int) (k : Int) (fl : Bool) (hl : l.length ≤ 1000000000) (m : Mem) : evCall C0 44 [.isl fl l.length (ints l), .int .i64 k] m = some (.ret (.bool (l.any fun x => decide (x = k))), m) := by
  rw [evCall_body C0 (C0_ext _ (by decide)) (by rw [C0_P]; exact Tryz.func44) rfl (by rw [C0_ann]; rfl) (by decide) (by simp [Tryz.f44])]
  have he := ev_SlIndex l k fl hl
  have h1 := idxA_pos (fun x => decide (x = k)) l 0 (by omega)
  simp [Tryz.f44, a44, reg44, he, h1]
theorem ev_RIndex (l : List Int) (k : Int) (fl : Bool) (hl : l.length ≤ 1000000000) (m : Mem) : evCall C0 46 [.isl fl l.length (ints l), .int .i64 k] m = some (.ret (.int .i64 (idxA (fun x => decide (x = k)) l 0)), m) := by
  rw [evCall_body C0 (C0_ext _ (by decide)) (by rw [C0_P]; exact Tryz.func46) rfl (by rw [C0_ann]; rfl) (by decide) (by simp [Tryz.f46])]
  simp [Tryz.f46, a46, reg46, loop46]
  refine loop_in (fun i : Nat => ⟨[(1, .int .i64 k), (7, .isl fl l.length (ints l)), (8, .int .i64 l.length), (9, .int .i64 i)], m⟩)
    (fun i => some (.ret (.int .i64 (idxA (fun x => decide (x = k)) (l.drop i) i)), m)) (fun i => l.length - i) (fun i => i ≤ l.length) 0 ?_ ?_ ?_ ?_ ?_
  · simp
  · simp
  · simp
  · intro x; simp [Tryz.f46, a46, reg46, loop46]
  · intro i hi hrec
    by_cases hlt : i < l.length
    · have w2 : IntKind.i64.wrap (i + 1) = i + 1 := wrap_id _ (by omega)
      have h3 : i + 1 ≤ l.length := by omega
      have hat := ints_at hlt
      rw [idxA_drop hlt]
      by_cases hc : l[i] = k
      · simp [round, Tryz.f46, a46, reg46, loop46, hlt, w2, h3, hat, hc]
      · simp [round, Tryz.f46, a46, reg46, loop46, hlt, w2, h3, hat, hc, endRound_M0]
        refine hrec (i + 1) _ _ ?_ ?_ ?_ ?_
        · omega
        · omega
        · simp
        · simp
    · clear hrec
      rw [List.drop_eq_nil_of_le (by omega), idxA]
      simp [round, Tryz.f46, a46, reg46, loop46, hlt]
def firstV : List (Val × Nat) → Nat → Option Val
  | [], _ => none
  | p :: r, k => if p.2 = k then some p.1 else firstV r k
def fitsO (v : Val) : Option Val → Bool
  | some u => decide (cmpV v u = 0)
  | none => true
def alongP : List (Val × Nat) → List (Option Val) → Option (List (Option Val))
  | [], o => some o
  | p :: r, o => if fitsO p.1 (o.getD p.2 none) then alongP r (o.set p.2 (some p.1)) else none
def fillO (o : List (Option Val)) (ps : List (Val × Nat)) : List (Option Val) := (List.range o.length).map fun k => (o.getD k none).or (firstV ps k)
def agreeB (g : Nat → Option Val) (ps : List (Val × Nat)) : Bool := ps.all fun p => fitsO p.1 (g p.2)
theorem agreeB_congr {g g' : Nat → Option Val} : ∀ {ps : List (Val × Nat)}, (∀ k, g k = g' k) → agreeB g ps = agreeB g' ps := by
  intro ps h
  rw [funext h]
theorem alongP_eq : ∀ (ps : List (Val × Nat)) (o : List (Option Val)), (∀ p, p ∈ ps → p.2 < o.length) → alongP ps o = if agreeB (fun k => (o.getD k none).or (firstV ps k)) ps then some (fillO o ps) else none
  | [], o, _ => by
    have : fillO o [] = o := by
      apply List.ext_getElem
      · simp [fillO]
      · intro i h1 h2
        simp [fillO, firstV, List.getD_eq_getElem?_getD, h2]
    rw [alongP, this]
    rfl
  | (v, y) :: r, o, h => by
    have hy : y < o.length := h _ List.mem_cons_self
    have hr : ∀ p, p ∈ r → p.2 < o.length := fun p hp => h p (List.mem_cons_of_mem _ hp)
    rw [alongP]
    simp only
    cases ho : o.getD y none with
    | none =>
      have hk : ∀ k, ((o.set y (some v)).getD k none).or (firstV r k) = (o.getD k none).or (firstV ((v, y) :: r) k) := by
        intro k
        rw [firstV]
        simp only
        by_cases hyk : y = k
        · subst hyk
          rw [ho, if_pos rfl]
          simp [List.getD_eq_getElem?_getD, hy]
        · rw [if_neg hyk]
          simp [List.getD_eq_getElem?_getD, List.getElem?_set, hyk]
      rw [alongP_eq r _ (by simpa using hr)]
      have hfill : fillO (o.set y (some v)) r = fillO o ((v, y) :: r) := by
        unfold fillO
        rw [List.length_set]
        exact List.map_congr_left fun k _ => hk k
      rw [hfill, agreeB_congr hk]
      have hv : (o.getD y none).or (firstV ((v, y) :: r) y) = some v := by
        rw [ho, firstV, if_pos rfl]; rfl
      simp only [fitsO, agreeB, List.all_cons, hv, cmpV_self, decide_true, Bool.true_and, if_true]
      try rfl
    | some u =>
      have hv : (o.getD y none).or (firstV ((v, y) :: r) y) = some u := by rw [ho]; rfl
      by_cases hc : cmpV v u = 0
      · have hvu := (cmpV_zero v u).1 hc
        subst hvu
        have hset : o.set y (some v) = o := by
          apply List.ext_getElem
          · simp
          · intro i h1 h2
            rw [List.getElem_set]
            split
            · rename_i hi
              subst hi
              simp [List.getD_eq_getElem?_getD, hy] at ho
              exact ho.symm
            · rfl
        have hk : ∀ k, (o.getD k none).or (firstV r k) = (o.getD k none).or (firstV ((v, y) :: r) k) := by
          intro k
          rw [firstV]
          simp only
          by_cases hyk : y = k
          · subst hyk; rw [ho]; rfl
          · rw [if_neg hyk]
        rw [hset, alongP_eq r _ hr]
        have hfill : fillO o r = fillO o ((v, y) :: r) := by
          unfold fillO
          exact List.map_congr_left fun k _ => hk k
        rw [hfill, agreeB_congr hk]
        simp only [fitsO, agreeB, List.all_cons, hv, hc, decide_true, Bool.true_and, if_true]
        try rfl
      · simp only [fitsO, agreeB, List.all_cons, hv, hc, decide_false, Bool.false_and, Bool.false_eq_true, if_false]
theorem alongP_none (ps : List (Val × Nat)) (n : Nat) (h : ∀ p, p ∈ ps → p.2 < n) : alongP ps (List.replicate n none) = if agreeB (firstV ps) ps then some ((List.range n).map (firstV ps)) else none := by
  rw [alongP_eq ps _ (by simpa using h)]
  have hg : ∀ k, ((List.replicate n (none : Option Val)).getD k none).or (firstV ps k) = firstV ps k := by
    intro k
    rw [List.getD_eq_getElem?_getD, List.getElem?_replicate]
    split <;> rfl
  rw [agreeB_congr hg]
  have : fillO (List.replicate n none) ps = (List.range n).map (firstV ps) := by
    unfold fillO
    rw [List.length_replicate]
    exact List.map_congr_left fun k _ => hg k
  rw [this]
def pairsL (xs : List Val) (to : List Int) : List (Val × Nat) := xs.zip (to.map Int.toNat)
def plc (to : List Int) (k : Int) : Int := idxA (fun x => decide (x = k)) to 0
theorem first_idx : ∀ (xs : List Val) (l : List Int) (k i : Nat), xs.length = l.length → (∀ x, x ∈ l → 0 ≤ x) → firstV (pairsL xs l) k = if idxA (fun x => decide (x = (k : Int))) l i < 0 then none else some (xs.getD ((idxA (fun x => decide (x = (k : Int))) l i).toNat - i) zeroV)
  | [], [], k, i, _, _ => by rw [idxA]; rfl
  | [], _ :: _, _, _, h, _ => by simp at h
  | _ :: _, [], _, _, h, _ => by simp at h
  | v :: xs, y :: l, k, i, h, h0 => by
    have hy := h0 y List.mem_cons_self
    have ih := first_idx xs l k (i + 1) (by simpa using h) (fun x hx => h0 x (List.mem_cons_of_mem _ hx))
    rw [show pairsL (v :: xs) (y :: l) = (v, y.toNat) :: pairsL xs l from rfl, firstV, idxA]
    simp only
    by_cases hyk : y = k
    · have hd : decide (y = (k : Int)) = true := decide_eq_true hyk
      have hyn : y.toNat = k := by omega
      rw [if_pos hyn, if_pos hd, if_neg (by omega), show (i : Int).toNat - i = 0 from by omega]
      rfl
    · have hd : ¬ decide (y = (k : Int)) = true := by simp [hyk]
      have hyn : ¬ y.toNat = k := by omega
      rw [if_neg hyn, if_neg hd, ih]
      have hge : ∀ (l : List Int) (j : Int), 0 ≤ j → idxA (fun x => decide (x = (k : Int))) l j < 0 ∨ j ≤ idxA (fun x => decide (x = (k : Int))) l j := by
        intro l
        induction l with
        | nil => intro j _; left; rw [idxA]; decide
        | cons a t iht =>
          intro j hj
          rw [idxA]
          split
          · right; exact Int.le_refl _
          · rcases iht (j + 1) (by omega) with h | h
            · left; exact h
            · right; omega
      have := hge l ((i + 1 : Nat) : Int) (by omega)
      rw [show ((i : Nat) : Int) + 1 = ((i + 1 : Nat) : Int) from rfl]
      split
      · rfl
      · rename_i hn
        rw [show (idxA (fun x => decide (x = (k : Int))) l ((i + 1 : Nat) : Int)).toNat - i = ((idxA (fun x => decide (x = (k : Int))) l ((i + 1 : Nat) : Int)).toNat - (i + 1)) + 1 from by omega]
        rfl
theorem plc_any (to : List Int) (k : Int) : decide (0 ≤ plc to k) = to.any fun x => decide (x = k) := idxA_pos _ _ _ (by omega)
theorem plc_lt {to : List Int} {k : Int} (h : 0 ≤ plc to k) : (plc to k).toNat < to.length := by
  have hlt : ∀ (l : List Int) (j : Int), 0 ≤ j → idxA (fun x => decide (x = k)) l j < 0 ∨ idxA (fun x => decide (x = k)) l j < j + l.length := by
    intro l
    induction l with
    | nil => intro j _; left; rw [idxA]; decide
    | cons a t iht =>
      intro j hj
      rw [idxA, List.length_cons]
      split
      · right; omega
      · rcases iht (j + 1) (by omega) with h | h
        · left; exact h
        · right; omega
  have := hlt to 0 (by omega)
  unfold plc at h ⊢
  omega
def mostL (n : Int) (to : List Int) : Int := to.foldl (fun n y => max n (y + 1)) n
theorem mostL_le : ∀ (to : List Int) (n : Int), n ≤ mostL n to ∧ ∀ y, y ∈ to → y < mostL n to
  | [], n => ⟨Int.le_refl _, fun y hy => by cases hy⟩
  | a :: r, n => by
    have h := mostL_le r (max n (a + 1))
    rw [show mostL n (a :: r) = mostL (max n (a + 1)) r from rfl]
    refine ⟨by omega, fun y hy => ?_⟩
    rcases List.mem_cons.1 hy with rfl | hy
    · omega
    · exact h.2 y hy
theorem mostL_top : ∀ (to : List Int) (n b : Int), n ≤ b → (∀ y, y ∈ to → y < b) → mostL n to ≤ b
  | [], n, b, h, _ => h
  | a :: r, n, b, h, hy => by
    rw [show mostL n (a :: r) = mostL (max n (a + 1)) r from rfl]
    have := hy a List.mem_cons_self
    exact mostL_top r _ b (by omega) fun y h' => hy y (List.mem_cons_of_mem _ h')
theorem mostL_drop {to : List Int} {i : Nat} (h : i < to.length) (n : Int) : mostL n (to.drop i) = mostL (max n (to[i] + 1)) (to.drop (i + 1)) := by
  rw [List.drop_eq_getElem_cons h]; rfl
def homL (f : Fun) (h : List Int) (ws : List Val) (vs : List Val) (l : List Int) : Bool := (vs.zip l).all fun p => decide (cmpV (mapV (toV h) p.1 f) (ws.getD p.2.toNat zeroV) = 0)
theorem homL_drop {f : Fun} {h : List Int} {ws vs : List Val} {l : List Int} {i : Nat} (h1 : i < vs.length) (h2 : i < l.length) : homL f h ws (vs.drop i) (l.drop i) = (decide (cmpV (mapV (toV h) vs[i] f) (ws.getD l[i].toNat zeroV) = 0) && homL f h ws (vs.drop (i + 1)) (l.drop (i + 1))) := by
  unfold homL
  rw [List.drop_eq_getElem_cons h1, List.drop_eq_getElem_cons h2, List.zip_cons_cons, List.all_cons]
def homB (f : Fun) (vs ws : List Val) (h : List Int) : Bool := decide (h.length = vs.length) && !(h.any fun y => decide (y < 0) || decide ((ws.length : Int) ≤ y)) && homL f h ws vs h
def qL (f : Fun) (vs : List Val) (to : List Int) (n : Nat) : List Val := (List.range n).map fun k : Nat => mapV (toV to) (vs.getD (plc to k).toNat zeroV) f
theorem qL_length (f : Fun) (vs : List Val) (to : List Int) (n : Nat) : (qL f vs to n).length = n := by simp [qL]
theorem qL_succ (f : Fun) (vs : List Val) (to : List Int) (n : Nat) : qL f vs to (n + 1) = qL f vs to n ++ [mapV (toV to) (vs.getD (plc to n).toNat zeroV) f] := by
  simp [qL, List.range_succ]
def mpL (f : Fun) (to : List Int) (vs : List Val) (l : List Int) : List (Val × Nat) := pairsL (vs.map fun v => mapV (toV to) v f) l
theorem mpL_drop {f : Fun} {to : List Int} {vs : List Val} {l : List Int} {i : Nat} (h1 : i < vs.length) (h2 : i < l.length) : mpL f to (vs.drop i) (l.drop i) = (mapV (toV to) vs[i] f, l[i].toNat) :: mpL f to (vs.drop (i + 1)) (l.drop (i + 1)) := by
  unfold mpL pairsL
  rw [List.drop_eq_getElem_cons h1, List.drop_eq_getElem_cons h2]
  rfl
theorem first_mp {f : Fun} {vs : List Val} {to : List Int} (hl : vs.length = to.length) (h0 : ∀ y, y ∈ to → 0 ≤ y) (k : Nat) (hk : 0 ≤ plc to k) : firstV (mpL f to vs to) k = some (mapV (toV to) (vs.getD (plc to k).toNat zeroV) f) := by
  unfold mpL
  rw [first_idx _ to k 0 (by simpa using hl) h0]
  have hlt := plc_lt hk
  unfold plc at hk hlt ⊢
  rw [show ((0 : Nat) : Int) = 0 from rfl, if_neg (by omega), Nat.sub_zero]
  congr 1
  rw [List.getD_eq_getElem?_getD, List.getD_eq_getElem?_getD, List.getElem?_map]
  rw [List.getElem?_eq_getElem (by omega)]
  rfl
theorem quot_law {f : Fun} {vs : List Val} {to : List Int} {n : Nat} (hl : vs.length = to.length) (h0 : ∀ y, y ∈ to → 0 ≤ y ∧ y < n) (hs : ∀ k : Nat, k < n → 0 ≤ plc to k) :
    alongP (mpL f to vs to) (List.replicate n none) = if homL f to (qL f vs to n) vs to then some ((qL f vs to n).map some) else none := by
  have hin : ∀ p, p ∈ mpL f to vs to → p.2 < n := by
    intro p hp
    unfold mpL pairsL at hp
    have := (List.of_mem_zip hp).2
    obtain ⟨y, hy, he⟩ := List.mem_map.1 this
    have := h0 y hy
    omega
  rw [alongP_none _ n hin]
  have e1 : agreeB (firstV (mpL f to vs to)) (mpL f to vs to) = homL f to (qL f vs to n) vs to := by
    unfold agreeB homL
    have hz : mpL f to vs to = (vs.zip to).map fun p => (mapV (toV to) p.1 f, p.2.toNat) := by
      unfold mpL pairsL
      rw [List.zip_map]
      rfl
    rw [show (mpL f to vs to).all (fun p => fitsO p.1 (firstV (mpL f to vs to) p.2)) = ((vs.zip to).map fun p => (mapV (toV to) p.1 f, p.2.toNat)).all (fun p => fitsO p.1 (firstV (mpL f to vs to) p.2)) from by rw [← hz]]
    rw [List.all_map, Bool.eq_iff_iff, List.all_eq_true, List.all_eq_true]
    have hp : ∀ p, p ∈ vs.zip to → fitsO (mapV (toV to) p.1 f) (firstV (mpL f to vs to) p.2.toNat) = decide (cmpV (mapV (toV to) p.1 f) ((qL f vs to n).getD p.2.toNat zeroV) = 0) := by
      intro p hp
      have hy := h0 p.2 (List.of_mem_zip hp).2
      have hlt : p.2.toNat < n := by omega
      rw [first_mp hl (fun y hy => (h0 y hy).1) _ (hs _ hlt), fitsO]
      have : (qL f vs to n).getD p.2.toNat zeroV = mapV (toV to) (vs.getD (plc to (p.2.toNat : Nat)).toNat zeroV) f := by
        rw [List.getD_eq_getElem?_getD, List.getElem?_eq_getElem (by rw [qL_length]; exact hlt)]
        simp [qL]
      rw [this]
    constructor
    · intro h p hp'
      have := h p hp'
      simp only [Function.comp] at this
      rw [hp p hp'] at this
      exact this
    · intro h p hp'
      simp only [Function.comp]
      rw [hp p hp']
      exact h p hp'
  have e2 : (List.range n).map (firstV (mpL f to vs to)) = (qL f vs to n).map some := by
    unfold qL
    rw [List.map_map]
    exact List.map_congr_left fun k hk => first_mp hl (fun y hy => (h0 y hy).1) k (hs k (List.mem_range.1 hk))
  rw [e1, e2]
theorem okS_spec {f : Fun} {vs : List Val} (h : okS f vs = true) : shapedF f = true ∧ vs.length ≤ 100 ∧ ∀ v ∈ vs, okV exL vs.length v f = true := by
  unfold okS at h
  simp only [Bool.and_eq_true, decide_eq_true_eq] at h
  obtain ⟨⟨⟨h1, h2⟩, h3⟩, _⟩ := h
  refine ⟨okF_shapedS h1, h2, fun v hv => ?_⟩
  have := List.all_eq_true.1 h3 v hv
  exact ok_loose _ v f (((chkV_spec exS vs.length v f 2000 (by omega)).1).1 this).2
theorem any_bound {l : List Int} {n : Nat} (h : (l.any fun y => decide (y < 0) || decide ((n : Int) ≤ y)) = false) : ∀ y, y ∈ l → 0 ≤ y ∧ y < n := fun y hy => by
  rw [List.any_eq_false] at h
  have := h y hy
  simp only [Bool.or_eq_true, decide_eq_true_eq] at this
  omega
set_option maxHeartbeats 1000000 in
theorem ev_SRSt (f : Fun) (ws : List Val) (l : List Int) (fl : Bool) (hl : l.length ≤ 1000000000) (m : Mem) : evCall C0 28 [.agg (sysX f (.isl false ws.length (Val.cellsL ws))), .isl fl l.length (ints l)] m = some (.ret (.bool (!(l.any fun y => decide (y < 0) || decide ((ws.length : Int) ≤ y)))), m) := by
  rw [evCall_body C0 (C0_ext _ (by decide)) (by rw [C0_P]; exact Tryz.func28) rfl (by rw [C0_ann]; rfl) (by decide) (by simp [Tryz.f28])]
  simp [Tryz.f28, a28, reg28, loop28]
  refine loop_in (fun i : Nat => ⟨[(2, .ptr m.bx.length 0), (7, .isl fl l.length (ints l)), (8, .int .i64 l.length), (9, .int .i64 i)], ⟨m.bx ++ [sysX f (.isl false ws.length (Val.cellsL ws))], m.rw⟩⟩)
    (fun i => some (.ret (.bool (!((l.drop i).any fun y => decide (y < 0) || decide ((ws.length : Int) ≤ y)))), m)) (fun i => l.length - i) (fun i => i ≤ l.length) 0 ?_ ?_ ?_ ?_ ?_
  · simp
  · simp
  · simp
  · intro x; simp [Tryz.f28, a28, reg28, loop28]
  · intro i hi hrec
    by_cases hlt : i < l.length
    · have w2 : IntKind.i64.wrap (i + 1) = i + 1 := wrap_id _ (by omega)
      have h3 : i + 1 ≤ l.length := by omega
      have hat := ints_at hlt
      rw [List.drop_eq_getElem_cons hlt, List.any_cons]
      by_cases h1 : l[i] < 0
      · simp [round, Tryz.f28, a28, reg28, loop28, hlt, w2, h3, hat, h1]
      · by_cases h2 : (ws.length : Int) ≤ l[i]
        · simp [round, Tryz.f28, a28, reg28, loop28, hlt, w2, h3, hat, h1, h2]
        · simp [round, Tryz.f28, a28, reg28, loop28, hlt, w2, h3, hat, h1, h2, endRound_M0]
          refine hrec (i + 1) _ _ ?_ ?_ ?_ ?_
          · omega
          · omega
          · simp
          · simp [h1, h2]
    · clear hrec
      rw [List.drop_eq_nil_of_le (by omega)]
      simp [round, Tryz.f28, a28, reg28, loop28, hlt]
set_option maxHeartbeats 1000000 in
theorem ev_SRStR (f : Fun) (ws : List Val) (l : List Int) (fl : Bool) (hl : l.length ≤ 1000000000) (m : Mem) (id : Nat) (hR : m.rw[id]? = some ⟨47, Val.cellsL ws⟩) : evCall C0 28 [.agg (sysX f (.sl id (ws.length * 3) 0 ws.length)), .isl fl l.length (ints l)] m = some (.ret (.bool (!(l.any fun y => decide (y < 0) || decide ((ws.length : Int) ≤ y)))), m) := by
  have hid : id < m.rw.length := (List.getElem?_eq_some_iff.1 hR).1
  have hR2 := (List.getElem?_eq_some_iff.1 hR).2
  rw [evCall_body C0 (C0_ext _ (by decide)) (by rw [C0_P]; exact Tryz.func28) rfl (by rw [C0_ann]; rfl) (by decide) (by simp [Tryz.f28])]
  simp [Tryz.f28, a28, reg28, loop28, hid, hR2]
  refine loop_in (fun i : Nat => ⟨[(2, .ptr m.bx.length 0), (7, .isl fl l.length (ints l)), (8, .int .i64 l.length), (9, .int .i64 i)], ⟨m.bx ++ [sysX f (.sl id (ws.length * 3) 0 ws.length)], m.rw⟩⟩)
    (fun i => some (.ret (.bool (!((l.drop i).any fun y => decide (y < 0) || decide ((ws.length : Int) ≤ y)))), m)) (fun i => l.length - i) (fun i => i ≤ l.length) 0 ?_ ?_ ?_ ?_ ?_
  · simp
  · simp
  · simp
  · intro x; simp [Tryz.f28, a28, reg28, loop28]
  · intro i hi hrec
    by_cases hlt : i < l.length
    · have w2 : IntKind.i64.wrap (i + 1) = i + 1 := wrap_id _ (by omega)
      have h3 : i + 1 ≤ l.length := by omega
      have hat := ints_at hlt
      rw [List.drop_eq_getElem_cons hlt, List.any_cons]
      by_cases h1 : l[i] < 0
      · simp [round, Tryz.f28, a28, reg28, loop28, hlt, w2, h3, hat, h1, hid, hR2]
      · by_cases h2 : (ws.length : Int) ≤ l[i]
        · simp [round, Tryz.f28, a28, reg28, loop28, hlt, w2, h3, hat, h1, h2, hid, hR2]
        · simp [round, Tryz.f28, a28, reg28, loop28, hlt, w2, h3, hat, h1, h2, endRound_M0, hid, hR2]
          refine hrec (i + 1) _ _ ?_ ?_ ?_ ?_
          · omega
          · omega
          · simp
          · simp [h1, h2]
    · clear hrec
      rw [List.drop_eq_nil_of_le (by omega)]
      simp [round, Tryz.f28, a28, reg28, loop28, hlt]
set_option maxHeartbeats 1000000 in
theorem ev_SRSt0 (f : Fun) (l : List Int) (fl : Bool) (hl : l.length ≤ 1000000000) (m : Mem) : evCall C0 28 [.agg (sysX f .nils), .isl fl l.length (ints l)] m = some (.ret (.bool (!(l.any fun y => decide (y < 0) || decide (((0 : Nat) : Int) ≤ y)))), m) := by
  rw [evCall_body C0 (C0_ext _ (by decide)) (by rw [C0_P]; exact Tryz.func28) rfl (by rw [C0_ann]; rfl) (by decide) (by simp [Tryz.f28])]
  simp [Tryz.f28, a28, reg28, loop28]
  refine loop_in (fun i : Nat => ⟨[(2, .ptr m.bx.length 0), (7, .isl fl l.length (ints l)), (8, .int .i64 l.length), (9, .int .i64 i)], ⟨m.bx ++ [sysX f .nils], m.rw⟩⟩)
    (fun i => some (.ret (.bool (!((l.drop i).any fun y => decide (y < 0) || decide (((0 : Nat) : Int) ≤ y)))), m)) (fun i => l.length - i) (fun i => i ≤ l.length) 0 ?_ ?_ ?_ ?_ ?_
  · simp
  · simp
  · simp
  · intro x; simp [Tryz.f28, a28, reg28, loop28]
  · intro i hi hrec
    by_cases hlt : i < l.length
    · have w2 : IntKind.i64.wrap (i + 1) = i + 1 := wrap_id _ (by omega)
      have h3 : i + 1 ≤ l.length := by omega
      have hat := ints_at hlt
      rw [List.drop_eq_getElem_cons hlt, List.any_cons]
      by_cases h1 : l[i] < 0
      · simp [round, Tryz.f28, a28, reg28, loop28, hlt, w2, h3, hat, h1]
      · have h2 : 0 ≤ l[i] := by omega
        simp [round, Tryz.f28, a28, reg28, loop28, hlt, w2, h3, hat, h1, h2]
    · clear hrec
      rw [List.drop_eq_nil_of_le (by omega)]
      simp [round, Tryz.f28, a28, reg28, loop28, hlt]
set_option maxHeartbeats 2000000 in
theorem ev_RHom (f g : Fun) (vs ws : List Val) (h : List Int) (fl : Bool) (hsh : shapedF f = true) (hok : ∀ v ∈ vs, okV exL vs.length v f = true) (hb : Val.nodesL vs ≤ 1000000) (hs : ∀ v ∈ vs, slimV v) (hl : h.length ≤ 1000000000) (m : Mem) :
    evCall C0 13 [.agg (sysX f (.isl false vs.length (Val.cellsL vs))), .agg (sysX g (.isl false ws.length (Val.cellsL ws))), .isl fl h.length (ints h)] m = some (.ret (.bool (homB f vs ws h)), m) := by
  rw [evCall_body C0 (C0_ext _ (by decide)) (by rw [C0_P]; exact Tryz.func13) rfl (by rw [C0_ann]; rfl) (by decide) (by simp [Tryz.f13])]
  unfold homB
  by_cases c1 : h.length = vs.length
  case neg =>
    have d1 : ¬ (h.length : Int) = vs.length := by omega
    simp [Tryz.f13, a13, reg13, loop13, draw13, dok13, c1, d1]
  have d1 : (h.length : Int) = vs.length := by omega
  have hst := ev_SRSt g ws h fl hl
  cases c2 : h.any (fun y => decide (y < 0) || decide ((ws.length : Int) ≤ y))
  case true =>
    simp only [c2, c1] at hst
    simp at hst
    simp [Tryz.f13, a13, reg13, loop13, draw13, dok13, c1, hst]
  have hbd := any_bound c2
  simp only [c2, c1] at hst
  simp at hst
  simp [Tryz.f13, a13, reg13, loop13, draw13, dok13, c1, hst]
  refine loop_in (fun i : Nat => ⟨[(2, .isl fl vs.length (ints h)), (3, .ptr m.bx.length 0), (4, .ptr (m.bx.length + 1) 0), (21, .isl fl vs.length (ints h)), (22, .int .i64 vs.length), (23, .int .i64 i)], ⟨m.bx ++ [sysX f (.isl false vs.length (Val.cellsL vs)), sysX g (.isl false ws.length (Val.cellsL ws))], m.rw⟩⟩)
    (fun i => some (.ret (.bool (homL f h ws (vs.drop i) (h.drop i))), m)) (fun i => vs.length - i) (fun i => i ≤ vs.length) 0 ?_ ?_ ?_ ?_ ?_
  · simp
  · simp
  · simp
  · intro x; simp [Tryz.f13, a13, reg13, loop13, draw13, dok13]
  · intro i hi hrec
    by_cases hlt : i < vs.length
    · have hlt' : i < h.length := by omega
      have w2 : IntKind.i64.wrap (i + 1) = i + 1 := wrap_id _ (by omega)
      have h3 : (i + 1) * 3 ≤ vs.length * 3 := by omega
      have h3' : i + 1 ≤ h.length := by omega
      have hat := ints_at hlt'
      have hmem := List.getElem_mem hlt
      have hnm := Val.nodes_mem hmem
      obtain ⟨y0, y1⟩ := hbd _ (List.getElem_mem hlt')
      rw [homL_drop hlt hlt']
      obtain ⟨k, hk⟩ : ∃ k : Nat, h[i] = k := ⟨h[i].toNat, by omega⟩
      have hkl : k < ws.length := by omega
      have h4 : (k + 1) * 3 ≤ ws.length * 3 := by omega
      have h4' : k * 3 + 3 ≤ ws.length * 3 := by omega
      rw [hk] at hat ⊢
      have he := ev_RMap h fl vs.length (by omega) vs[i].nodes vs[i] (Nat.le_refl _) (by omega) (hs _ hmem) f hsh (hok _ hmem)
      have hmn := map_nodes (toV_sm h) vs[i] f (hs _ hmem) (by omega)
      have hsm := ev_RSameV (mapV (toV h) vs[i] f) ws[k] (by omega) hmn.2
      have hgt : ws.getD (k : Int).toNat zeroV = ws[k] := by simp [hkl]
      rw [hgt]
      rw [c1] at he
      simp at he hsm
      by_cases hc : cmpV (mapV (toV h) vs[i] f) ws[k] = 0
      · simp [round, Tryz.f13, a13, reg13, loop13, draw13, dok13, hlt, hlt', w2, h3, h3', h4, h4', hat, he, hsm, hkl, hc, endRound_M0, endRound_M]
        refine hrec (i + 1) _ _ ?_ ?_ ?_ ?_
        · omega
        · omega
        · simp
        · simp
      · simp [round, Tryz.f13, a13, reg13, loop13, draw13, dok13, hlt, hlt', w2, h3, h3', h4, h4', hat, he, hsm, hkl, hc]
    · clear hrec
      rw [List.drop_eq_nil_of_le (by omega)]
      simp [round, Tryz.f13, a13, reg13, loop13, draw13, dok13, hlt, homL]
set_option maxHeartbeats 2000000 in
theorem ev_RHomR (f g : Fun) (vs ws : List Val) (h : List Int) (fl : Bool) (hsh : shapedF f = true) (hok : ∀ v ∈ vs, okV exL vs.length v f = true) (hb : Val.nodesL vs ≤ 1000000) (hs : ∀ v ∈ vs, slimV v) (hl : h.length ≤ 1000000000) (m : Mem) (id : Nat) (hR : m.rw[id]? = some ⟨47, Val.cellsL ws⟩) :
    evCall C0 13 [.agg (sysX f (.isl false vs.length (Val.cellsL vs))), .agg (sysX g (.sl id (ws.length * 3) 0 ws.length)), .isl fl h.length (ints h)] m = some (.ret (.bool (homB f vs ws h)), m) := by
  have hid : id < m.rw.length := (List.getElem?_eq_some_iff.1 hR).1
  have hR2 := (List.getElem?_eq_some_iff.1 hR).2
  rw [evCall_body C0 (C0_ext _ (by decide)) (by rw [C0_P]; exact Tryz.func13) rfl (by rw [C0_ann]; rfl) (by decide) (by simp [Tryz.f13])]
  unfold homB
  by_cases c1 : h.length = vs.length
  case neg =>
    have d1 : ¬ (h.length : Int) = vs.length := by omega
    simp [Tryz.f13, a13, reg13, loop13, draw13, dok13, c1, d1, hid, hR2]
  have d1 : (h.length : Int) = vs.length := by omega
  have hst := fun bx => ev_SRStR g ws h fl hl ⟨bx, m.rw⟩ id hR
  cases c2 : h.any (fun y => decide (y < 0) || decide ((ws.length : Int) ≤ y))
  case true =>
    simp only [c2, c1] at hst
    simp at hst
    simp [Tryz.f13, a13, reg13, loop13, draw13, dok13, c1, hst, hid, hR2]
  have hbd := any_bound c2
  simp only [c2, c1] at hst
  simp at hst
  simp [Tryz.f13, a13, reg13, loop13, draw13, dok13, c1, hst, hid, hR2]
  refine loop_in (fun i : Nat => ⟨[(2, .isl fl vs.length (ints h)), (3, .ptr m.bx.length 0), (4, .ptr (m.bx.length + 1) 0), (21, .isl fl vs.length (ints h)), (22, .int .i64 vs.length), (23, .int .i64 i)], ⟨m.bx ++ [sysX f (.isl false vs.length (Val.cellsL vs)), sysX g (.sl id (ws.length * 3) 0 ws.length)], m.rw⟩⟩)
    (fun i => some (.ret (.bool (homL f h ws (vs.drop i) (h.drop i))), m)) (fun i => vs.length - i) (fun i => i ≤ vs.length) 0 ?_ ?_ ?_ ?_ ?_
  · simp
  · simp
  · simp
  · intro x; simp [Tryz.f13, a13, reg13, loop13, draw13, dok13]
  · intro i hi hrec
    by_cases hlt : i < vs.length
    · have hlt' : i < h.length := by omega
      have w2 : IntKind.i64.wrap (i + 1) = i + 1 := wrap_id _ (by omega)
      have h3 : (i + 1) * 3 ≤ vs.length * 3 := by omega
      have h3' : i + 1 ≤ h.length := by omega
      have hat := ints_at hlt'
      have hmem := List.getElem_mem hlt
      have hnm := Val.nodes_mem hmem
      obtain ⟨y0, y1⟩ := hbd _ (List.getElem_mem hlt')
      rw [homL_drop hlt hlt']
      obtain ⟨k, hk⟩ : ∃ k : Nat, h[i] = k := ⟨h[i].toNat, by omega⟩
      have hkl : k < ws.length := by omega
      have h4 : (k + 1) * 3 ≤ ws.length * 3 := by omega
      have h4' : k * 3 + 3 ≤ ws.length * 3 := by omega
      rw [hk] at hat ⊢
      have he := ev_RMap h fl vs.length (by omega) vs[i].nodes vs[i] (Nat.le_refl _) (by omega) (hs _ hmem) f hsh (hok _ hmem)
      have hmn := map_nodes (toV_sm h) vs[i] f (hs _ hmem) (by omega)
      have hsm := ev_RSameV (mapV (toV h) vs[i] f) ws[k] (by omega) hmn.2
      have hgt : ws.getD (k : Int).toNat zeroV = ws[k] := by simp [hkl]
      rw [hgt]
      rw [c1] at he
      simp at he hsm
      by_cases hc : cmpV (mapV (toV h) vs[i] f) ws[k] = 0
      · simp [round, Tryz.f13, a13, reg13, loop13, draw13, dok13, hlt, hlt', w2, h3, h3', h4, h4', hat, he, hsm, hkl, hc, endRound_M0, endRound_M, hid, hR2]
        refine hrec (i + 1) _ _ ?_ ?_ ?_ ?_
        · omega
        · omega
        · simp
        · simp
      · simp [round, Tryz.f13, a13, reg13, loop13, draw13, dok13, hlt, hlt', w2, h3, h3', h4, h4', hat, he, hsm, hkl, hc, hid, hR2]
    · clear hrec
      rw [List.drop_eq_nil_of_le (by omega)]
      simp [round, Tryz.f13, a13, reg13, loop13, draw13, dok13, hlt, homL]
theorem ev_RHom0 (f g : Fun) (m : Mem) (fl : Bool) : evCall C0 13 [.agg (sysX f (.isl false 0 [])), .agg (sysX g .nils), .isl fl 0 []] m = some (.ret (.bool true), m) := by
  rw [evCall_body C0 (C0_ext _ (by decide)) (by rw [C0_P]; exact Tryz.func13) rfl (by rw [C0_ann]; rfl) (by decide) (by simp [Tryz.f13])]
  have hst := ev_SRSt0 g [] fl (by simp)
  simp [ints] at hst
  simp [Tryz.f13, a13, reg13, loop13, draw13, dok13, hst]
  rw [evCode_loop]
  simp [round, Tryz.f13, a13, reg13, loop13, draw13, dok13]
theorem ev_Is1 (g : Fun) (ws : List Val) (y : Int) (m : Mem) (id : Nat) (hi : m.bx[id]? = some (sysX g (.isl false ws.length (Val.cellsL ws)))) : evCall C0 37 [.int .i64 y, .ptr id 0] m = some (.ret (.bool (decide (y < 0) || decide ((ws.length : Int) ≤ y))), m) := by
  have hid : id < m.bx.length := (List.getElem?_eq_some_iff.1 hi).1
  have hR2 := (List.getElem?_eq_some_iff.1 hi).2
  rw [evCall_body C0 (C0_ext _ (by decide)) (by rw [C0_P]; exact Tryz.func37) rfl (by rw [C0_ann]; rfl) (by decide) (by simp [Tryz.f37])]
  by_cases h : y < 0
  · simp [Tryz.f37, a37, reg37, h]
  · simp [Tryz.f37, a37, reg37, h, hid, hR2, at_lt]
set_option maxHeartbeats 2000000 in
theorem ev_SIs (f g : Fun) (vs ws : List Val) (h : List Int) (fl : Bool) (hf : f.nodes ≤ 1000000) (hg : g.nodes ≤ 1000000) (hb : Val.nodesL vs ≤ 1000000) (hb2 : Val.nodesL ws ≤ 1000000) (hs : ∀ v ∈ vs, slimV v) (hs2 : ∀ v ∈ ws, slimV v) (hl : h.length ≤ 1000000000) (m : Mem) :
    evCall C0 11 [.agg (sysX f (.isl false vs.length (Val.cellsL vs))), .agg (sysX g (.isl false ws.length (Val.cellsL ws))), .isl fl h.length (ints h)] m = some (.ret (.tup [.bool (decide (bothE f g vs ws = 0) && homB f vs ws h), .int .i64 (bothE f g vs ws)]), m) := by
  rw [evCall_body C0 (C0_ext _ (by decide)) (by rw [C0_P]; exact Tryz.func11) rfl (by rw [C0_ann]; rfl) (by decide) (by simp [Tryz.f11])]
  have hbo := ev_Both f g vs ws hf hg hb hb2 hs hs2
  simp at hbo
  by_cases e0 : bothE f g vs ws = 0
  case neg => simp [Tryz.f11, a11, reg11, loop11, draw11, dok11, hbo, e0]
  have hok : okS f vs = true := by
    unfold bothE at e0
    cases c : okS f vs
    · simp [c] at e0
    · rfl
  obtain ⟨hsh, _, hok2⟩ := okS_spec hok
  unfold homB
  by_cases c1 : h.length = vs.length
  case neg =>
    have d1 : ¬ (h.length : Int) = vs.length := by omega
    simp [Tryz.f11, a11, reg11, loop11, draw11, dok11, hbo, e0, c1, d1]
  have hst := ev_ContainsI (g := 37) (caps := [.ptr (m.bx.length + 1) 0]) (fun y => decide (y < 0) || decide ((ws.length : Int) ≤ y)) h fl hl ⟨m.bx ++ [sysX f (.isl false vs.length (Val.cellsL vs)), sysX g (.isl false ws.length (Val.cellsL ws))], m.rw⟩ (by simp) fun y _ => ev_Is1 g ws y _ _ (by simp)
  cases c2 : h.any (fun y => decide (y < 0) || decide ((ws.length : Int) ≤ y))
  case true =>
    simp only [c2] at hst
    rw [c1] at hst
    simp at hst
    simp [Tryz.f11, a11, reg11, loop11, draw11, dok11, hbo, e0, c1, hst]
  have hbd := any_bound c2
  simp only [c2] at hst
  rw [c1] at hst
  simp at hst
  simp [Tryz.f11, a11, reg11, loop11, draw11, dok11, hbo, e0, c1, hst]
  refine loop_in (fun i : Nat => ⟨[(2, .isl fl vs.length (ints h)), (3, .ptr m.bx.length 0), (4, .ptr (m.bx.length + 1) 0), (29, .isl false vs.length (Val.cellsL vs)), (30, .int .i64 vs.length), (31, .int .i64 i)], ⟨m.bx ++ [sysX f (.isl false vs.length (Val.cellsL vs)), sysX g (.isl false ws.length (Val.cellsL ws))], m.rw⟩⟩)
    (fun i => some (.ret (.tup [.bool (homL f h ws (vs.drop i) (h.drop i)), .int .i64 0]), m)) (fun i => vs.length - i) (fun i => i ≤ vs.length) 0 ?_ ?_ ?_ ?_ ?_
  · simp
  · simp
  · simp
  · intro x; simp [Tryz.f11, a11, reg11, loop11, draw11, dok11]
  · intro i hi hrec
    by_cases hlt : i < vs.length
    · have hlt' : i < h.length := by omega
      have w2 : IntKind.i64.wrap (i + 1) = i + 1 := wrap_id _ (by omega)
      have h3 : (i + 1) * 3 ≤ vs.length * 3 := by omega
      have h3' : i + 1 ≤ h.length := by omega
      have hat := ints_at hlt'
      have hmem := List.getElem_mem hlt
      have hnm := Val.nodes_mem hmem
      obtain ⟨y0, y1⟩ := hbd _ (List.getElem_mem hlt')
      rw [homL_drop hlt hlt']
      obtain ⟨k, hk⟩ : ∃ k : Nat, h[i] = k := ⟨h[i].toNat, by omega⟩
      have hkl : k < ws.length := by omega
      have h4 : (k + 1) * 3 ≤ ws.length * 3 := by omega
      rw [hk] at hat ⊢
      have he := ev_Along h fl vs.length (by omega) f vs[i] hsh (hok2 _ hmem) (by omega) (hs _ hmem)
      have hmn := map_nodes (toV_sm h) vs[i] f (hs _ hmem) (by omega)
      have hsm := ev_vSame (mapV (toV h) vs[i] f) ws[k] (by omega) hmn.2
      have hgt : ws.getD (k : Int).toNat zeroV = ws[k] := by simp [hkl]
      rw [hgt]
      rw [c1] at he
      simp at he hsm
      by_cases hc : cmpV (mapV (toV h) vs[i] f) ws[k] = 0
      · simp [round, Tryz.f11, a11, reg11, loop11, draw11, dok11, hlt, hlt', w2, h3, h3', h4, hat, he, hsm, hkl, hc, endRound_M0, endRound_L]
        refine hrec (i + 1) _ _ ?_ ?_ ?_ ?_
        · omega
        · omega
        · simp
        · simp
      · simp [round, Tryz.f11, a11, reg11, loop11, draw11, dok11, hlt, hlt', w2, h3, h3', h4, hat, he, hsm, hkl, hc]
    · clear hrec
      rw [List.drop_eq_nil_of_le (by omega)]
      simp [round, Tryz.f11, a11, reg11, loop11, draw11, dok11, hlt, homL]
def oc : Option Val → List A
  | none => [.int .i64 0, .nils, .nils]
  | some v => v.cells
def oe : Option Val → List A
  | none => [.int .i64 0, .isl false 0 [], .isl false 0 []]
  | some v => v.cells
def ocL (o : List (Option Val)) : List A := o.flatMap oc
def oeL (o : List (Option Val)) : List A := o.flatMap oe
def boolsL (bs : List Bool) : List A := bs.map .bool
theorem oc_length : ∀ x, (oc x).length = 3
  | none => rfl
  | some v => by rw [oc]; simp
@[simp] theorem ocL_length : ∀ o : List (Option Val), (ocL o).length = o.length * 3
  | [] => rfl
  | x :: r => by rw [show ocL (x :: r) = oc x ++ ocL r from rfl, List.length_append, oc_length, ocL_length r, List.length_cons]; omega
@[simp] theorem oeL_length : ∀ o : List (Option Val), (oeL o).length = o.length * 3
  | [] => rfl
  | none :: r => by rw [show oeL (none :: r) = oe none ++ oeL r from rfl, List.length_append, oeL_length r, List.length_cons]; simp [oe]; omega
  | some v :: r => by rw [show oeL (some v :: r) = oe (some v) ++ oeL r from rfl, List.length_append, oeL_length r, List.length_cons]; simp [oe]; omega
theorem ocL_split {o : List (Option Val)} {k : Nat} (h : k < o.length) : ocL o = ocL (o.take k) ++ (oc o[k] ++ ocL (o.drop (k + 1))) := by
  have e : ocL (o.take k ++ o[k] :: o.drop (k + 1)) = ocL o := by rw [← List.drop_eq_getElem_cons h, List.take_append_drop]
  rw [← e]
  unfold ocL
  rw [List.flatMap_append, List.flatMap_cons]
theorem ocL_at {o : List (Option Val)} {k : Nat} (h : k < o.length) : ((ocL o).drop (k * 3)).take 3 = oc o[k] := by
  rw [ocL_split h]
  have h1 : (ocL (o.take k)).length = k * 3 := by rw [ocL_length, List.length_take]; congr 1; omega
  rw [← h1, List.drop_left]
  have h2 := oc_length o[k]
  rw [← h2, List.take_left]
theorem ocL_set {o : List (Option Val)} {k : Nat} (h : k < o.length) (v : Val) : (ocL o).take (k * 3) ++ .int .i64 v.num :: .isl false v.args.length (Val.cellsL v.args) :: .isl false v.ws.length (ints v.ws) :: (ocL o).drop (k * 3 + 3) = ocL (o.set k (some v)) := by
  have h1 : (ocL (o.take k)).length = k * 3 := by rw [ocL_length, List.length_take]; congr 1; omega
  have e1 : (ocL o).take (k * 3) = ocL (o.take k) := by rw [ocL_split h, ← h1, List.take_left]
  have e2 : (ocL o).drop (k * 3 + 3) = ocL (o.drop (k + 1)) := by
    rw [ocL_split h, ← List.drop_drop, ← h1, List.drop_left, ← oc_length o[k], List.drop_left]
  rw [e1, e2, List.set_eq_take_append_cons_drop, if_pos h]
  simp [ocL, oc]
theorem oc_er (nb nr : Nat) (g) : ∀ x, (oc x).map (er1 nb nr g) = oe x
  | none => by simp [oc, oe]
  | some v => by rw [oc, oe, Val.er_cells]
@[simp] theorem ocL_er (nb nr : Nat) (g) : ∀ o : List (Option Val), (ocL o).map (er1 nb nr g) = oeL o
  | [] => rfl
  | x :: r => by rw [show ocL (x :: r) = oc x ++ ocL r from rfl, List.map_append, oc_er, ocL_er nb nr g r]; rfl
@[simp] theorem ocL_closed (nb nr : Nat) : ∀ o : List (Option Val), (ocL o).all (closed nb nr) = true
  | [] => rfl
  | none :: r => by rw [show ocL (none :: r) = oc none ++ ocL r from rfl, List.all_append, ocL_closed nb nr r]; simp [oc]
  | some v :: r => by rw [show ocL (some v :: r) = oc (some v) ++ ocL r from rfl, List.all_append, ocL_closed nb nr r, oc, Val.closed_cells]; rfl
theorem ocL_none : ∀ n : Nat, (List.replicate n [A.int .i64 0, A.nils, A.nils]).flatten = ocL (List.replicate n none)
  | 0 => rfl
  | n + 1 => by rw [List.replicate_succ, List.flatten_cons, ocL_none n]; rfl
theorem oeL_some : ∀ l : List Val, oeL (l.map some) = Val.cellsL l
  | [] => rfl
  | v :: r => by rw [Val.cellsL, ← oeL_some r]; rfl
@[simp] theorem boolsL_length (bs : List Bool) : (boolsL bs).length = bs.length := by simp [boolsL]
theorem boolsL_at {bs : List Bool} {k : Nat} (h : k < bs.length) : ((boolsL bs).drop k).take 1 = [.bool bs[k]] := by
  unfold boolsL
  rw [← List.map_drop, ← List.map_take, List.drop_eq_getElem_cons h]
  rfl
theorem boolsL_set {bs : List Bool} {k : Nat} (h : k < bs.length) (b : Bool) : (boolsL bs).take k ++ .bool b :: (boolsL bs).drop (k + 1) = boolsL (bs.set k b) := by
  unfold boolsL
  rw [List.map_set, List.set_eq_take_append_cons_drop, if_pos (by simpa using h)]
@[simp] theorem boolsL_closed (nb nr : Nat) : ∀ bs : List Bool, (boolsL bs).all (closed nb nr) = true
  | [] => rfl
  | x :: r => by rw [show boolsL (x :: r) = .bool x :: boolsL r from rfl, List.all_cons, boolsL_closed nb nr r]; rfl
theorem boolsL_none : ∀ n : Nat, (List.replicate n [A.bool false]).flatten = boolsL (List.replicate n false)
  | 0 => rfl
  | n + 1 => by rw [List.replicate_succ, List.flatten_cons, boolsL_none n]; rfl
def zeroS : List A := [.int .i64 0, .int .i64 0, .isl false 0 [], .isl false 0 []]
def sysO (f : Fun) : Option (List Val) → List A
  | some ws => sysX f (.isl false ws.length (Val.cellsL ws))
  | none => zeroS
attribute [simp] qL_length
set_option maxHeartbeats 4000000 in
theorem ev_SAlong (f : Fun) (vs : List Val) (to : List Int) (fl : Bool) (N : Nat) (hN : mostL 0 to = N) (hlen : to.length = vs.length) (hsh : shapedF f = true) (hok : ∀ v ∈ vs, okV exL vs.length v f = true) (hf : f.nodes ≤ 1000000) (hb : Val.nodesL vs ≤ 1000000) (hs : ∀ v ∈ vs, slimV v) (hl : to.length ≤ 1000000000)
    (hbd : ∀ y, y ∈ to → 0 ≤ y ∧ y < 100) (hsur : ∀ k : Nat, k < N → 0 ≤ plc to k) (m : Mem) :
    evCall C0 45 [.agg (sysX f (.isl false vs.length (Val.cellsL vs))), .isl fl to.length (ints to)] m = some (.ret (if homL f to (qL f vs to N) vs to then .tup [.agg (sysO f (some (qL f vs to N))), .bool true] else .tup [.agg (sysO f none), .bool false]), m) := by
  rw [evCall_body C0 (C0_ext _ (by decide)) (by rw [C0_P]; exact Tryz.func45) rfl (by rw [C0_ann]; rfl) (by decide) (by simp [Tryz.f45])]
  have hN1 : N ≤ 100 := by have := mostL_top to 0 100 (by omega) (fun y hy => (hbd y hy).2); omega
  have hyN : ∀ y, y ∈ to → 0 ≤ y ∧ y < (N : Int) := fun y hy => ⟨(hbd y hy).1, by have := (mostL_le to 0).2 y hy; omega⟩
  have hfc := ev_FCopied f.nodes f (Nat.le_refl _) (by omega)
  simp at hfc
  have n1 : (N : Int) * 56 ≤ 70368744177664 := by omega
  have n2 : (N : Int) ≤ 70368744177664 := by omega
  simp [Tryz.f45, a45, reg45, loop45, draw45, dok45]
  refine loop_in (fun x : Nat × Int => ⟨[(1, .isl fl to.length (ints to)), (2, .ptr m.bx.length 0), (4, .ptr (m.bx.length + 1) 0), (6, .int .i64 x.2), (14, .isl fl to.length (ints to)), (15, .int .i64 to.length), (16, .int .i64 x.1)], ⟨m.bx ++ [sysX f (.isl false vs.length (Val.cellsL vs)), [.int .i64 0, .int .i64 0, .nils, .nils]], m.rw⟩⟩)
    (fun x => some (.ret (if homL f to (qL f vs to N) vs to then .tup [.agg (sysO f (some (qL f vs to N))), .bool true] else .tup [.agg (sysO f none), .bool false]), m)) (fun x => to.length - x.1) (fun x => x.1 ≤ to.length ∧ mostL x.2 (to.drop x.1) = N) (0, 0) ?_ ?_ ?_ ?_ ?_
  · simp
  · simp
  · simp [hN]
  · intro x; simp [Tryz.f45, a45, reg45, loop45, draw45, dok45]
  · rintro ⟨i, n⟩ ⟨hi, hn⟩ hrec
    simp only at hi hn
    by_cases hlt : i < to.length
    · have w2 : IntKind.i64.wrap (i + 1) = i + 1 := wrap_id _ (by omega)
      have h3 : i + 1 ≤ to.length := by omega
      have hat := ints_at hlt
      have hy := hbd _ (List.getElem_mem hlt)
      have w3 : IntKind.i64.wrap (to[i] + 1) = to[i] + 1 := wrap_id _ (by omega)
      rw [mostL_drop hlt] at hn
      simp [round, Tryz.f45, a45, reg45, loop45, draw45, dok45, hlt, w2, w3, h3, hat, endRound_M0]
      refine hrec (i + 1, max n (to[i] + 1)) _ _ ?_ ?_ ?_ ?_
      · simp; omega
      · exact ⟨by simp; omega, hn⟩
      · simp
      · simp
    · clear hrec
      rw [List.drop_eq_nil_of_le (by omega)] at hn
      have hn' : n = N := hn
      subst hn'
      simp [round, Tryz.f45, a45, reg45, loop45, draw45, dok45, hlt, hfc, n1, n2, ocL_none, boolsL_none]
      refine loop_in (fun x : Nat × List (Option Val) => ⟨[(1, .isl fl to.length (ints to)), (2, .ptr m.bx.length 0), (4, .ptr (m.bx.length + 1) 0), (9, .ptr (m.bx.length + 2) 0), (10, .sl (m.rw.length + 1) N 0 N), (33, .isl fl to.length (ints to)), (34, .int .i64 to.length), (35, .int .i64 x.1)],
          ⟨m.bx ++ [sysX f (.isl false vs.length (Val.cellsL vs)), [.int .i64 0, .int .i64 0, .nils, .nils], sysX f (.sl (m.rw.length + 0) (N * 3) 0 N)], m.rw ++ [⟨47, ocL x.2⟩, ⟨4, boolsL (x.2.map Option.isSome)⟩]⟩⟩)
        (fun x => match alongP (mpL f to (vs.drop x.1) (to.drop x.1)) x.2 with | some o' => some (.ret (.tup [.agg (sysX f (.isl false N (oeL o'))), .bool true]), m) | none => some (.ret (.tup [.agg zeroS, .bool false]), m))
        (fun x => to.length - x.1) (fun x => x.1 ≤ to.length ∧ x.2.length = N) (0, List.replicate N none) ?_ ?_ ?_ ?_ ?_
      · simp [boolsL]
      · simp only [List.drop_zero]
        rw [quot_law hlen.symm (fun y hy => hyN y hy) hsur]
        cases hh : homL f to (qL f vs to N) vs to
        · rfl
        · simp [sysO, oeL_some]
      · simp
      · intro x; simp [Tryz.f45, a45, reg45, loop45, draw45, dok45]
      · rintro ⟨i, o⟩ ⟨hi, ho⟩ hrec
        simp only at hi ho
        by_cases hlt : i < to.length
        · have hlt' : i < vs.length := by omega
          have w2 : IntKind.i64.wrap (i + 1) = i + 1 := wrap_id _ (by omega)
          have h3 : i + 1 ≤ to.length := by omega
          have h3' : (i + 1) * 3 ≤ vs.length * 3 := by omega
          have hat := ints_at hlt
          have hy := hyN _ (List.getElem_mem hlt)
          have hmem := List.getElem_mem hlt'
          have hnm := Val.nodes_mem hmem
          rw [mpL_drop hlt' hlt, alongP]
          obtain ⟨k, hk⟩ : ∃ k : Nat, to[i] = k := ⟨to[i].toNat, by omega⟩
          have hkl : k < N := by omega
          have hko : k < o.length := by omega
          have hko' : k < (o.map Option.isSome).length := by simpa using hko
          rw [hk] at hat ⊢
          have he := ev_Along to fl vs.length (by omega) f vs[i] hsh (hok _ hmem) (by omega) (hs _ hmem)
          have hmn := map_nodes (toV_sm to) vs[i] f (hs _ hmem) (by omega)
          simp at he
          have b1 := boolsL_at hko'
          have b2 := ocL_at hko
          have b3 := ocL_set hko (mapV (toV to) vs[i] f)
          have b4 := boolsL_set hko' true
          have b5 : k * 3 + 3 ≤ N * 3 := by omega
          have b6 : k + 1 ≤ N := by omega
          simp only [Int.toNat_natCast]
          have hgd : o.getD k none = o[k] := by simp [List.getD_eq_getElem?_getD, hko]
          rw [hgd]
          cases hok1 : o[k] with
          | none =>
            simp [hok1, oc] at b1 b2
            simp [round, Tryz.f45, a45, reg45, loop45, draw45, dok45, hlt, hlt', w2, h3, h3', hat, he, hkl, hko, ho, b1, b2, b3, b4, b5, b6, fitsO, endRound_R]
            refine hrec (i + 1, o.set k (some (mapV (toV to) vs[i] f))) _ _ ?_ ?_ ?_ ?_
            · simp; omega
            · simp; omega
            · simp [List.map_set]
            · simp
          | some u =>
            have hsm := ev_vSame (mapV (toV to) vs[i] f) u (by omega) hmn.2
            simp [hok1, oc] at b1 b2
            simp at hsm
            by_cases hc : cmpV (mapV (toV to) vs[i] f) u = 0
            · simp [round, Tryz.f45, a45, reg45, loop45, draw45, dok45, hlt, hlt', w2, h3, h3', hat, he, hkl, hko, ho, b1, b2, b3, b4, b5, b6, fitsO, hsm, hc, endRound_R]
              refine hrec (i + 1, o.set k (some (mapV (toV to) vs[i] f))) _ _ ?_ ?_ ?_ ?_
              · simp; omega
              · simp; omega
              · simp [List.map_set]
              · simp
            · simp [round, Tryz.f45, a45, reg45, loop45, draw45, dok45, hlt, hlt', w2, h3, h3', hat, he, hkl, hko, ho, b1, b2, b3, b4, b5, b6, fitsO, hsm, hc, zeroS]
        · clear hrec
          rw [List.drop_eq_nil_of_le (by omega), List.drop_eq_nil_of_le (by omega)]
          simp [round, Tryz.f45, a45, reg45, loop45, draw45, dok45, hlt, mpL, pairsL, alongP, ho]
          try rw [List.take_of_length_le (by simp [ho])]
def badQ (y : Int) : Bool := decide (y < 0) || decide (100 ≤ y)
def surB (to : List Int) (N : Nat) : Bool := (List.range N).all fun k => to.any fun x => decide (x = (k : Int))
def pQuo (f : Fun) (vs : List Val) (to : List Int) : Option (List Val) × Int :=
  if to.length = vs.length ∧ to.any badQ = false ∧ surB to (mostL 0 to).toNat = true then
    (if homL f to (qL f vs to (mostL 0 to).toNat) vs to then (some (qL f vs to (mostL 0 to).toNat), 0) else (none, 4))
  else (none, 1)
theorem surB_iff {to : List Int} {N : Nat} : surB to N = true ↔ ∀ k : Nat, k < N → 0 ≤ plc to k := by
  unfold surB
  rw [List.all_eq_true]
  constructor
  · intro h k hk
    have := h k (List.mem_range.2 hk)
    rw [← plc_any] at this
    exact of_decide_eq_true this
  · intro h k hk
    rw [← plc_any]
    exact decide_eq_true (h k (List.mem_range.1 hk))
theorem surB_false {to : List Int} {N : Nat} (h : surB to N = false) : ∃ k : Nat, k < N ∧ plc to k < 0 := by
  by_cases hh : ∀ k : Nat, k < N → 0 ≤ plc to k
  · rw [surB_iff.2 hh] at h; cases h
  · simp only [Classical.not_forall] at hh
    obtain ⟨k, hk, h1⟩ := hh
    exact ⟨k, hk, by omega⟩
theorem badQ_false {to : List Int} (h : to.any badQ = false) : ∀ y, y ∈ to → 0 ≤ y ∧ y < 100 := fun y hy => by
  rw [List.any_eq_false] at h
  have := h y hy
  unfold badQ at this
  simp only [Bool.or_eq_true, decide_eq_true_eq] at this
  omega
theorem most_nat (to : List Int) : ∃ N : Nat, mostL 0 to = N := ⟨(mostL 0 to).toNat, by have := (mostL_le to 0).1; omega⟩
set_option maxHeartbeats 4000000 in
theorem ev_SQuotient (f : Fun) (vs : List Val) (to : List Int) (fl : Bool) (hf : f.nodes ≤ 1000000) (hb : Val.nodesL vs ≤ 1000000) (hs : ∀ v ∈ vs, slimV v) (hl : to.length ≤ 1000000000) (m : Mem) :
    evCall C0 14 [.agg (sysX f (.isl false vs.length (Val.cellsL vs))), .isl fl to.length (ints to)] m = some (.ret (.tup [.agg (if okS f vs then sysO f (pQuo f vs to).1 else zeroS), .int .i64 (if okS f vs then (pQuo f vs to).2 else 30)]), m) := by
  rw [evCall_body C0 (C0_ext _ (by decide)) (by rw [C0_P]; exact Tryz.func14) rfl (by rw [C0_ann]; rfl) (by decide) (by simp [Tryz.f14])]
  have hv := ev_SValid f vs hf hb hs
  simp at hv
  cases hc : okS f vs
  · simp [Tryz.f14, a14, reg14, loop14, hv, hc, zeroS]
  obtain ⟨hsh, h100, hok⟩ := okS_spec hc
  by_cases c1 : to.length = vs.length
  case neg =>
    have d1 : ¬ (to.length : Int) = vs.length := by omega
    have hp : pQuo f vs to = (none, 1) := if_neg fun h => c1 h.1
    simp [Tryz.f14, a14, reg14, loop14, hv, hc, d1, hp, sysO, zeroS]
  have d1 : (to.length : Int) = vs.length := by omega
  cases c2 : to.any badQ
  case true =>
    have hp : pQuo f vs to = (none, 1) := if_neg fun h => by rw [c2] at h; exact absurd h.2.1 (by decide)
    simp [Tryz.f14, a14, reg14, loop14, hv, hc, eq_true d1, hp, sysO, zeroS]
    refine loop_in (fun x : Nat × Int => ⟨[(1, .isl fl to.length (ints to)), (2, .ptr m.bx.length 0), (4, .ptr (m.bx.length + 1) 0), (6, .int .i64 x.2), (23, .isl fl to.length (ints to)), (24, .int .i64 to.length), (25, .int .i64 x.1)], ⟨m.bx ++ [sysX f (.isl false vs.length (Val.cellsL vs)), [.int .i64 0, .int .i64 0, .nils, .nils]], m.rw⟩⟩)
      (fun x => some (.ret (.tup [.agg zeroS, .int .i64 1]), m)) (fun x => to.length - x.1) (fun x => x.1 ≤ to.length ∧ (to.drop x.1).any badQ = true) (0, 0) ?_ ?_ ?_ ?_ ?_
    · simp
    · simp [zeroS]
    · exact ⟨by simp, c2⟩
    · intro x; simp [Tryz.f14, a14, reg14, loop14]
    · rintro ⟨i, n⟩ ⟨hi, hn⟩ hrec
      simp only at hi hn
      by_cases hlt : i < to.length
      · have w2 : IntKind.i64.wrap (i + 1) = i + 1 := wrap_id _ (by omega)
        have h3 : i + 1 ≤ to.length := by omega
        have hat := ints_at hlt
        rw [List.drop_eq_getElem_cons hlt, List.any_cons] at hn
        by_cases h1 : to[i] < 0
        · simp [round, Tryz.f14, a14, reg14, loop14, hlt, w2, h3, hat, h1, zeroS]
        · by_cases h2 : 100 ≤ to[i]
          · simp [round, Tryz.f14, a14, reg14, loop14, hlt, w2, h3, hat, h1, h2, zeroS]
          · have w3 : IntKind.i64.wrap (to[i] + 1) = to[i] + 1 := wrap_id _ (by omega)
            have hb0 : badQ to[i] = false := by unfold badQ; simp [h1, h2]
            rw [hb0, Bool.false_or] at hn
            simp [round, Tryz.f14, a14, reg14, loop14, hlt, w2, w3, h3, hat, h1, h2, endRound_M0]
            refine hrec (i + 1, max n (to[i] + 1)) _ _ ?_ ?_ ?_ ?_
            · simp; omega
            · exact ⟨by simp; omega, hn⟩
            · simp
            · simp
      · rw [List.drop_eq_nil_of_le (by omega)] at hn
        cases hn
  have hbd := badQ_false c2
  obtain ⟨N, hN⟩ := most_nat to
  have hN1 : N ≤ 100 := by have := mostL_top to 0 100 (by omega) (fun y hy => (hbd y hy).2); omega
  simp [Tryz.f14, a14, reg14, loop14, hv, hc, eq_true d1]
  refine loop_in (fun x : Nat × Int => ⟨[(1, .isl fl to.length (ints to)), (2, .ptr m.bx.length 0), (4, .ptr (m.bx.length + 1) 0), (6, .int .i64 x.2), (23, .isl fl to.length (ints to)), (24, .int .i64 to.length), (25, .int .i64 x.1)], ⟨m.bx ++ [sysX f (.isl false vs.length (Val.cellsL vs)), [.int .i64 0, .int .i64 0, .nils, .nils]], m.rw⟩⟩)
    (fun x => some (.ret (.tup [.agg (sysO f (pQuo f vs to).1), .int .i64 (pQuo f vs to).2]), m)) (fun x => to.length - x.1) (fun x => x.1 ≤ to.length ∧ mostL x.2 (to.drop x.1) = N) (0, 0) ?_ ?_ ?_ ?_ ?_
  · simp
  · simp
  · exact ⟨by simp, hN⟩
  · intro x; simp [Tryz.f14, a14, reg14, loop14]
  · rintro ⟨i, n⟩ ⟨hi, hn⟩ hrec
    simp only at hi hn
    by_cases hlt : i < to.length
    · have w2 : IntKind.i64.wrap (i + 1) = i + 1 := wrap_id _ (by omega)
      have h3 : i + 1 ≤ to.length := by omega
      have hat := ints_at hlt
      have hy := hbd _ (List.getElem_mem hlt)
      have h1 : ¬ to[i] < 0 := by omega
      have h2 : ¬ 100 ≤ to[i] := by omega
      have w3 : IntKind.i64.wrap (to[i] + 1) = to[i] + 1 := wrap_id _ (by omega)
      rw [mostL_drop hlt] at hn
      simp [round, Tryz.f14, a14, reg14, loop14, hlt, w2, w3, h3, hat, h1, h2, endRound_M0]
      refine hrec (i + 1, max n (to[i] + 1)) _ _ ?_ ?_ ?_ ?_
      · simp; omega
      · exact ⟨by simp; omega, hn⟩
      · simp
      · simp
    · clear hrec
      rw [List.drop_eq_nil_of_le (by omega)] at hn
      have hn' : n = N := hn
      subst hn'
      simp [round, Tryz.f14, a14, reg14, loop14, hlt]
      cases c3 : surB to N
      · have hp : pQuo f vs to = (none, 1) := if_neg fun h => by rw [hN] at h; simp [c3] at h
        rw [hp]
        obtain ⟨j, hj, hpj⟩ := surB_false c3
        refine loop_in (fun x : Nat => ⟨[(1, .isl fl to.length (ints to)), (2, .ptr m.bx.length 0), (4, .ptr (m.bx.length + 1) 0), (41, .int .i64 N), (42, .int .i64 x)], ⟨m.bx ++ [sysX f (.isl false vs.length (Val.cellsL vs)), [.int .i64 0, .int .i64 0, .nils, .nils]], m.rw⟩⟩)
          (fun x => some (.ret (.tup [.agg (sysO f none), .int .i64 1]), m)) (fun x => N - x) (fun x => x ≤ j) 0 ?_ ?_ ?_ ?_ ?_
        · simp
        · simp
        · simp
        · intro x; simp [Tryz.f14, a14, reg14, loop14]
        · intro k hk hrec
          have hkN : k < N := by omega
          have w2 : IntKind.i64.wrap (k + 1) = k + 1 := wrap_id _ (by omega)
          have hct := ev_SlContains to k fl hl
          rw [← plc_any] at hct
          by_cases hp1 : 0 ≤ plc to k
          · have hkj : k ≠ j := by rintro rfl; omega
            simp [hp1] at hct
            simp [round, Tryz.f14, a14, reg14, loop14, hkN, w2, hct, endRound_M0]
            refine hrec (k + 1) _ _ ?_ ?_ ?_ ?_
            · omega
            · omega
            · simp
            · simp
          · simp [hp1] at hct
            simp [round, Tryz.f14, a14, reg14, loop14, hkN, w2, hct, sysO, zeroS]
      · have hsur := surB_iff.1 c3
        have hp : pQuo f vs to = if homL f to (qL f vs to N) vs to then (some (qL f vs to N), 0) else (none, 4) := by
          unfold pQuo
          rw [hN, Int.toNat_natCast, if_pos ⟨c1, c2, c3⟩]
        rw [hp]
        have hal := ev_SAlong f vs to fl N hN c1 hsh hok hf hb hs hl hbd hsur
        simp at hal
        refine loop_in (fun x : Nat => ⟨[(1, .isl fl to.length (ints to)), (2, .ptr m.bx.length 0), (4, .ptr (m.bx.length + 1) 0), (41, .int .i64 N), (42, .int .i64 x)], ⟨m.bx ++ [sysX f (.isl false vs.length (Val.cellsL vs)), [.int .i64 0, .int .i64 0, .nils, .nils]], m.rw⟩⟩)
          (fun x => some (.ret (.tup [.agg (sysO f (if homL f to (qL f vs to N) vs to then (some (qL f vs to N), (0 : Int)) else (none, 4)).1), .int .i64 (if homL f to (qL f vs to N) vs to then (some (qL f vs to N), (0 : Int)) else (none, 4)).2]), m)) (fun x => N - x) (fun x => x ≤ N) 0 ?_ ?_ ?_ ?_ ?_
        · simp
        · simp
        · simp
        · intro x; simp [Tryz.f14, a14, reg14, loop14]
        · intro k hk hrec
          by_cases hkN : k < N
          · have w2 : IntKind.i64.wrap (k + 1) = k + 1 := wrap_id _ (by omega)
            have hct := ev_SlContains to k fl hl
            rw [← plc_any] at hct
            have hp1 := hsur k hkN
            simp [hp1] at hct
            simp [round, Tryz.f14, a14, reg14, loop14, hkN, w2, hct, endRound_M0]
            refine hrec (k + 1) _ _ ?_ ?_ ?_ ?_
            · omega
            · omega
            · simp
            · simp
          · clear hrec
            have hkN' : k = N := by omega
            subst hkN'
            cases hh : homL f to (qL f vs to k) vs to
            · simp [hh] at hal
              simp [round, Tryz.f14, a14, reg14, loop14, hal, sysO, zeroS]
            · simp [hh] at hal
              simp [round, Tryz.f14, a14, reg14, loop14, hal, sysO]
theorem qL_sub {f : Fun} {vs : List Val} {to : List Int} {N : Nat} (hb : Val.nodesL vs ≤ 1000000) (hs : ∀ v ∈ vs, slimV v) (hlen : to.length = vs.length) (hsur : ∀ k : Nat, k < N → 0 ≤ plc to k) : ∀ u ∈ qL f vs to N, u.nodes ≤ Val.nodesL vs ∧ slimV u := fun u hu => by
  unfold qL at hu
  obtain ⟨k, hk, rfl⟩ := List.mem_map.1 hu
  have h0 := hsur k (List.mem_range.1 hk)
  have hlt := plc_lt h0
  have hm := List.getElem_mem (show (plc to k).toNat < vs.length by omega)
  have hg : vs.getD (plc to k).toNat zeroV = vs[(plc to k).toNat]'(by omega) := by
    rw [List.getD_eq_getElem?_getD, List.getElem?_eq_getElem (by omega)]; rfl
  rw [hg]
  have hn := Val.nodes_mem hm
  have := map_nodes (toV_sm to) (vs[(plc to k).toNat]'(by omega)) f (hs _ hm) (by omega)
  exact ⟨by omega, this.2⟩
set_option maxHeartbeats 4000000 in
theorem ev_RQuotient (f : Fun) (vs : List Val) (to : List Int) (fl : Bool) (hc : okS f vs = true) (hf : f.nodes ≤ 1000000) (hb : Val.nodesL vs ≤ 1000000) (hs : ∀ v ∈ vs, slimV v) (hl : to.length ≤ 1000000000) (m : Mem) :
    evCall C0 15 [.agg (sysX f (.isl false vs.length (Val.cellsL vs))), .isl fl to.length (ints to)] m = some (.ret (.tup [.agg (sysO f (pQuo f vs to).1), .int .i64 (pQuo f vs to).2]), m) := by
  rw [evCall_body C0 (C0_ext _ (by decide)) (by rw [C0_P]; exact Tryz.func15) rfl (by rw [C0_ann]; rfl) (by decide) (by simp [Tryz.f15])]
  obtain ⟨hsh, h100, hok⟩ := okS_spec hc
  cases c2 : to.any badQ
  case true =>
    have hp : pQuo f vs to = (none, 1) := if_neg fun h => by rw [c2] at h; exact absurd h.2.1 (by decide)
    simp [Tryz.f15, a15, reg15, loop15, draw15, dok15, hp, sysO, zeroS]
    refine loop_in (fun x : Nat × Int => ⟨[(1, .isl fl to.length (ints to)), (2, .ptr m.bx.length 0), (4, .ptr (m.bx.length + 1) 0), (6, .int .i64 x.2), (12, .isl fl to.length (ints to)), (13, .int .i64 to.length), (14, .int .i64 x.1)], ⟨m.bx ++ [sysX f (.isl false vs.length (Val.cellsL vs)), [.int .i64 0, .int .i64 0, .nils, .nils]], m.rw⟩⟩)
      (fun x => some (.ret (.tup [.agg zeroS, .int .i64 1]), m)) (fun x => to.length - x.1) (fun x => x.1 ≤ to.length ∧ (to.drop x.1).any badQ = true) (0, 0) ?_ ?_ ?_ ?_ ?_
    · simp
    · simp [zeroS]
    · exact ⟨by simp, c2⟩
    · intro x; simp [Tryz.f15, a15, reg15, loop15, draw15, dok15]
    · rintro ⟨i, n⟩ ⟨hi, hn⟩ hrec
      simp only at hi hn
      by_cases hlt : i < to.length
      · have w2 : IntKind.i64.wrap (i + 1) = i + 1 := wrap_id _ (by omega)
        have h3 : i + 1 ≤ to.length := by omega
        have hat := ints_at hlt
        rw [List.drop_eq_getElem_cons hlt, List.any_cons] at hn
        by_cases h1 : to[i] < 0
        · simp [round, Tryz.f15, a15, reg15, loop15, draw15, dok15, hlt, w2, h3, hat, h1, zeroS]
        · by_cases h2 : 100 ≤ to[i]
          · simp [round, Tryz.f15, a15, reg15, loop15, draw15, dok15, hlt, w2, h3, hat, h1, h2, zeroS]
          · have w3 : IntKind.i64.wrap (to[i] + 1) = to[i] + 1 := wrap_id _ (by omega)
            have hb0 : badQ to[i] = false := by unfold badQ; simp [h1, h2]
            rw [hb0, Bool.false_or] at hn
            simp [round, Tryz.f15, a15, reg15, loop15, draw15, dok15, hlt, w2, w3, h3, hat, h1, h2, endRound_M0]
            refine hrec (i + 1, max n (to[i] + 1)) _ _ ?_ ?_ ?_ ?_
            · simp; omega
            · exact ⟨by simp; omega, hn⟩
            · simp
            · simp
      · rw [List.drop_eq_nil_of_le (by omega)] at hn
        cases hn
  have hbd := badQ_false c2
  obtain ⟨N, hN⟩ := most_nat to
  have hN1 : N ≤ 100 := by have := mostL_top to 0 100 (by omega) (fun y hy => (hbd y hy).2); omega
  simp [Tryz.f15, a15, reg15, loop15, draw15, dok15]
  refine loop_in (fun x : Nat × Int => ⟨[(1, .isl fl to.length (ints to)), (2, .ptr m.bx.length 0), (4, .ptr (m.bx.length + 1) 0), (6, .int .i64 x.2), (12, .isl fl to.length (ints to)), (13, .int .i64 to.length), (14, .int .i64 x.1)], ⟨m.bx ++ [sysX f (.isl false vs.length (Val.cellsL vs)), [.int .i64 0, .int .i64 0, .nils, .nils]], m.rw⟩⟩)
    (fun x => some (.ret (.tup [.agg (sysO f (pQuo f vs to).1), .int .i64 (pQuo f vs to).2]), m)) (fun x => to.length - x.1) (fun x => x.1 ≤ to.length ∧ mostL x.2 (to.drop x.1) = N) (0, 0) ?_ ?_ ?_ ?_ ?_
  · simp
  · simp
  · exact ⟨by simp, hN⟩
  · intro x; simp [Tryz.f15, a15, reg15, loop15, draw15, dok15]
  · rintro ⟨i, n⟩ ⟨hi, hn⟩ hrec
    simp only at hi hn
    by_cases hlt : i < to.length
    · have w2 : IntKind.i64.wrap (i + 1) = i + 1 := wrap_id _ (by omega)
      have h3 : i + 1 ≤ to.length := by omega
      have hat := ints_at hlt
      have hy := hbd _ (List.getElem_mem hlt)
      have h1 : ¬ to[i] < 0 := by omega
      have h2 : ¬ 100 ≤ to[i] := by omega
      have w3 : IntKind.i64.wrap (to[i] + 1) = to[i] + 1 := wrap_id _ (by omega)
      rw [mostL_drop hlt] at hn
      simp [round, Tryz.f15, a15, reg15, loop15, draw15, dok15, hlt, w2, w3, h3, hat, h1, h2, endRound_M0]
      refine hrec (i + 1, max n (to[i] + 1)) _ _ ?_ ?_ ?_ ?_
      · simp; omega
      · exact ⟨by simp; omega, hn⟩
      · simp
      · simp
    · clear hrec
      rw [List.drop_eq_nil_of_le (by omega)] at hn
      have hn' : n = N := hn
      subst hn'
      simp [round, Tryz.f15, a15, reg15, loop15, draw15, dok15, hlt]
      by_cases hN0 : N = 0
      · -- nothing is asked for
        subst hN0
        have hto : to = [] := by
          cases to with
          | nil => rfl
          | cons a r =>
            have h5 := hbd a List.mem_cons_self
            have h6 := (mostL_le (a :: r) 0).2 a List.mem_cons_self
            omega
        rw [evCode_loop]
        by_cases c1 : to.length = vs.length
        · have hv0 : vs = [] := List.eq_nil_of_length_eq_zero (by rw [← c1, hto]; rfl)
          subst hv0 hto
          have hh := fun m => ev_RHom0 f f m fl
          simp at hh
          have hp : pQuo f [] [] = (some [], 0) := by
            unfold pQuo
            have hh0 : homL f [] (qL f [] [] (mostL 0 []).toNat) [] [] = true := rfl
            rw [if_pos ⟨rfl, rfl, rfl⟩, if_pos hh0]
            rfl
          simp [round, Tryz.f15, a15, reg15, loop15, draw15, dok15, ints, hh, hp, sysO]
        · have d1 : ¬ (to.length : Int) = vs.length := by omega
          have hp : pQuo f vs to = (none, 1) := if_neg fun h => c1 h.1
          subst hto
          have d2 : ¬ vs.length = 0 := fun h => c1 (by simpa using h.symm)
          have d3 : ¬ (0 : Int) = vs.length := by omega
          simp [round, Tryz.f15, a15, reg15, loop15, draw15, dok15, ints, d2, d3, hp, sysO, zeroS]
      have hidx := fun k : Nat => ev_RIndex to k fl hl
      by_cases c1 : to.length = vs.length
      case neg =>
        have d1 : ¬ (to.length : Int) = vs.length := by omega
        have hp : pQuo f vs to = (none, 1) := if_neg fun h => c1 h.1
        have h00 : ∀ m, evCall C0 46 [.isl fl to.length (ints to), .int .i64 0] m = some (.ret (.int .i64 (plc to 0)), m) := fun m => hidx 0 m
        rw [evCode_loop]
        by_cases hp0 : plc to 0 < 0
        · simp [round, Tryz.f15, a15, reg15, loop15, draw15, dok15, show 0 < N by omega, h00, hp0, hp, sysO, zeroS]
        · simp [round, Tryz.f15, a15, reg15, loop15, draw15, dok15, show 0 < N by omega, h00, hp0, d1, hp, sysO, zeroS]
      have d1 : (to.length : Int) = vs.length := by omega
      have hidx' : ∀ (k : Nat) (m : Mem), evCall C0 46 [.isl fl vs.length (ints to), .int .i64 k] m = some (.ret (.int .i64 (plc to k)), m) := fun k m => by
        have := hidx k m
        rw [c1] at this
        exact this
      have hmap : ∀ (j : Nat) (hj : j < vs.length), ∀ m, evCall C0 42 [.agg f.cells, .agg (vs[j]).cells, .isl fl vs.length (ints to)] m = some (.ret (.agg (mapV (toV to) vs[j] f).cells), m) := fun j hj m => by
        have hm := List.getElem_mem hj
        have hn := Val.nodes_mem hm
        rw [← c1]
        exact ev_RMap to fl vs.length (by omega) vs[j].nodes vs[j] (Nat.le_refl _) (by omega) (hs _ hm) f hsh (hok _ hm) m
      have hgd : ∀ (j : Nat) (hj : j < vs.length), vs.getD j zeroV = vs[j] := fun j hj => by
        rw [List.getD_eq_getElem?_getD, List.getElem?_eq_getElem hj]; rfl
      have hplt : ∀ k : Nat, 0 ≤ plc to k → (plc to k).toNat < vs.length := fun k hk => by have := plc_lt hk; omega
      rw [evCode_loop]
      rw [c1]
      have i0 := hidx' 0
      by_cases hp0 : plc to (0 : Nat) < 0
      · have hp : pQuo f vs to = (none, 1) := if_neg fun h => by
          have := surB_iff.1 h.2.2 0 (by rw [hN]; simp; omega)
          omega
        simp at i0 hp0
        simp [round, Tryz.f15, a15, reg15, loop15, draw15, dok15, show 0 < N by omega, i0, hp0, hp, sysO, zeroS]
      have hp0' : 0 ≤ plc to (0 : Nat) := by omega
      obtain ⟨j0, hj0⟩ : ∃ j : Nat, plc to (0 : Nat) = j := ⟨(plc to (0 : Nat)).toNat, by omega⟩
      have hj1 : j0 < vs.length := by have := hplt 0 hp0'; omega
      have e0 := hmap j0 hj1
      have hj3 : (j0 + 1) * 3 ≤ vs.length * 3 := by omega
      have hjn : ¬ (j0 : Int) < 0 := by omega
      have hq1 : qL f vs to 1 = [mapV (toV to) vs[j0] f] := by
        rw [qL_succ, hj0, Int.toNat_natCast, hgd j0 hj1]
        rfl
      rw [hj0] at i0
      simp at i0 e0
      simp [round, Tryz.f15, a15, reg15, loop15, draw15, dok15, show 0 < N by omega, i0, e0, hj1, hj3, hjn, c1, d1, endRound_R0]
      refine loop_in (fun k : Nat => ⟨[(1, .isl fl vs.length (ints to)), (2, .ptr m.bx.length 0), (4, .ptr (m.bx.length + 1) 0), (9, .ptr (m.bx.length + 2) 0), (33, .int .i64 N), (34, .int .i64 k)],
          ⟨m.bx ++ [sysX f (.isl false vs.length (Val.cellsL vs)), [.int .i64 0, .int .i64 0, .nils, .nils], sysX f (.sl (m.rw.length + 0) (k * 3) 0 k)], m.rw ++ [⟨47, Val.cellsL (qL f vs to k)⟩]⟩⟩)
        (fun k => some (.ret (.tup [.agg (sysO f (pQuo f vs to).1), .int .i64 (pQuo f vs to).2]), m)) (fun k => N - k) (fun k => 0 < k ∧ k ≤ N ∧ ∀ j : Nat, j < k → 0 ≤ plc to j) 1 ?_ ?_ ?_ ?_ ?_
      · simp [hq1, Val.cellsL]
      · simp
      · refine ⟨by omega, by omega, fun j hj => ?_⟩
        have hj0' : j = 0 := by omega
        rw [hj0']
        exact hp0'
      · intro x; simp [Tryz.f15, a15, reg15, loop15, draw15, dok15]
      · rintro k ⟨hk0, hk, hks⟩ hrec
        by_cases hkN : k < N
        · have w2 : IntKind.i64.wrap (k + 1) = k + 1 := wrap_id _ (by omega)
          have ik := hidx' k
          by_cases hpk : plc to k < 0
          · have hp : pQuo f vs to = (none, 1) := if_neg fun h => by
              have := surB_iff.1 h.2.2 k (by rw [hN]; simp; omega)
              omega
            simp [round, Tryz.f15, a15, reg15, loop15, draw15, dok15, hkN, ik, hpk, hp, sysO, zeroS]
          have hpk' : 0 ≤ plc to k := by omega
          obtain ⟨j, hj⟩ : ∃ j : Nat, plc to k = j := ⟨(plc to k).toNat, by omega⟩
          have hj1 : j < vs.length := by have := hplt k hpk'; omega
          have e0 := hmap j hj1
          have hj3 : (j + 1) * 3 ≤ vs.length * 3 := by omega
          have hjn : ¬ (j : Int) < 0 := by omega
          have hq1 : qL f vs to (k + 1) = qL f vs to k ++ [mapV (toV to) vs[j] f] := by rw [qL_succ, hj, Int.toNat_natCast, hgd j hj1]
          rw [hj] at ik
          have h4 : (k + 1) * 56 ≤ 70368744177664 := by omega
          have h5 : k + 1 ≤ 70368744177664 := by omega
          simp at e0
          simp [round, Tryz.f15, a15, reg15, loop15, draw15, dok15, hkN, w2, ik, e0, hj1, hj3, hjn, h4, h5, endRound_R]
          refine hrec (k + 1) _ _ ?_ ?_ ?_ ?_
          · omega
          · refine ⟨by omega, by omega, fun j' hj' => ?_⟩
            by_cases h : j' < k
            · exact hks j' h
            · obtain rfl : j' = k := by omega
              exact hpk'
          · simp [hq1, Val.cellsL_append, Val.cellsL]
          · simp
        · clear hrec
          have hkk : k = N := by omega
          subst hkk
          have hp : pQuo f vs to = if homL f to (qL f vs to k) vs to then (some (qL f vs to k), 0) else (none, 4) := by
            unfold pQuo
            rw [hN, Int.toNat_natCast, if_pos ⟨c1, c2, surB_iff.2 hks⟩]
          have hh := fun bx => ev_RHomR f f vs (qL f vs to k) to fl hsh hok hb hs hl ⟨bx, m.rw ++ [⟨47, Val.cellsL (qL f vs to k)⟩]⟩ m.rw.length (by simp)
          have hb2 : homB f vs (qL f vs to k) to = homL f to (qL f vs to k) vs to := by
            unfold homB
            have h8 : (to.any fun y => decide (y < 0) || decide (((qL f vs to k).length : Int) ≤ y)) = false := by
              rw [List.any_eq_false]
              intro y hy
              have h6 := hbd y hy
              have h7 := (mostL_le to 0).2 y hy
              rw [qL_length]
              simp
              omega
            rw [h8, c1]
            simp
          rw [hb2, qL_length, c1] at hh
          cases hhh : homL f to (qL f vs to k) vs to
          · rw [hhh] at hh
            simp at hh
            simp [round, Tryz.f15, a15, reg15, loop15, draw15, dok15, hh, hp, hhh, sysO, zeroS]
          · rw [hhh] at hh
            simp at hh
            simp [round, Tryz.f15, a15, reg15, loop15, draw15, dok15, hh, hp, hhh, sysO]
            try rw [List.take_of_length_le (by simp)]
theorem ev_same_sysO (f : Fun) (o : Option (List Val)) (hf : f.nodes ≤ 1000000) (ho : ∀ ws, o = some ws → Val.nodesL ws ≤ 1000000 ∧ ∀ v ∈ ws, slimV v) (m : Mem) : evCall C0 16 [.agg (sysO f o), .agg (sysO f o)] m = some (.ret (.bool true), m) := by
  cases o with
  | none =>
    have := ev_SRSame fun0 fun0 [] [] (by decide) (by decide) (fun v hv => by cases hv) m
    rw [sameS_refl] at this
    exact this
  | some ws =>
    obtain ⟨h1, h2⟩ := ho ws rfl
    have := ev_SRSame f f ws ws hf h1 h2 m
    rw [sameS_refl] at this
    exact this
theorem pQuo_sub {f : Fun} {vs : List Val} {to : List Int} (hb : Val.nodesL vs ≤ 1500) (hs : ∀ v ∈ vs, slimV v) : ∀ ws, (pQuo f vs to).1 = some ws → Val.nodesL ws ≤ 1000000 ∧ ∀ v ∈ ws, slimV v := fun ws h => by
  unfold pQuo at h
  split at h
  · rename_i hc
    obtain ⟨c1, c2, c3⟩ := hc
    split at h
    · simp only [Option.some.injEq] at h
      subst h
      have h1 := qL_sub (f := f) (by omega) hs c1 (surB_iff.1 c3)
      refine ⟨?_, fun v hv => (h1 v hv).2⟩
      have h2 := nodesL_bound (k := 1500) (bs := qL f vs to (mostL 0 to).toNat) fun v hv => by have := (h1 v hv).1; omega
      have h3 := mostL_top to 0 100 (by omega) (fun y hy => (badQ_false c2 y hy).2)
      have h4 : (qL f vs to (mostL 0 to).toNat).length ≤ 100 := by rw [qL_length]; omega
      have := Nat.mul_le_mul_right 1500 h4
      omega
    · cases h
  · cases h
set_option maxHeartbeats 4000000 in
theorem ev_SystemMaps (f g : Fun) (vs ws : List Val) (h to : List Int) (m : Mem) : evCall C0 3 [.agg (sysX f (.isl false vs.length (Val.cellsL vs))), .agg (sysX g (.isl false ws.length (Val.cellsL ws))), .isl false h.length (ints h), .isl false to.length (ints to)] m = some (.ret (.bool true), m) := by
  rw [evCall_body C0 (C0_ext _ (by decide)) (by rw [C0_P]; exact Tryz.func3) rfl (by rw [C0_ann]; rfl) (by decide) (by simp [Tryz.f3])]
  have hfw := ev_lfew2 f g vs ws
  simp at hfw
  cases hc : fewS f vs 1500
  · simp [Tryz.f3, a3, reg3, hfw, hc, ev_awake]
  cases hc2 : fewS g ws 1500
  · simp [Tryz.f3, a3, reg3, hfw, hc, hc2, ev_awake]
  by_cases hl1 : 200 < h.length
  · simp [Tryz.f3, a3, reg3, hfw, hc, hc2, show (200 : Int) < h.length by omega, ev_awake]
  by_cases hl2 : 200 < to.length
  · simp [Tryz.f3, a3, reg3, hfw, hc, hc2, show ¬ (200 : Int) < h.length by omega, show (200 : Int) < to.length by omega, ev_awake]
  have hl1' : ¬ (200 : Int) < h.length := by omega
  have hl2' : ¬ (200 : Int) < to.length := by omega
  obtain ⟨k1, k2, k3, k4⟩ := fewS_spec hc
  have k5 := few_slimS k4
  obtain ⟨j1, j2, j3, j4⟩ := fewS_spec hc2
  have j5 := few_slimS j4
  have e1 := ev_SIs f g vs ws h false (by omega) (by omega) (by omega) (by omega) k5 j5 (by omega)
  have e2 := fun m => ev_fault2 f g vs ws (by omega) (by omega) (by omega) (by omega) k5 j5 m true
  have e4 := ev_SQuotient f vs to false (by omega) (by omega) k5 (by omega)
  have e5 := fun m => ev_fault1 f vs (by omega) (by omega) k5 m true
  have e6 := ev_SRSame00
  have e8 := ev_same_sysO f (pQuo f vs to).1 (by omega) (pQuo_sub k3 k5)
  simp at e1 e2 e5
  have hfin : ∀ (b : Bool), True := fun _ => trivial
  cases hok : okS f vs
  · have hb0 : bothE f g vs ws = 30 := by unfold bothE; simp [hok]
    simp [hok, zeroS] at e4
    simp [hb0] at e1 e2
    simp [chkE, hok] at e5
    simp [Tryz.f3, a3, reg3, hfw, hc, hc2, hl1', hl2', e1, e2, e4, e5, e6, ev_awake]
  · have e7 := ev_RQuotient f vs to false hok (by omega) (by omega) k5 (by omega)
    obtain ⟨hsh, _, hokv⟩ := okS_spec hok
    simp [chkE, hok] at e5
    obtain ⟨o, e, hoe⟩ : ∃ o e, pQuo f vs to = (o, e) := ⟨_, _, rfl⟩
    rw [hoe] at e4 e7 e8
    cases o with
    | none =>
      simp [hok, sysO, zeroS] at e4 e7 e8
      by_cases hb0 : bothE f g vs ws = 0
      · have e3 := ev_RHom f g vs ws h false hsh hokv (by omega) k5 (by omega)
        simp at e3
        simp [hb0] at e1 e2
        simp [Tryz.f3, a3, reg3, hfw, hc, hc2, hl1', hl2', e1, e2, e3, e4, e5, e7, e8, ev_awake]
      · simp [hb0] at e1 e2
        simp [Tryz.f3, a3, reg3, hfw, hc, hc2, hl1', hl2', e1, e2, hb0, e4, e5, e7, e8, ev_awake]
    | some qs =>
      simp [hok, sysO] at e4 e7 e8
      by_cases hb0 : bothE f g vs ws = 0
      · have e3 := ev_RHom f g vs ws h false hsh hokv (by omega) k5 (by omega)
        simp at e3
        simp [hb0] at e1 e2
        simp [Tryz.f3, a3, reg3, hfw, hc, hc2, hl1', hl2', e1, e2, e3, e4, e5, e7, e8, ev_awake]
      · simp [hb0] at e1 e2
        simp [Tryz.f3, a3, reg3, hfw, hc, hc2, hl1', hl2', e1, e2, hb0, e4, e5, e7, e8, ev_awake]
theorem ev_SystemMapsR (f : Fun) (vs : List Val) (g : Fun) (ws : List Val) (h to : List Int) (m : Mem) : evCall C0 3 [.agg (sysX f (.isl false vs.length (Val.cellsL vs))), .agg (sysX g (.isl false ws.length (Val.cellsL ws))), .isl false h.length (ints h), .isl false to.length (ints to)] m = some (.ret (.bool true), m) := ev_SystemMaps f g vs ws h to m
end AE
end Go.Proofs.YtmfdpijmholedaaGreatDoor
/- The row of the statement SystemMaps. Printed by mkrow.py. -/
set_option linter.unusedVariables false
set_option linter.unusedSimpArgs false
namespace Go.Proofs.YtmfdpijmholedaaGreatDoor
namespace AE
open Go Go.ChangeShapes Go.WideShapes Go.ChangeAt Go.RowKit
theorem own : ownKnob Tryz.prog.godebug = none := by kernel_rfl
theorem laidOut : laidOutB Tryz.prog = true := by kernel_rfl
theorem door_met_systemMaps (os : Os) (args : Array Value) : laidMetH Tryz.prog Rows.systemMapsRow.laid ((World.laidAll Tryz.prog os Rows.systemMapsRow.laid).forCall (fun _ _ => 0) ⟨#[], args, []⟩).memory := by
  rw [MakeChecks.laidMetH_plain _ _ _ (by kernel_rfl)]
  exact laidMet_laidAll _ (by kernel_rfl) (by kernel_rfl)
set_option maxRecDepth 100000 in
theorem lifted_systemMaps (os : Os) (started : os.Started) (H : Type) (enc : TypeId × Value → H) :
    ReturnsInHanded {} Tryz.checked os 3 .any (fun w args => (Rows.systemMapsSpec.pre enc Tryz.prog Tryz.f3 [] false w args ∧ laidMetH Tryz.prog Rows.systemMapsRow.laid w) ∧ sizedMet enc Tryz.prog Tryz.f3 (OpenSpec.ofChange Rows.systemMapsSpec) false w args)
      (Rows.systemMapsSpec.post enc Tryz.prog Tryz.f3 false true false false) := by
  refine returnsInHanded_of_change_and (C := Tryz.checked) (X := fun w _ => laidMetH Tryz.prog Rows.systemMapsRow.laid w) (fun _ _ _ hh h => h.of_heap hh) own started (by kernel_rfl) Tryz.func3
    (ChangeSpec.witness_shaped (enc := enc) (C := Tryz.checked) (os := os) (X := fun w _ => laidMetH Tryz.prog Rows.systemMapsRow.laid w) false (World.laidAll Tryz.prog os Rows.systemMapsRow.laid) #[.agg #[.int .i64 0, .int .i64 0, .slice none 0 0, .slice none 0 0], .agg #[.int .i64 0, .int .i64 0, .slice none 0 0, .slice none 0 0], .slice none 0 0, .slice none 0 0] 8 rfl (World.shaped_of_ZipB (by kernel_rfl) (by kernel_rfl)) (by kernel_rfl) (by kernel_rfl) (by kernel_rfl) (door_met_systemMaps os _)) ?_
  intro W base args ds gs before hval0 hW _ _ hL _
  have hW' := hW
  obtain ⟨p, q, hA0, hV, rfl, hfz, hnd⟩ := hW
  have hA : DataW.TrodAll enc Tryz.prog W 0 (fun _ => true) true Tryz.f3.params.toList args.toList ds p := hA0
  rw [Tryz.params3] at hA
  obtain ⟨v0, v1, v2, v3, d0, d1, d2, d3, p0, p1, p2, p3, rfl, rfl, rfl, h0, h1, h2, h3⟩ := trodAll_four hA
  obtain ⟨rfl, rfl⟩ := trodVars_none hV
  have k0 := h0
  have k1 := h1
  have k2 := h2
  have k3 := h3
  have lt0 : ∀ x ∈ p0, x.block < W.heap.size := by obtain ⟨m, hm⟩ := k0; exact DataW.trod_lt m _ _ _ hm
  have lt1 : ∀ x ∈ p1, x.block < W.heap.size := by obtain ⟨m, hm⟩ := k1; exact DataW.trod_lt m _ _ _ hm
  have lt2 : ∀ x ∈ p2, x.block < W.heap.size := by obtain ⟨m, hm⟩ := k2; exact DataW.trod_lt m _ _ _ hm
  have lt3 : ∀ x ∈ p3, x.block < W.heap.size := by obtain ⟨m, hm⟩ := k3; exact DataW.trod_lt m _ _ _ hm
  obtain ⟨n0, h0⟩ := h0
  obtain ⟨x0, y0, hx0⟩ := open_sys n0 n0 (Nat.le_refl _) _ _ h0
  obtain ⟨n1, h1⟩ := h1
  obtain ⟨x1, y1, hx1⟩ := open_sys n1 n1 (Nat.le_refl _) _ _ h1
  obtain ⟨a2, len2, cap2, rfl⟩ := Go.WideShapes.okWide_slice Tryz.underlying28 (hval0 2 28 v2 rfl rfl)
  obtain ⟨n2, h2⟩ := h2
  obtain ⟨x2, w2, e2, hx2⟩ := open_ks h2
  obtain rfl : Value.slice a2 len2 cap2 = w2 := by simpa [Value.cells] using e2
  obtain ⟨a3, len3, cap3, rfl⟩ := Go.WideShapes.okWide_slice Tryz.underlying28 (hval0 3 28 v3 rfl rfl)
  obtain ⟨n3, h3⟩ := h3
  obtain ⟨x3, w3, e3, hx3⟩ := open_ks h3
  obtain rfl : Value.slice a3 len3 cap3 = w3 := by simpa [Value.cells] using e3
  have hs := sr0 (P := Tryz.prog) (gl_of_laid (laid := Rows.systemMapsRow.laid) (by kernel_rfl) (by simp [Rows.systemMapsRow]) (by simp [Rows.systemMapsRow]) hL) (tb_of_laid (laid := Rows.systemMapsRow.laid) (by kernel_rfl) (by simp [Rows.systemMapsRow]) hL)
  have hcall := (sound ok0 3 [.agg (sysX x0 (.isl false y0.length (Val.cellsL y0))), .agg (sysX x1 (.isl false y1.length (Val.cellsL y1))), .isl false x2.length (ints x2), .isl false x3.length (ints x3)] ⟨[], []⟩ _ (ev_SystemMapsR x0 y0 x1 y1 x2 x3 ⟨[], []⟩)).2 W (g0 W) W [v0, v1, .slice a2 len2 cap2, .slice a3 len3 cap3] (by rw [C0_P, C0_gl]; exact hs) ?_
  · rw [C0_P] at hcall
    refine Calls.mono hcall fun e W' hR => ?_
    obtain ⟨g', hs', _, hres⟩ := hR
    cases e with
    | panicked ch => exact hres.elim
    | outgrown => exact hres.elim
    | returned v =>
      have hv : v = .bool true := hres
      subst hv
      have bel := hs'.below
      exact ⟨_, rfl, _, _, _, [], _, [], hW', trodAll_mk1 (shut_bool Tryz.underlying4 _), (trodAll_cons_mk (Below.trod laidOut (by kernel_rfl) (of_decide_eq_true (by kernel_rfl)) k0 bel lt0) (trodAll_cons_mk (Below.trod laidOut (by kernel_rfl) (of_decide_eq_true (by kernel_rfl)) k1 bel lt1) (trodAll_cons_mk (Below.trod laidOut (by kernel_rfl) (of_decide_eq_true (by kernel_rfl)) k2 bel lt2) (trodAll_cons_mk (Below.trod laidOut (by kernel_rfl) (of_decide_eq_true (by kernel_rfl)) k3 bel lt3) trodAll_mk0)))), rfl, bel.frame _, fun h => by cases h⟩
  · exact .mk_cons (agg_of hx0 (by simp)) (.mk_cons (agg_of hx1 (by simp)) (.mk_cons hx2 (.mk_cons hx3 VRs.mk_nil)))
theorem said_systemMaps : Rows.SystemMapsSaid :=
  OpenClaim.holds_of_wide 3 Tryz.f3 rfl rfl rfl rfl rfl rfl rfl ⟨rfl, rfl, rfl, rfl, rfl⟩ rfl rfl rfl rfl rfl (by kernel_rfl) Tryz.func3 (by kernel_rfl)
    (of_decide_eq_true (by kernel_rfl)) (by unfold Func.isWrapper; first | (rw [if_pos (by decide +kernel)]; kernel_rfl) | (rw [if_neg (by decide +kernel)]; exact ⟨rfl, rfl⟩))
    (fun os started H enc _ => lifted_systemMaps os started H enc)
#print axioms said_systemMaps
end AE
end Go.Proofs.YtmfdpijmholedaaGreatDoor
/- The card of the statement SystemMaps. Printed by mkrow.py. -/
set_option linter.unusedVariables false
set_option linter.unusedSimpArgs false
namespace Go.Proofs.YtmfdpijmholedaaGreatDoor
namespace AE
open Go
theorem card_systemMaps : Rows.SystemMapsCardSaid :=
  Claim7.holds_tied_plain_at .later [] [.data, .data, .data, .data, .sentinel, .sentinel, .data, .pinned] true (true, "16bfc96b6015e7c1836e6e85ac56fb9af05c80819149fea3c30a26e5d3ab28d3") true
    said_systemMaps (fun _ h => by cases h) (by kernel_rfl) (fun _ h => by cases h) systemMaps_row_tie rfl ⟨rfl, rfl⟩ (by kernel_rfl) rfl
    (fun f fn hf hfn => by
      obtain rfl : f = 3 := Option.some.inj ((show Tryz.prog.funcNamed "ectype/ectypelaw03.SystemMaps" = some 3 by kernel_rfl).symm.trans hf) |>.symm
      obtain rfl : fn = Tryz.f3 := (Option.some.inj (Tryz.func3.symm.trans hfn)).symm
      exact ⟨by kernel_rfl, fun j t ht => by
        rw [Tryz.params3] at ht
        have h3 : t = 27 ∨ t = 28 := by
          rcases j with _ | _ | _ | _ | j
          · exact .inl (by simpa using ht.symm)
          · exact .inl (by simpa using ht.symm)
          · exact .inr ((by simpa using ht.symm))
          · exact .inr ((by simpa using ht.symm))
          · simp at ht
        rcases h3 with rfl | rfl
        · exact (show Tryz.prog.wantsStandIn 27 = false by kernel_rfl)
        · exact (show Tryz.prog.wantsStandIn 28 = false by kernel_rfl)
      ⟩)
    (by kernel_rfl)
#print axioms card_systemMaps
end AE
end Go.Proofs.YtmfdpijmholedaaGreatDoor
