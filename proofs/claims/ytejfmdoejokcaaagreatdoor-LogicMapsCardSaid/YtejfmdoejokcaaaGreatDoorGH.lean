/- The program's merging of elements: plain laws, the greatest divisor of a row; evaluated. -/
import Derived.Test.YtejfmdoejokcaaaGreatDoorGG
import Derived.Test.YtejfmdoejokcaaaGreatDoorGF
import Derived.Test.YtejfmdoejokcaaaGreatDoorGE
import Derived.Test.YtejfmdoejokcaaaGreatDoorAE4
set_option linter.unusedVariables false
set_option linter.unusedSimpArgs false
namespace Go.Proofs.YtejfmdoejokcaaaGreatDoor
namespace AE
open Go
theorem insP_app {u : Val} {w : Int} {r : List (Val × Int)} : ∀ {o : List (Val × Int)}, (∀ p, p ∈ o → cmpV p.1 u < 0) → insP u w (o ++ r) = o ++ insP u w r
  | [], _ => rfl
  | p :: o, h => by
    have h1 := h p List.mem_cons_self
    have h2 := cmpV_anti p.1 u
    rw [List.cons_append, insP, if_neg (by omega), if_neg (by omega), insP_app fun q hq => h q (List.mem_cons_of_mem _ hq)]
    rfl
theorem insP_top {u : Val} {w : Int} {o : List (Val × Int)} (hs : o.Pairwise LtP) (h : ∀ q, q ∈ o → cmpV q.1 u ≤ 0) (hl : 0 < o.length) :
    insP u w o = if cmpV (o[o.length - 1]).1 u = 0 then o.set (o.length - 1) ((o[o.length - 1]).1, (o[o.length - 1]).2 + w) else o ++ [(u, w)] := by
  have hne : o ≠ [] := List.length_pos_iff.1 hl
  obtain ⟨q, r, rfl⟩ : ∃ q r, o = r ++ [q] := ⟨o.getLast hne, o.dropLast, (List.dropLast_concat_getLast hne).symm⟩
  have hq : (r ++ [q])[(r ++ [q]).length - 1] = q := by simp
  rw [hq]
  have hr : ∀ p, p ∈ r → cmpV p.1 q.1 < 0 := fun p hp => (List.pairwise_append.1 hs).2.2 p hp q (by simp)
  have hqu := h q (by simp)
  by_cases hc : cmpV q.1 u = 0
  · rw [if_pos hc]
    have hu := (cmpV_zero _ _).1 hc
    rw [insP_app fun p hp => by rw [← hu]; exact hr p hp, insP, if_pos (by rw [hu]; exact cmpV_self _)]
    simp
  · rw [if_neg hc]
    refine insP_end fun p hp => ?_
    rcases List.mem_append.1 hp with hp | hp
    · exact cmpV_lt_trans (hr p hp) (by omega)
    · rw [List.mem_singleton.1 hp]
      omega
theorem at_elemsC : ∀ (l : List (Val × Int)) (i : Nat) (h : i < l.length), ((elemsC l).drop (i * 4)).take 4 = elemC l[i]
  | p :: r, 0, _ => by
    show (elemC p ++ elemsC r).take 4 = _
    rw [← elemC_length p, List.take_left]
    rfl
  | p :: r, i + 1, h => by
    have := at_elemsC r i (by simpa using h)
    show (List.drop ((i + 1) * 4) (elemC p ++ elemsC r)).take 4 = _
    rw [show (i + 1) * 4 = (elemC p).length + i * 4 by simp; omega, ← List.drop_drop, List.drop_left]
    simpa using this
theorem elemsC_append (l r : List (Val × Int)) : elemsC (l ++ r) = elemsC l ++ elemsC r := by unfold elemsC; rw [List.map_append, List.flatten_append]
theorem elemsC_one (p : Val × Int) : elemsC [p] = elemC p := by unfold elemsC; simp
theorem elemC_eq (p : Val × Int) : elemC p = [.int .i64 p.1.num, .isl false p.1.args.length (Val.cellsL p.1.args), .isl false p.1.ws.length (ints p.1.ws), .int .i64 p.2] := by unfold elemC; rw [Val.cells_eq]; rfl
theorem elemsC_closed (nb nr : Nat) : ∀ l : List (Val × Int), (elemsC l).all (closed nb nr) = true
  | [] => rfl
  | p :: r => by
    show (elemC p ++ elemsC r).all _ = true
    rw [List.all_append, elemsC_closed nb nr r]
    unfold elemC
    rw [List.all_append, Val.closed_cells]
    rfl
theorem elemsC_flat : ∀ l : List (Val × Int), (elemsC l).all flat = true
  | [] => rfl
  | p :: r => by
    show (elemC p ++ elemsC r).all _ = true
    rw [List.all_append, elemsC_flat r]
    unfold elemC
    rw [List.all_append, Val.cells_eq]
    rfl
theorem app_at0 {α : Type} (R J : List α) : (R ++ J)[R.length]? = J[0]? := by
  rw [List.getElem?_append_right (Nat.le_refl _), Nat.sub_self]
theorem app_set0 {α : Type} (R J : List α) (x : α) : (R ++ J).set R.length x = R ++ J.set 0 x := by
  rw [List.set_append_right _ _ (Nat.le_refl _), Nat.sub_self]
theorem ev_vSame (u v : Val) (hb : u.nodes ≤ 1000000000) (hs : slimV u) (m : Mem) : evCall C0 58 [.agg u.cells, .agg v.cells] m = some (.ret (.bool (decide (cmpV u v = 0))), m) := by
  rw [evCall_body C0 (C0_ext _ (by decide)) (by rw [C0_P]; exact Tryz.func58) rfl (by rw [C0_ann]; rfl) (by rw [C0_ann]; rfl) (by decide) (by simp [Tryz.f58])]
  have he := ev_Compare u.nodes u (Nat.le_refl _) hb hs v
  simp at he
  simp [Tryz.f58, a58, reg58, he]
set_option maxHeartbeats 1000000 in
theorem ev_vgcdR (l : List Int) (id : Nat) (hl : l.length ≤ 1000000000) (hp : ∀ w, w ∈ l → 1 ≤ w ∧ w ≤ 1048576) (m : Mem) (hR : m.rw[id]? = some ⟨3, ints l⟩) : evCall C0 176 [.sl id l.length 0 l.length] m = some (.ret (.int .i64 (gcdN l)), m) := by
  have hid : id < m.rw.length := (List.getElem?_eq_some_iff.1 hR).1
  have hR2 := (List.getElem?_eq_some_iff.1 hR).2
  rw [evCall_body C0 (C0_ext _ (by decide)) (by rw [C0_P]; exact Tryz.func176) rfl (by rw [C0_ann]; rfl) (by rw [C0_ann]; rfl) (by decide) (by simp [Tryz.f176])]
  simp [Tryz.f176, a176, reg176, loop176, draw176, dok176]
  refine loop_in (fun x : Nat × Nat => ⟨[(3, .int .i64 x.2), (6, .sl id l.length 0 l.length), (7, .int .i64 l.length), (8, .int .i64 x.1)], m⟩)
    (fun x => some (.ret (.int .i64 (gcdF x.2 (l.drop x.1))), m)) (fun x => l.length - x.1) (fun x => x.1 ≤ l.length ∧ x.2 ≤ 1048576) (0, 0) ?_ ?_ ?_ ?_ ?_
  · simp
  · simp [gcdN]
  · simp
  · intro x; simp [Tryz.f176, a176, reg176, loop176, draw176, dok176]
  · rintro ⟨i, q⟩ hI hrec
    simp only at hI
    obtain ⟨hi, hq⟩ := hI
    by_cases hlt : i < l.length
    · have w2 : IntKind.i64.wrap (i + 1) = i + 1 := wrap_id _ (by omega)
      have hx := hp l[i] (List.getElem_mem hlt)
      have hat := ints_at hlt
      simp only
      rw [gcdF_drop hlt]
      obtain ⟨n, hn⟩ : ∃ n : Nat, l[i] = n := ⟨l[i].toNat, by omega⟩
      rw [hn] at hx hat ⊢
      simp only [Int.natAbs_natCast]
      have hle : Nat.gcd q n ≤ 1048576 := Nat.le_trans (Nat.le_of_dvd (by omega) (Nat.gcd_dvd_right q n)) (by omega)
      simp [round, Tryz.f176, a176, reg176, loop176, draw176, dok176, hlt, w2, hat, hid, hR2, show i + 1 ≤ l.length by omega]
      rw [loop_mp (fun y : Nat × Nat => ⟨[(3, .int .i64 y.1), (5, .int .i64 y.2), (6, .sl id l.length 0 l.length), (7, .int .i64 l.length), (8, .int .i64 i)], m⟩)
        (fun y => some (.normal, ⟨[(3, .int .i64 (Nat.gcd y.1 y.2 : Nat)), (5, .int .i64 0), (6, .sl id l.length 0 l.length), (7, .int .i64 l.length), (8, .int .i64 i), (13, .bool false)], m⟩)) (fun y => y.2) (fun y => y.1 ≤ 1048576 ∧ y.2 ≤ 1048576) (q, n) ?_ rfl ?_ ?_ ?_]
      · simp [Tryz.f176, a176, reg176, loop176, draw176, dok176, w2, endRound_M0, hid]
        refine hrec (i + 1, Nat.gcd q n) _ _ ?_ ?_ ?_ ?_
        · simp; omega
        · exact ⟨by simp; omega, hle⟩
        · simp
        · simp
      · simp [Tryz.f176, a176, reg176, loop176, draw176, dok176]
      · exact ⟨hq, by omega⟩
      · intro x; simp [Tryz.f176, a176, reg176, loop176, draw176, dok176]
      · rintro ⟨a, c⟩ ⟨ha, hc⟩ hrec2
        clear hrec
        by_cases h0 : c = 0
        · subst h0
          simp [round, Tryz.f176, a176, reg176, loop176, draw176, dok176]
        · have ht : (a : Int).tmod (c : Int) = ((a % c : Nat) : Int) := tmod_nat a c
          have hne : ¬ (c : Int) = 0 := by omega
          have hm : a % c < c := Nat.mod_lt _ (by omega)
          simp [round, Tryz.f176, a176, reg176, loop176, draw176, dok176, h0, ht, endRound_M0, hid]
          refine hrec2 (c, a % c) _ _ ?_ ?_ ?_ ?_
          · exact hm
          · exact ⟨hc, by simp only; omega⟩
          · simp
          · simp only
            rw [Nat.gcd_comm c, ← Nat.gcd_rec, Nat.gcd_comm]
    · clear hrec
      simp [round, Tryz.f176, a176, reg176, loop176, draw176, dok176, hlt]
      rw [List.drop_eq_nil_of_le (by omega)]
      rfl
theorem ev_Nodes (N : Nat) : ∀ (f : Val), f.nodes ≤ N → f.nodes ≤ 1000000000 → ∀ (m : Mem), evCall C0 110 [.agg f.cells] m = some (.ret (.int .i64 f.nodes), m) := by
  induction N with
  | zero => intro f hN; have := f.nodes_pos; omega
  | succ N ih =>
  intro f hN hb m
  rw [evCall_body C0 (C0_ext _ (by decide)) (by rw [C0_P]; exact Tryz.func110) rfl (by rw [C0_ann]; rfl) (by rw [C0_ann]; rfl) (by decide) (by simp [Tryz.f110])]
  simp [Tryz.f110, a110, reg110, loop110]
  have hn := Val.nodes_eq f
  refine loop_in (fun x : Nat × Nat => ⟨[(3, .int .i64 x.2), (7, .isl false f.args.length (Val.cellsL f.args)), (8, .int .i64 f.args.length), (9, .int .i64 x.1)], ⟨m.bx ++ [f.cells], m.rw⟩⟩)
    (fun x => some (.ret (.int .i64 (x.2 + Val.nodesL (f.args.drop x.1) : Nat)), m)) (fun x => f.args.length - x.1) (fun x => x.1 ≤ f.args.length ∧ x.2 + Val.nodesL (f.args.drop x.1) ≤ 1000000000) (0, 1) ?_ ?_ ?_ ?_ ?_
  · simp
  · simp [hn]
  · simp; omega
  · intro x; simp [Tryz.f110, a110, reg110, loop110]
  · rintro ⟨i, a⟩ hI hrec
    simp only at hI
    obtain ⟨hi, ha⟩ := hI
    have hlen := f.length_args
    by_cases hlt : i < f.args.length
    · have w2 : IntKind.i64.wrap (i + 1) = i + 1 := wrap_id _ (by omega)
      have hmem := Val.nodes_arg (List.getElem_mem hlt)
      have he := ih f.args[i] (by omega) (by omega)
      simp at he
      rw [Val.nodesL_drop hlt] at ha
      have w3 : IntKind.i64.wrap (a + f.args[i].nodes) = a + f.args[i].nodes := wrap_id _ (by omega)
      clear ih
      have h3 : (i + 1) * 3 ≤ f.args.length * 3 := by omega
      simp [round, Tryz.f110, a110, reg110, loop110, hlt, w2, w3, h3, he]
      refine hrec (i + 1, a + f.args[i].nodes) _ _ ?_ ?_ ?_ ?_
      · simp; omega
      · simp; omega
      · simp
      · simp only
        rw [Val.nodesL_drop hlt]
        simp; omega
    · clear hrec ih
      simp [round, Tryz.f110, a110, reg110, loop110, hlt]
      rw [List.drop_eq_nil_of_le (by omega), Val.nodesL]
      simp
theorem ev_RNodes (N : Nat) : ∀ (f : Val), f.nodes ≤ N → f.nodes ≤ 1000000000 → ∀ (m : Mem), evCall C0 52 [.agg f.cells] m = some (.ret (.int .i64 f.nodes), m) := by
  induction N with
  | zero => intro f hN; have := f.nodes_pos; omega
  | succ N ih =>
  intro f hN hb m
  rw [evCall_body C0 (C0_ext _ (by decide)) (by rw [C0_P]; exact Tryz.func52) rfl (by rw [C0_ann]; rfl) (by rw [C0_ann]; rfl) (by decide) (by simp [Tryz.f52])]
  simp [Tryz.f52, a52, reg52, loop52]
  have hn := Val.nodes_eq f
  refine loop_in (fun x : Nat × Nat => ⟨[(3, .int .i64 x.2), (7, .isl false f.args.length (Val.cellsL f.args)), (8, .int .i64 f.args.length), (9, .int .i64 x.1)], ⟨m.bx ++ [f.cells], m.rw⟩⟩)
    (fun x => some (.ret (.int .i64 (x.2 + Val.nodesL (f.args.drop x.1) : Nat)), m)) (fun x => f.args.length - x.1) (fun x => x.1 ≤ f.args.length ∧ x.2 + Val.nodesL (f.args.drop x.1) ≤ 1000000000) (0, 1) ?_ ?_ ?_ ?_ ?_
  · simp
  · simp [hn]
  · simp; omega
  · intro x; simp [Tryz.f52, a52, reg52, loop52]
  · rintro ⟨i, a⟩ hI hrec
    simp only at hI
    obtain ⟨hi, ha⟩ := hI
    have hlen := f.length_args
    by_cases hlt : i < f.args.length
    · have w2 : IntKind.i64.wrap (i + 1) = i + 1 := wrap_id _ (by omega)
      have hmem := Val.nodes_arg (List.getElem_mem hlt)
      have he := ih f.args[i] (by omega) (by omega)
      simp at he
      rw [Val.nodesL_drop hlt] at ha
      have w3 : IntKind.i64.wrap (a + f.args[i].nodes) = a + f.args[i].nodes := wrap_id _ (by omega)
      clear ih
      have h3 : (i + 1) * 3 ≤ f.args.length * 3 := by omega
      simp [round, Tryz.f52, a52, reg52, loop52, hlt, w2, w3, h3, he]
      refine hrec (i + 1, a + f.args[i].nodes) _ _ ?_ ?_ ?_ ?_
      · simp; omega
      · simp; omega
      · simp
      · simp only
        rw [Val.nodesL_drop hlt]
        simp; omega
    · clear hrec ih
      simp [round, Tryz.f52, a52, reg52, loop52, hlt]
      rw [List.drop_eq_nil_of_le (by omega), Val.nodesL]
      simp
def sysX (f : Fun) (x : A) : List A := f.cells ++ [x]
@[simp] theorem sysX_eq (f : Fun) (x : A) : sysX f x = f.cells ++ [x] := _root_.id rfl
def okVs (f : Fun) (n : Nat) (vs : List Val) : Bool := vs.all fun v => (chkV exS n v f 2000).1
def okS (f : Fun) (vs : List Val) : Bool := okF f && decide (vs.length ≤ 100) && okVs f vs.length vs && decide (Val.nodesL vs ≤ 20000)
theorem okVs_drop {f : Fun} {n : Nat} {vs : List Val} {i : Nat} (h : i < vs.length) : okVs f n (vs.drop i) = ((chkV exS n vs[i] f 2000).1 && okVs f n (vs.drop (i + 1))) := by
  unfold okVs
  rw [List.drop_eq_getElem_cons h, List.all_cons]
theorem okF_shapedS {f : Fun} (h : okF f = true) : shapedF f = true := ((okF_iff f).1 h).2.2
set_option maxHeartbeats 1000000 in
theorem ev_SValid (f : Fun) (vs : List Val) (hf : f.nodes ≤ 1000000) (hb : Val.nodesL vs ≤ 1000000) (hs : ∀ v ∈ vs, slimV v) (m : Mem) : evCall C0 66 [.agg (sysX f (.isl false vs.length (Val.cellsL vs)))] m = some (.ret (.bool (okS f vs)), m) := by
  rw [evCall_body C0 (C0_ext _ (by decide)) (by rw [C0_P]; exact Tryz.func66) rfl (by rw [C0_ann]; rfl) (by rw [C0_ann]; rfl) (by decide) (by simp [Tryz.f66])]
  have hv := ev_Valid f (by omega)
  have hl := Val.length_nodesL vs
  simp at hv
  unfold okS
  cases hc : okF f
  · simp [Tryz.f66, a66, reg66, loop66, hv, hc]
  by_cases h100 : vs.length ≤ 100
  · have hsh := okF_shapedS hc
    have h100' : ¬ (100 : Int) < vs.length := by omega
    simp [Tryz.f66, a66, reg66, loop66, hv, hc, h100, h100']
    refine loop_in (fun x : Nat × Nat => ⟨[(1, .ptr m.bx.length 0), (3, .int .i64 x.2), (17, .isl false vs.length (Val.cellsL vs)), (18, .int .i64 vs.length), (19, .int .i64 x.1)], ⟨m.bx ++ [sysX f (.isl false vs.length (Val.cellsL vs))], m.rw⟩⟩)
      (fun x => some (.ret (.bool (okVs f vs.length (vs.drop x.1) && decide (x.2 + Val.nodesL (vs.drop x.1) ≤ 20000))), m)) (fun x => vs.length - x.1) (fun x => x.1 ≤ vs.length ∧ x.2 + Val.nodesL (vs.drop x.1) ≤ 1000000) (0, 0) ?_ ?_ ?_ ?_ ?_
    · simp
    · simp
    · simp; omega
    · intro x; simp [Tryz.f66, a66, reg66, loop66]
    · rintro ⟨i, a⟩ hI hrec
      simp only at hI
      obtain ⟨hi, ha⟩ := hI
      by_cases hlt : i < vs.length
      · have w2 : IntKind.i64.wrap (i + 1) = i + 1 := wrap_id _ (by omega)
        have hmem := List.getElem_mem hlt
        have hnm := Val.nodes_mem hmem
        have he := ev_VValid f vs.length vs[i] hsh (by omega) (hs _ hmem)
        have hn := ev_Nodes vs[i].nodes vs[i] (Nat.le_refl _) (by omega)
        simp at he hn
        rw [Val.nodesL_drop hlt] at ha
        have w3 : IntKind.i64.wrap (a + vs[i].nodes) = a + vs[i].nodes := wrap_id _ (by omega)
        have h3 : (i + 1) * 3 ≤ vs.length * 3 := by omega
        rw [okVs_drop hlt]
        cases hcv : (chkV exS vs.length vs[i] f 2000).1
        · simp [round, Tryz.f66, a66, reg66, loop66, hlt, w2, w3, h3, he, hn, hcv]
        · simp [round, Tryz.f66, a66, reg66, loop66, hlt, w2, w3, h3, he, hn, hcv, endRound_M]
          refine hrec (i + 1, a + vs[i].nodes) _ _ ?_ ?_ ?_ ?_
          · simp; omega
          · simp; omega
          · simp
          · simp only
            rw [Val.nodesL_drop hlt]
            simp [Nat.add_assoc]
      · clear hrec
        simp [round, Tryz.f66, a66, reg66, loop66, hlt]
        rw [List.drop_eq_nil_of_le (by omega), Val.nodesL]
        simp [okVs]
        omega
  · have h100' : (100 : Int) < vs.length := by omega
    simp [Tryz.f66, a66, reg66, loop66, hv, hc, h100, h100']
end AE
end Go.Proofs.YtejfmdoejokcaaaGreatDoor
/- Systems that came in. -/
set_option linter.unusedVariables false
set_option linter.unusedSimpArgs false
namespace Go.Proofs.YtejfmdoejokcaaaGreatDoor
namespace AE
open Go Go.RowKit
set_option maxRecDepth 1000000 in
theorem cSys : Tryz.prog.cellsOf 48 = 4 := by kernel_rfl
set_option maxRecDepth 1000000 in
theorem cFunS : Tryz.prog.cellsOf 24 = 3 := by kernel_rfl
set_option maxRecDepth 100000 in
theorem open_sys {H : Type} {enc : TypeId × Value → H} {W : World} (N fuel : Nat) (hfu : fuel ≤ N) (cs : List Value) (x : DataW H × List MemPlace) (h : DataW.trod enc Tryz.prog W 0 (fun _ => true) true fuel 48 cs = some x) : ∃ (f : Fun) (vs : List Val), VRs W (g0 W) (sysX f (.isl false vs.length (Val.cellsL vs))) cs := by
  cases fuel with
  | zero => simp [DataW.trod] at h
  | succ N' =>
    obtain ⟨xs, n, hn, rfl, hlen, hxl, hf⟩ := DataW.trod_struct Tryz.underlying48 h
    rw [cSys] at hlen
    have hxl2 : xs.length = 2 := hxl
    clear hxl
    obtain ⟨a0, a1, a2, a3, rfl⟩ : ∃ a0 a1 a2 a3, cs = [a0, a1, a2, a3] := by
      match cs, hlen with
      | [a0, a1, a2, a3], _ => exact ⟨a0, a1, a2, a3, rfl⟩
    obtain ⟨x0, x1, rfl⟩ : ∃ x0 x1, xs = [x0, x1] := by
      match xs, hxl2 with
      | [a0, a1], _ => exact ⟨a0, a1, rfl⟩
    have h0 := hf 0 _ rfl
    have h1 := hf 1 _ rfl
    simp [cFunS, cVals] at h0 h1
    obtain ⟨f, hf0⟩ := open_fun _ _ (Nat.le_refl _) _ _ h0
    obtain ⟨l, v, e1, hv⟩ := open_slice (by decide) Tryz.underlying46 cVal Val.cells Val.cells_length (fun n' hn' ds y hy => open_val _ _ (Nat.le_refl _) ds y hy) h1
    simp at e1
    subst e1
    rw [Val.flat] at hv
    exact ⟨f, l, hf0.append (.one hv)⟩
end AE
end Go.Proofs.YtejfmdoejokcaaaGreatDoor
/- Formulas as trees. -/
set_option linter.unusedVariables false
set_option linter.unusedSimpArgs false
namespace Go.Proofs.YtejfmdoejokcaaaGreatDoor
namespace AE
open Go
inductive Fm where
  | mk (op n m : Int) (args : List Fm)
namespace Fm
def op : Fm → Int | .mk k _ _ _ => k
def num : Fm → Int | .mk _ n _ _ => n
def mun : Fm → Int | .mk _ _ m _ => m
def args : Fm → List Fm | .mk _ _ _ l => l
@[simp] theorem op_mk (k n m : Int) (l : List Fm) : (Fm.mk k n m l).op = k := rfl
@[simp] theorem num_mk (k n m : Int) (l : List Fm) : (Fm.mk k n m l).num = n := rfl
@[simp] theorem mun_mk (k n m : Int) (l : List Fm) : (Fm.mk k n m l).mun = m := rfl
@[simp] theorem args_mk (k n m : Int) (l : List Fm) : (Fm.mk k n m l).args = l := rfl
mutual
def nodes : Fm → Nat
  | .mk _ _ _ l => 1 + nodesL l
def nodesL : List Fm → Nat
  | [] => 0
  | f :: r => f.nodes + nodesL r
end
theorem nodes_eq (f : Fm) : f.nodes = 1 + nodesL f.args := by cases f; rw [nodes]; rfl
theorem nodes_pos (f : Fm) : 0 < f.nodes := by rw [nodes_eq]; omega
theorem nodes_mem : ∀ {l : List Fm} {f : Fm}, f ∈ l → f.nodes ≤ nodesL l
  | g :: r, f, h => by
    rw [nodesL]
    rcases List.mem_cons.1 h with rfl | h
    · omega
    · have := nodes_mem h; omega
theorem nodes_arg {f g : Fm} (h : g ∈ f.args) : g.nodes < f.nodes := by
  have := nodes_mem h
  rw [nodes_eq f]
  omega
theorem length_nodesL : ∀ l : List Fm, l.length ≤ nodesL l
  | [] => Nat.le_refl _
  | f :: r => by rw [nodesL]; have := length_nodesL r; have := nodes_pos f; simp; omega
theorem length_args (f : Fm) : f.args.length < f.nodes := by rw [nodes_eq]; have := length_nodesL f.args; omega
mutual
def cells : Fm → List A
  | .mk k n m l => [.int .i64 k, .int .i64 n, .int .i64 m, .isl false l.length (cellsL l)]
def cellsL : List Fm → List A
  | [] => []
  | f :: r => f.cells ++ cellsL r
end
theorem cells_eq (f : Fm) : f.cells = [.int .i64 f.op, .int .i64 f.num, .int .i64 f.mun, .isl false f.args.length (cellsL f.args)] := by cases f; rw [cells]; rfl
@[simp] theorem cells_length (f : Fm) : f.cells.length = 4 := by rw [cells_eq]; rfl
@[simp] theorem cellsL_nil : cellsL [] = [] := by rw [cellsL]
@[simp] theorem cellsL_length : ∀ l : List Fm, (cellsL l).length = l.length * 4
  | [] => rfl
  | f :: r => by rw [cellsL, List.length_append, cellsL_length r, cells_length, List.length_cons]; omega
theorem cellsL_append : ∀ l r : List Fm, cellsL (l ++ r) = cellsL l ++ cellsL r
  | [], r => by simp
  | f :: l, r => by rw [List.cons_append, cellsL, cellsL, cellsL_append l r, List.append_assoc]
theorem at_cellsL : ∀ (l : List Fm) (i : Nat) (h : i < l.length), ((cellsL l).drop (i * 4)).take 4 = (l[i]).cells
  | f :: r, 0, _ => by rw [cellsL]; simp [List.take_append]
  | f :: r, i + 1, h => by
    rw [cellsL]
    have := at_cellsL r i (by simpa using h)
    rw [show (i + 1) * 4 = f.cells.length + i * 4 by simp; omega, ← List.drop_drop, List.drop_left]
    simpa using this
mutual
theorem er_cells (nb nr : Nat) (g) : ∀ f : Fm, f.cells.map (er1 nb nr g) = f.cells
  | .mk k n m l => by rw [cells]; simp [er_cellsL nb nr g l]
theorem er_cellsL (nb nr : Nat) (g) : ∀ l : List Fm, (cellsL l).map (er1 nb nr g) = cellsL l
  | [] => by rw [cellsL]; rfl
  | f :: r => by rw [cellsL, List.map_append, er_cells nb nr g f, er_cellsL nb nr g r]
end
mutual
theorem closed_cells (nb nr : Nat) : ∀ f : Fm, f.cells.all (closed nb nr) = true
  | .mk k n m l => by rw [cells]; simp [closed_cellsL nb nr l]
theorem closed_cellsL (nb nr : Nat) : ∀ l : List Fm, (cellsL l).all (closed nb nr) = true
  | [] => by rw [cellsL]; rfl
  | f :: r => by rw [cellsL, List.all_append, closed_cells nb nr f, closed_cellsL nb nr r]; rfl
end
theorem flat_cellsL : ∀ l : List Fm, (cellsL l).all flat = true
  | [] => by rw [cellsL]; rfl
  | f :: r => by rw [cellsL, List.all_append, cells_eq, flat_cellsL r]; rfl
theorem nodesL_drop {l : List Fm} {i : Nat} (h : i < l.length) : nodesL (l.drop i) = l[i].nodes + nodesL (l.drop (i + 1)) := by rw [List.drop_eq_getElem_cons h, nodesL]
end Fm
attribute [simp] Fm.cells_eq Fm.er_cellsL Fm.closed_cellsL Fm.flat_cellsL
@[simp] theorem Fm.at_cellsL' (l : List Fm) (i : Nat) (h : i < l.length) : ((Fm.cellsL l).drop (i * 4)).take 4 = (l[i]).cells := Fm.at_cellsL l i h
def arityA (op : Int) : Int := if op = 0 then 0 else if op = 5 then 0 else if op = 2 then 2 else if 0 ≤ op ∧ op ≤ 13 then 1 else -1
def kindO (op : Int) : Int := if op = 4 then 0 else if op = 5 then 1 else if op = 6 then 2 else if op = 7 then 2 else if op = 8 then 3 else if op = 9 then 3 else if op = 10 then 4 else if op = 11 then 5 else if op = 12 then 6 else if op = 13 then 7 else -1
def numsA (f : Fun) (op n m : Int) : Bool :=
  if op = 5 ∨ op = 10 then decide (0 ≤ n) && decide (n < f.num) && decide (m = 0)
  else if op = 12 then decide (1 ≤ n) && decide (n ≤ 1048576) && decide (m = 0)
  else if op = 13 then decide (1 ≤ n) && decide (n ≤ m) && decide (m ≤ 1048576)
  else decide (n = 0) && decide (m = 0)
def partA (f : Fun) (op : Int) : Fun := f.args.getD (if op = 7 ∨ op = 9 then 1 else 0) f
def ctxA (top : Fun) (g : Option Fun) (op n m : Int) : Option (Option Fun) :=
  if op ≤ 2 then (if n = 0 ∧ m = 0 then some g else none)
  else if op = 3 then (if n = 0 ∧ m = 0 ∧ g.isNone = true then some (some top) else none)
  else match g with
    | none => none
    | some f => if f.kind = kindO op ∧ numsA f op n m = true then some (if op = 4 then none else some (partA f op)) else none
mutual
def okA (top : Fun) : Option Fun → Fm → Bool
  | g, .mk op n m l => decide ((l.length : Int) = arityA op) && (match ctxA top g op n m with
    | none => false
    | some g' => okAL top g' l)
def okAL (top : Fun) : Option Fun → List Fm → Bool
  | _, [] => true
  | g, a :: r => okA top g a && okAL top g r
end
theorem okA_eq (top : Fun) (g : Option Fun) (a : Fm) : okA top g a = (decide ((a.args.length : Int) = arityA a.op) && (match ctxA top g a.op a.num a.mun with | none => false | some g' => okAL top g' a.args)) := by cases a; rw [okA]; rfl
theorem okAL_one (top : Fun) (g : Option Fun) (a : Fm) : okAL top g [a] = okA top g a := by rw [okAL, okAL, Bool.and_true]
mutual
def validA (top : Fun) : Option Fun → Fm → Int → Int → Bool × Int
  | g, .mk op n m l, left, deep =>
    if left - 1 < 0 ∨ 100 < deep ∨ op < 0 ∨ 13 < op ∨ ¬ (l.length : Int) = arityA op then (false, left - 1)
    else match ctxA top g op n m with
      | none => (false, left - 1)
      | some g' => validAL top g' l (left - 1) deep
def validAL (top : Fun) : Option Fun → List Fm → Int → Int → Bool × Int
  | _, [], left, deep => (true, left)
  | g, a :: r, left, deep => if (validA top g a left (deep + 1)).1 then validAL top g r (validA top g a left (deep + 1)).2 deep else (false, (validA top g a left (deep + 1)).2)
end
theorem validA_eq (top : Fun) (g : Option Fun) (a : Fm) (left deep : Int) : validA top g a left deep = if left - 1 < 0 ∨ 100 < deep ∨ a.op < 0 ∨ 13 < a.op ∨ ¬ (a.args.length : Int) = arityA a.op then (false, left - 1)
    else match ctxA top g a.op a.num a.mun with
      | none => (false, left - 1)
      | some g' => validAL top g' a.args (left - 1) deep := by cases a; rw [validA]; rfl
theorem validAL_one (top : Fun) (g : Option Fun) (a : Fm) (left deep : Int) : validAL top g [a] left deep = validA top g a left (deep + 1) := by
  rw [validAL, validAL]
  obtain ⟨b, q⟩ := validA top g a left (deep + 1)
  cases b <;> rfl
mutual
theorem validA_le (top : Fun) : ∀ (g : Option Fun) (a : Fm) (left deep : Int), (validA top g a left deep).2 ≤ left ∧ min left 0 - 1 ≤ (validA top g a left deep).2
  | g, .mk op n m l, left, deep => by
    rw [validA]
    split
    · simp only; omega
    · rename_i h
      split
      · simp only; omega
      · rename_i g' _
        have := validAL_le top g' l (left - 1) deep (by omega)
        omega
theorem validAL_le (top : Fun) : ∀ (g : Option Fun) (l : List Fm) (left deep : Int), 0 ≤ left → (validAL top g l left deep).2 ≤ left ∧ -1 ≤ (validAL top g l left deep).2
  | g, [], left, deep, h => by rw [validAL]; simp only; omega
  | g, a :: r, left, deep, h => by
    rw [validAL]
    have h1 := validA_le top g a left (deep + 1)
    split
    · by_cases h2 : 0 ≤ (validA top g a left (deep + 1)).2
      · have := validAL_le top g r (validA top g a left (deep + 1)).2 deep h2
        omega
      · rename_i hv
        exfalso
        have := validA_pos top g a left (deep + 1) hv
        omega
    · simp only; omega
theorem validA_pos (top : Fun) : ∀ (g : Option Fun) (a : Fm) (left deep : Int), (validA top g a left deep).1 = true → 0 ≤ (validA top g a left deep).2
  | g, .mk op n m l, left, deep, h => by
    rw [validA] at h ⊢
    split
    · rename_i hc; rw [if_pos hc] at h; cases h
    · rename_i hc
      rw [if_neg hc] at h
      split
      · rename_i hx; rw [hx] at h; cases h
      · rename_i g' hx; rw [hx] at h; exact validAL_pos top g' l (left - 1) deep (by omega) h
theorem validAL_pos (top : Fun) : ∀ (g : Option Fun) (l : List Fm) (left deep : Int), 0 ≤ left → (validAL top g l left deep).1 = true → 0 ≤ (validAL top g l left deep).2
  | g, [], left, deep, h, hv => by rw [validAL]; exact h
  | g, a :: r, left, deep, h, hv => by
    rw [validAL] at hv ⊢
    split
    · rename_i hc
      rw [if_pos hc] at hv
      exact validAL_pos top g r _ deep (validA_pos top g a left (deep + 1) hc) hv
    · rename_i hc; rw [if_neg hc] at hv; cases hv
end
mutual
def Fm.depth : Fm → Nat
  | .mk _ _ _ l => 1 + Fm.depthL l
def Fm.depthL : List Fm → Nat
  | [] => 0
  | f :: r => max f.depth (Fm.depthL r)
end
theorem Fm.depth_eq (f : Fm) : f.depth = 1 + Fm.depthL f.args := by cases f; rw [Fm.depth]; rfl
mutual
def Fm.steps : Fm → Nat
  | .mk op _ _ l => Fm.stepsL l + if op = 3 then 1 else 0
def Fm.stepsL : List Fm → Nat
  | [] => 0
  | f :: r => max f.steps (Fm.stepsL r)
end
mutual
def leftA : Fm → Int → Int
  | .mk _ _ _ l, most => max (leftAL l (most - 1)) 0
def leftAL : List Fm → Int → Int
  | [], most => most
  | f :: r, most => if 0 < most then leftAL r (leftA f most) else most
end
theorem leftA_eq (f : Fm) (most : Int) : leftA f most = max (leftAL f.args (most - 1)) 0 := by cases f; rw [leftA]; rfl
theorem leftAL_drop {l : List Fm} {i : Nat} (h : i < l.length) (most : Int) : leftAL (l.drop i) most = if 0 < most then leftAL (l.drop (i + 1)) (leftA l[i] most) else most := by
  rw [List.drop_eq_getElem_cons h, leftAL]
mutual
theorem leftA_le : ∀ (f : Fm) (most : Int), 0 ≤ leftA f most ∧ leftA f most ≤ max (most - 1) 0
  | .mk k n m l, most => by
    rw [leftA]
    have := leftAL_le l (most - 1)
    omega
theorem leftAL_le : ∀ (l : List Fm) (most : Int), leftAL l most ≤ max most 0
  | [], most => by rw [leftAL]; omega
  | f :: r, most => by
    rw [leftAL]
    split
    · have h1 := leftA_le f most
      have h2 := leftAL_le r (leftA f most)
      omega
    · omega
end
mutual
theorem leftA_nodes : ∀ (f : Fm) (most : Int), 1 ≤ most → leftA f most = max (most - f.nodes) 0
  | .mk k n m l, most, h => by
    rw [leftA, leftAL_nodes l (most - 1) (by omega), Fm.nodes_eq]
    simp only [Fm.args_mk]
    omega
theorem leftAL_nodes : ∀ (l : List Fm) (q : Int), 0 ≤ q → leftAL l q = max (q - Fm.nodesL l) 0
  | [], q, h => by rw [leftAL, Fm.nodesL]; omega
  | f :: r, q, h => by
    rw [leftAL, Fm.nodesL]
    split
    · rw [leftA_nodes f q (by omega), leftAL_nodes r _ (by omega)]
      omega
    · have := f.nodes_pos
      omega
end
theorem arityA_op {op : Int} (h : 0 ≤ arityA op) : 0 ≤ op ∧ op ≤ 13 := by
  unfold arityA at h
  split at h
  · omega
  split at h
  · omega
  split at h
  · omega
  split at h
  · assumption
  · omega
mutual
theorem validA_spec (top : Fun) : ∀ (g : Option Fun) (a : Fm) (left deep : Int), 0 ≤ left → ((validA top g a left deep).1 = true ↔ ((a.nodes : Int) ≤ left ∧ deep - 1 + a.depth ≤ 100 ∧ okA top g a = true)) ∧ ((validA top g a left deep).1 = true → (validA top g a left deep).2 = left - a.nodes)
  | g, .mk op n m l, left, deep, h => by
    rw [validA, Fm.nodes_eq, Fm.depth_eq, okA]
    simp only [Fm.args_mk]
    split
    · rename_i hc
      simp only [Bool.false_eq_true, false_iff, false_implies, and_true, Bool.and_eq_true, decide_eq_true_eq]
      rintro ⟨h1, h2, h3, h4⟩
      have := arityA_op (op := op) (by rw [← h3]; omega)
      omega
    · rename_i hc
      simp only [not_or, Int.not_lt, Decidable.not_not] at hc
      cases hx : ctxA top g op n m with
      | none => simp
      | some g' =>
        have := validAL_spec top g' l (left - 1) deep (by omega) (by omega)
        simp only [Bool.and_eq_true, decide_eq_true_eq]
        refine ⟨this.1.trans ⟨fun ⟨a, b, c⟩ => ⟨by omega, by omega, hc.2.2.2.2, c⟩, fun ⟨a, b, c⟩ => ⟨by omega, by omega, c.2⟩⟩, fun hv => ?_⟩
        rw [this.2 hv]
        omega
theorem validAL_spec (top : Fun) : ∀ (g : Option Fun) (l : List Fm) (left deep : Int), 0 ≤ left → deep ≤ 100 → ((validAL top g l left deep).1 = true ↔ ((Fm.nodesL l : Int) ≤ left ∧ deep + Fm.depthL l ≤ 100 ∧ okAL top g l = true)) ∧ ((validAL top g l left deep).1 = true → (validAL top g l left deep).2 = left - Fm.nodesL l)
  | g, [], left, deep, h, hd => by
    rw [validAL, Fm.nodesL, Fm.depthL, okAL]
    simp
    omega
  | g, f :: r, left, deep, h, hd => by
    rw [validAL, Fm.nodesL, Fm.depthL, okAL]
    have h1 := validA_spec top g f left (deep + 1) h
    simp only [Bool.and_eq_true]
    split
    · rename_i hv
      have h2 := h1.2 hv
      have h3 := h1.1.1 hv
      have h4 := validAL_spec top g r (left - f.nodes) deep (by omega) hd
      rw [h2]
      refine ⟨h4.1.trans ⟨fun ⟨a, b, c⟩ => ⟨by omega, by omega, h3.2.2, c⟩, fun ⟨a, b, c⟩ => ⟨by omega, by omega, c.2⟩⟩, fun hv' => ?_⟩
      rw [h4.2 hv']
      omega
    · rename_i hv
      simp only [Bool.false_eq_true, false_iff, false_implies, and_true]
      rintro ⟨a, b, c, d⟩
      exact hv (h1.1.2 ⟨by omega, by omega, c⟩)
end
def isFm (f : Fun) (a : Fm) : Bool := decide (a.nodes ≤ 2000) && decide (a.depth ≤ 100) && okA f none a
theorem valid_isFm (f : Fun) (a : Fm) : (validA f none a 2000 1).1 = isFm f a := by
  rw [Bool.eq_iff_iff, (validA_spec f none a 2000 1 (by omega)).1, isFm]
  simp only [Bool.and_eq_true, decide_eq_true_eq]
  constructor
  · rintro ⟨a, b, c⟩; exact ⟨⟨by omega, by omega⟩, c⟩
  · rintro ⟨⟨a, b⟩, c⟩; exact ⟨by omega, by omega, c⟩
set_option maxHeartbeats 1000000 in
theorem ev_leftA (N : Nat) : ∀ (f : Fm), f.nodes ≤ N → ∀ (most : Int) (m : Mem), -1000000000 ≤ most → most ≤ 1000000000 → evCall C0 33 [.agg f.cells, .int .i64 most] m = some (.ret (.int .i64 (leftA f most)), m) := by
  induction N with
  | zero => intro f hN; have := f.nodes_pos; omega
  | succ N ih =>
  intro f hN most m h1 h2
  rw [evCall_body C0 (C0_ext _ (by decide)) (by rw [C0_P]; exact Tryz.func33) rfl (by rw [C0_ann]; rfl) (by rw [C0_ann]; rfl) (by decide) (by simp [Tryz.f33])]
  have w1 : IntKind.i64.wrap (most - 1) = most - 1 := wrap_id _ (by omega)
  simp [Tryz.f33, a33, reg33, loop33, w1]
  refine loop_in (fun x : Nat × Int => ⟨[(1, .int .i64 x.2), (2, .ptr m.bx.length 0), (5, .int .i64 x.1)], ⟨m.bx ++ [f.cells], m.rw⟩⟩)
    (fun x => some (.ret (.int .i64 (max (leftAL (f.args.drop x.1) x.2) 0)), m)) (fun x => f.args.length - x.1) (fun x => x.1 ≤ f.args.length ∧ x.2 ≤ 1000000000 - x.1 ∧ -1000000001 ≤ x.2) (0, most - 1) ?_ ?_ ?_ ?_ ?_
  · simp
  · simp [leftA_eq]
  · simp; omega
  · intro x; simp [Tryz.f33, a33, reg33, loop33]
  · rintro ⟨i, q⟩ hI hrec
    simp only at hI
    obtain ⟨hi, hq1, hq2⟩ := hI
    by_cases hlt : i < f.args.length
    · by_cases hq : 0 < q
      · have w2 : IntKind.i64.wrap (i + 1) = i + 1 := wrap_id _ (by omega)
        have he := ih f.args[i] (by have := Fm.nodes_arg (List.getElem_mem hlt); omega) q
        simp at he
        have hle := leftA_le f.args[i] q
        clear ih
        have h3 : (i + 1) * 4 ≤ f.args.length * 4 := by omega
        simp [round, Tryz.f33, a33, reg33, loop33, hlt, hq, w2, h3, he _ (show -1000000000 ≤ q by omega) (show q ≤ 1000000000 by omega)]
        refine hrec (i + 1, leftA f.args[i] q) _ _ ?_ ?_ ?_ ?_
        · simp; omega
        · simp; omega
        · simp
        · simp only
          rw [leftAL_drop hlt, if_pos hq]
      · clear hrec ih
        simp [round, Tryz.f33, a33, reg33, loop33, hlt, hq]
        rw [leftAL_drop hlt, if_neg hq]
    · clear hrec ih
      simp [round, Tryz.f33, a33, reg33, loop33, hlt]
      rw [List.drop_eq_nil_of_le (by omega), leftAL]
theorem ev_FewA (f : Fm) (most : Int) (m : Mem) (h1 : -100000000 ≤ most) (h2 : most ≤ 100000000) : evCall C0 8 [.agg f.cells, .int .i64 most] m = some (.ret (.bool (decide (0 < leftA f (most + 1)))), m) := by
  rw [evCall_body C0 (C0_ext _ (by decide)) (by rw [C0_P]; exact Tryz.func8) rfl (by rw [C0_ann]; rfl) (by rw [C0_ann]; rfl) (by decide) (by simp [Tryz.f8])]
  have w1 : IntKind.i64.wrap (most + 1) = most + 1 := wrap_id _ (by omega)
  have he := ev_leftA f.nodes f (Nat.le_refl _) (most + 1)
  simp at he
  simp [Tryz.f8, a8, reg8, w1, he _ (show -1000000000 ≤ most + 1 by omega) (show most + 1 ≤ 1000000000 by omega)]
theorem ev_RPart (f : Fun) (op : Int) (h : (if op = 7 ∨ op = 9 then 1 else 0) < f.args.length) (m : Mem) : evCall C0 127 [.agg f.cells, .int .i64 op] m = some (.ret (.agg (partA f op).cells), m) := by
  rw [evCall_body C0 (C0_ext _ (by decide)) (by rw [C0_P]; exact Tryz.func127) rfl (by rw [C0_ann]; rfl) (by rw [C0_ann]; rfl) (by decide) (by simp [Tryz.f127])]
  unfold partA
  by_cases h7 : op = 7
  · subst h7
    simp at h
    have h3 : 6 ≤ f.args.length * 3 := by omega
    have h' : (1 : Int) < f.args.length := by omega
    have hat := Fun.at_cellsL f.args 1 h
    have hg : f.args.getD 1 f = f.args[1] := by simp [h]
    simp at hat
    simp [Tryz.f127, a127, reg127, h, h', h3, hat, hg]
  by_cases h9 : op = 9
  · subst h9
    simp at h
    have h3 : 6 ≤ f.args.length * 3 := by omega
    have h' : (1 : Int) < f.args.length := by omega
    have hat := Fun.at_cellsL f.args 1 h
    have hg : f.args.getD 1 f = f.args[1] := by simp [h]
    simp at hat
    simp [Tryz.f127, a127, reg127, h, h', h3, hat, hg]
  · have hn : ¬ (op = 7 ∨ op = 9) := by omega
    rw [if_neg hn] at h ⊢
    have h3 : 3 ≤ f.args.length * 3 := by omega
    have hat := Fun.at_cellsL f.args 0 h
    have hg : f.args.getD 0 f = f.args[0] := by simp [h]
    simp at hat
    simp [Tryz.f127, a127, reg127, h7, h9, h, h3, hat, hg]
theorem okA_state (top : Fun) (a : Fm) : okA top none a = (decide ((a.args.length : Int) = arityA a.op) && (decide (a.num = 0) && decide (a.mun = 0)) && (if a.op = 3 then okAL top (some top) a.args else okAL top none a.args && (decide (a.op = 0) || decide (a.op = 1) || decide (a.op = 2)))) := by
  rw [okA_eq]
  by_cases h : (a.args.length : Int) = arityA a.op
  case neg => simp [h]
  obtain ⟨o0, o1⟩ := arityA_op (op := a.op) (by omega)
  unfold ctxA
  by_cases c1 : a.num = 0 ∧ a.mun = 0
  · rw [if_pos c1, if_pos (⟨c1.1, c1.2, rfl⟩ : a.num = 0 ∧ a.mun = 0 ∧ (none : Option Fun).isNone = true)]
    by_cases h2 : a.op ≤ 2
    · have h3 : ¬ a.op = 3 := by omega
      have h4 : (decide (a.op = 0) || decide (a.op = 1) || decide (a.op = 2)) = true := by simp; omega
      simp [h, h2, h3, c1.1, c1.2]
      omega
    · by_cases h3 : a.op = 3
      · simp [h, h3, c1.1, c1.2]
      · have h0 : ¬ a.op = 0 := by omega
        have h1 : ¬ a.op = 1 := by omega
        have h22 : ¬ a.op = 2 := by omega
        simp [h, h2, h3, c1.1, c1.2, h0, h1, h22]
  · rw [if_neg c1, if_neg (fun q : a.num = 0 ∧ a.mun = 0 ∧ (none : Option Fun).isNone = true => c1 ⟨q.1, q.2.1⟩)]
    have hd : (decide (a.num = 0) && decide (a.mun = 0)) = false := by
      simp only [Bool.and_eq_false_iff, decide_eq_false_iff_not]
      by_cases hn : a.num = 0
      · right; exact fun hm => c1 ⟨hn, hm⟩
      · left; exact hn
    rw [hd]
    by_cases h2 : a.op ≤ 2
    · simp [h2]
    · by_cases h3 : a.op = 3
      · simp [h3]
      · simp [h2, h3]
theorem okA_value (top g : Fun) (hg : 0 ≤ g.kind) (a : Fm) : okA top (some g) a = (decide ((a.args.length : Int) = arityA a.op) && numsA g a.op a.num a.mun && (if a.op = 0 ∨ a.op = 1 ∨ a.op = 2 then okAL top (some g) a.args else if kindO a.op = g.kind then (if a.op = 4 then okAL top none a.args else if a.op = 5 then true else okAL top (some (partA g a.op)) a.args) else false)) := by
  rw [okA_eq]
  by_cases h : (a.args.length : Int) = arityA a.op
  case neg => simp [h]
  obtain ⟨o0, o1⟩ := arityA_op (op := a.op) (by omega)
  by_cases h2 : a.op ≤ 2
  · have hn : numsA g a.op a.num a.mun = (decide (a.num = 0) && decide (a.mun = 0)) := by
      unfold numsA
      rw [if_neg (by omega), if_neg (by omega), if_neg (by omega)]
    have hc : a.op = 0 ∨ a.op = 1 ∨ a.op = 2 := by omega
    rw [hn, if_pos hc]
    unfold ctxA
    rw [if_pos h2]
    by_cases c1 : a.num = 0
    · by_cases c2 : a.mun = 0 <;> simp [h, c1, c2]
    · simp [c1]
  · have hc : ¬ (a.op = 0 ∨ a.op = 1 ∨ a.op = 2) := by omega
    rw [if_neg hc]
    unfold ctxA
    rw [if_neg h2]
    by_cases h3 : a.op = 3
    · have hk : ¬ kindO 3 = g.kind := by
        rw [show kindO 3 = -1 from rfl]; omega
      simp [h3, hk]
    rw [if_neg h3]
    dsimp only
    by_cases hk : kindO a.op = g.kind
    · rw [if_pos hk]
      cases hnm : numsA g a.op a.num a.mun
      · simp [hk, hnm]
      · rw [if_pos (⟨hk.symm, rfl⟩ : g.kind = kindO a.op ∧ true = true)]
        by_cases h4 : a.op = 4
        · simp [h, h4]
        · by_cases h5 : a.op = 5
          · have hl : a.args = [] := by
              rw [h5, show arityA 5 = 0 from rfl] at h
              exact List.eq_nil_of_length_eq_zero (by omega)
            simp [h5, hl, okAL]
            try rfl
          · simp [h, h4, h5]
    · rw [if_neg hk, if_neg (fun q : g.kind = kindO a.op ∧ numsA g a.op a.num a.mun = true => hk q.1.symm)]
      simp
theorem part_lt {g : Fun} {op : Int} (hg : shapedF g = true) (h0 : 6 ≤ op) (h1 : op ≤ 13) (hk : kindO op = g.kind) : (if op = 7 ∨ op = 9 then 1 else 0) < g.args.length := by
  have hs := shaped_kind hg
  have h : op = 6 ∨ op = 7 ∨ op = 8 ∨ op = 9 ∨ op = 10 ∨ op = 11 ∨ op = 12 ∨ op = 13 := by omega
  rcases h with rfl | rfl | rfl | rfl | rfl | rfl | rfl | rfl
  · have : g.kind = 2 := hk.symm
    simp; omega
  · have : g.kind = 2 := hk.symm
    simp; omega
  · have : g.kind = 3 := hk.symm
    simp; omega
  · have : g.kind = 3 := hk.symm
    simp; omega
  · have : g.kind = 4 := hk.symm
    simp; omega
  · have : g.kind = 5 := hk.symm
    simp; omega
  · have : g.kind = 6 := hk.symm
    simp; omega
  · have : g.kind = 7 := hk.symm
    simp; omega
theorem part_shaped {g : Fun} {op : Int} (hg : shapedF g = true) (h : (if op = 7 ∨ op = 9 then 1 else 0) < g.args.length) : shapedF (partA g op) = true := by
  unfold partA
  generalize (if op = 7 ∨ op = 9 then 1 else 0) = i at h
  have : g.args.getD i g = g.args[i] := by simp [h]
  rw [this]
  exact shaped_arg hg h
theorem one_arg {a : Fm} (h : (a.args.length : Int) = arityA a.op) (h0 : ¬ a.op = 0) (h5 : ¬ a.op = 5) (h2 : ¬ a.op = 2) : ∃ b, a.args = [b] := by
  obtain ⟨o0, o1⟩ := arityA_op (op := a.op) (by omega)
  have : arityA a.op = 1 := by
    unfold arityA
    rw [if_neg h0, if_neg h5, if_neg h2, if_pos ⟨o0, o1⟩]
  rw [this] at h
  exact List.length_eq_one_iff.1 (by omega)
def sumT (p : Val → Bool) (l : List Val) (ws : List Int) : Int := ((l.zip ws).map fun x => if p x.1 then x.2 else 0).sum
def val0 : Val := .mk 0 [] []
mutual
def setA (f : Fun) (vs : List Val) (a : Fm) : List Bool :=
  match h : a.args with
  | [] => List.replicate vs.length true
  | [b] => if a.op = 3 then vs.map (fun v => truA f vs f b v) else (setA f vs b).map (fun x => !x)
  | b :: c :: _ => List.zipWith (fun x y => x && y) (setA f vs b) (setA f vs c)
termination_by a.nodes
decreasing_by all_goals exact Fm.nodes_arg (by rw [h]; simp)
def truA (f : Fun) (vs : List Val) (g : Fun) (a : Fm) (v : Val) : Bool :=
  match h : a.args with
  | [] => if a.op = 5 then decide (v.num = a.num) else true
  | [b] => if a.op = 1 then !(truA f vs g b v) else if a.op = 4 then (setA f vs b).getD v.num.toNat false
    else if a.op = 6 ∨ a.op = 7 then truA f vs (partA g a.op) b (v.args.getD (a.op - 6).toNat val0)
    else if a.op = 8 ∨ a.op = 9 then decide (v.num = a.op - 8) && truA f vs (partA g a.op) b (v.args.getD 0 val0)
    else if a.op = 10 then truA f vs (partA g a.op) b (v.args.getD a.num.toNat val0)
    else if a.op = 11 then v.args.any fun u => truA f vs (partA g a.op) b u
    else if a.op = 12 then decide (a.num ≤ sumT (fun u => truA f vs (partA g a.op) b u) v.args v.ws)
    else decide (a.num * v.ws.sum ≤ sumT (fun u => truA f vs (partA g a.op) b u) v.args v.ws * a.mun)
  | b :: c :: _ => truA f vs g b v && truA f vs g c v
termination_by a.nodes
decreasing_by all_goals exact Fm.nodes_arg (by rw [h]; simp)
end
theorem setA_0 (f : Fun) (vs : List Val) {a : Fm} (h : a.args = []) : setA f vs a = List.replicate vs.length true := by
  rw [setA]
  split
  · rfl
  · rename_i h1; rw [h] at h1; cases h1
  · rename_i h1; rw [h] at h1; cases h1
theorem setA_1 (f : Fun) (vs : List Val) {a b : Fm} (h : a.args = [b]) : setA f vs a = if a.op = 3 then vs.map (fun v => truA f vs f b v) else (setA f vs b).map (fun x => !x) := by
  rw [setA]
  split
  · rename_i h1; rw [h] at h1; cases h1
  · rename_i h1; rw [h] at h1; cases h1; rfl
  · rename_i h1; rw [h] at h1; cases h1
theorem setA_2 (f : Fun) (vs : List Val) {a b c : Fm} (h : a.args = [b, c]) : setA f vs a = List.zipWith (fun x y => x && y) (setA f vs b) (setA f vs c) := by
  rw [setA]
  split
  · rename_i h1; rw [h] at h1; cases h1
  · rename_i h1; rw [h] at h1; cases h1
  · rename_i h1; rw [h] at h1; cases h1; rfl
theorem truA_0 (f : Fun) (vs : List Val) (g : Fun) {a : Fm} (v : Val) (h : a.args = []) : truA f vs g a v = if a.op = 5 then decide (v.num = a.num) else true := by
  rw [truA]
  split
  · rfl
  · rename_i h1; rw [h] at h1; cases h1
  · rename_i h1; rw [h] at h1; cases h1
theorem truA_1 (f : Fun) (vs : List Val) (g : Fun) {a b : Fm} (v : Val) (h : a.args = [b]) : truA f vs g a v = if a.op = 1 then !(truA f vs g b v) else if a.op = 4 then (setA f vs b).getD v.num.toNat false
    else if a.op = 6 ∨ a.op = 7 then truA f vs (partA g a.op) b (v.args.getD (a.op - 6).toNat val0)
    else if a.op = 8 ∨ a.op = 9 then decide (v.num = a.op - 8) && truA f vs (partA g a.op) b (v.args.getD 0 val0)
    else if a.op = 10 then truA f vs (partA g a.op) b (v.args.getD a.num.toNat val0)
    else if a.op = 11 then v.args.any fun u => truA f vs (partA g a.op) b u
    else if a.op = 12 then decide (a.num ≤ sumT (fun u => truA f vs (partA g a.op) b u) v.args v.ws)
    else decide (a.num * v.ws.sum ≤ sumT (fun u => truA f vs (partA g a.op) b u) v.args v.ws * a.mun) := by
  rw [truA]
  split
  · rename_i h1; rw [h] at h1; cases h1
  · rename_i h1; rw [h] at h1; cases h1; rfl
  · rename_i h1; rw [h] at h1; cases h1
theorem truA_2 (f : Fun) (vs : List Val) (g : Fun) {a b c : Fm} (v : Val) (h : a.args = [b, c]) : truA f vs g a v = (truA f vs g b v && truA f vs g c v) := by
  rw [truA]
  split
  · rename_i h1; rw [h] at h1; cases h1
  · rename_i h1; rw [h] at h1; cases h1
  · rename_i h1; rw [h] at h1; cases h1; rfl
theorem setA_len (f : Fun) (vs : List Val) (N : Nat) : ∀ a : Fm, a.nodes ≤ N → (setA f vs a).length = vs.length := by
  induction N with
  | zero => intro a hN; have := a.nodes_pos; omega
  | succ N ih =>
  intro a hN
  rw [setA]
  split
  · simp
  · rename_i b h
    have := ih b (by have := Fm.nodes_arg (f := a) (g := b) (by rw [h]; simp); omega)
    split
    · simp
    · simpa using this
  · rename_i b c r h
    have h1 := ih b (by have := Fm.nodes_arg (f := a) (g := b) (by rw [h]; simp); omega)
    have h2 := ih c (by have := Fm.nodes_arg (f := a) (g := c) (by rw [h]; simp); omega)
    simp [h1, h2]
theorem okV_split {n : Int} {v : Val} {g : Fun} (h : okV exL n v g = true) : headL n g v.num v.args.length v.ws = true ∧ ∀ j (hj : j < v.args.length), okV exL n v.args[j] (argF g v.num j) = true := by
  rw [okV_eq, Bool.and_eq_true, Bool.and_eq_true] at h
  refine ⟨h.1.1, fun j hj => ?_⟩
  have := okL_mem h.2 j hj
  rwa [Nat.zero_add] at this
theorem head_facts {n : Int} {g : Fun} {k : Int} {m : Nat} {w : List Int} (h : headL n g k m w = true) :
    (g.kind = 0 → 0 ≤ k ∧ k < n) ∧ (g.kind = 2 → g.args.length = m) ∧ (g.kind = 3 → 0 ≤ k ∧ k ≤ 1 ∧ m = 1) ∧ (g.kind = 4 → g.num = m) ∧ (wtd g.kind = true → w.length = m ∧ (∀ x, x ∈ w → 1 ≤ x) ∧ w.sum ≤ 1048576) := by
  unfold headL at h
  simp only [Bool.and_eq_true] at h
  obtain ⟨⟨h1, h2⟩, h3⟩ := h
  refine ⟨fun e => ?_, fun e => ?_, fun e => ?_, fun e => ?_, fun e => ?_⟩
  · simp only [decide_eq_true_eq] at h2
    rw [if_pos e] at h2
    omega
  · rw [if_neg (by omega), if_pos e] at h1
    exact of_decide_eq_true h1
  · rw [if_neg (by omega), if_neg (by omega), if_pos e] at h1
    have := of_decide_eq_true h1
    omega
  · rw [if_neg (by omega), if_neg (by omega), if_neg (by omega), if_pos e] at h1
    exact of_decide_eq_true h1
  · rw [if_pos e] at h3
    simp only [Bool.and_eq_true, decide_eq_true_eq] at h3
    have := (weighI_iff w 0 (by omega)).1 h3.1.1
    exact ⟨h3.1.2, this.1, by omega⟩
theorem part_arg {g : Fun} {op N : Int} {i : Nat} (hg : shapedF g = true) (hk : kindO op = g.kind) (h6 : 6 ≤ op) (h13 : op ≤ 13) (hi : (op = 6 → i = 0) ∧ (op = 7 → i = 1) ∧ (op = 8 → N = 0) ∧ (op = 9 → N = 1)) : argF g N i = partA g op := by
  have hlt := part_lt hg h6 h13 hk
  have hs := shaped_kind hg
  have h : op = 6 ∨ op = 7 ∨ op = 8 ∨ op = 9 ∨ op = 10 ∨ op = 11 ∨ op = 12 ∨ op = 13 := by omega
  unfold argF partA
  rcases h with rfl | rfl | rfl | rfl | rfl | rfl | rfl | rfl
  · have hk' : g.kind = 2 := hk.symm
    obtain rfl := hi.1 rfl
    simp at hlt
    simp [hk', hlt]
  · have hk' : g.kind = 2 := hk.symm
    obtain rfl := hi.2.1 rfl
    simp at hlt
    simp [hk', hlt]
  · have hk' : g.kind = 3 := hk.symm
    obtain rfl := hi.2.2.1 rfl
    simp at hlt
    simp [hk', hlt]
  · have hk' : g.kind = 3 := hk.symm
    obtain rfl := hi.2.2.2 rfl
    simp at hlt
    simp [hk', hlt]
  · have hk' : g.kind = 4 := hk.symm
    simp at hlt
    simp [hk', hlt]
  · have hk' : g.kind = 5 := hk.symm
    simp at hlt
    simp [hk', hlt]
  · have hk' : g.kind = 6 := hk.symm
    simp at hlt
    simp [hk', hlt]
  · have hk' : g.kind = 7 := hk.symm
    simp at hlt
    simp [hk', hlt]
theorem sumT_nil (p : Val → Bool) (ws : List Int) : sumT p [] ws = 0 := rfl
theorem sumT_drop {p : Val → Bool} {l : List Val} {ws : List Int} {i : Nat} (h : i < l.length) (h' : i < ws.length) : sumT p (l.drop i) (ws.drop i) = (if p l[i] then ws[i] else 0) + sumT p (l.drop (i + 1)) (ws.drop (i + 1)) := by
  unfold sumT
  rw [List.drop_eq_getElem_cons h, List.drop_eq_getElem_cons h', List.zip_cons_cons, List.map_cons, List.sum_cons]
theorem sum_drop {ws : List Int} {i : Nat} (h : i < ws.length) : (ws.drop i).sum = ws[i] + (ws.drop (i + 1)).sum := by
  rw [List.drop_eq_getElem_cons h, List.sum_cons]
theorem sumT_bound (p : Val → Bool) : ∀ (l : List Val) (ws : List Int), (∀ x, x ∈ ws → 1 ≤ x) → 0 ≤ sumT p l ws ∧ sumT p l ws ≤ ws.sum
  | [], ws, h => by
    have : ∀ ws : List Int, (∀ x, x ∈ ws → 1 ≤ x) → 0 ≤ ws.sum := by
      intro ws
      induction ws with
      | nil => intro _; simp
      | cons a t ih => intro hh; rw [List.sum_cons]; have := hh a List.mem_cons_self; have := ih fun x hx => hh x (List.mem_cons_of_mem _ hx); omega
    rw [sumT_nil]
    exact ⟨Int.le_refl _, this ws h⟩
  | v :: l, [], h => by simp [sumT]
  | v :: l, w :: ws, h => by
    have ih := sumT_bound p l ws fun x hx => h x (List.mem_cons_of_mem _ hx)
    have hw := h w List.mem_cons_self
    have e : sumT p (v :: l) (w :: ws) = (if p v then w else 0) + sumT p l ws := by simp [sumT]
    rw [e, List.sum_cons]
    split <;> omega
section
variable (C : Cfg) (f nt : Nat) (all rest : List Oper) (d : Option Tmp) (tm : List (Nat × A)) (m : Mem)
@[simp] theorem opD_makeSlice (t : TypeId) (l c : Operand) : opD C f nt all rest d (.makeSlice t l c) ⟨tm, m⟩ = stepD C f nt all rest d .eff m tm (makeSliceA C.P t (opd C.gl tm l) (opd C.gl tm c) m) := _root_.id rfl
end
@[simp] theorem makeSliceA_eq (P : Program) (t : TypeId) (k k' : IntKind) (l c : Int) (m : Mem) : makeSliceA P t (.int k l) (.int k' c) m = (elemT P t).bind fun e => (zeroOf P e).bind fun z => (bytesOf P e).bind fun by_ =>
    if l = c ∧ 0 ≤ l ∧ l * by_ ≤ 70368744177664 ∧ l ≤ 70368744177664 ∧ z.length = szOf P e ∧ 0 < szOf P e then
      some (.sl m.rw.length (l.toNat * szOf P e) 0 l.toNat, { m with rw := m.rw ++ [⟨e, (List.replicate l.toNat z).flatten⟩] })
    else none := _root_.id rfl
def boolsL (bs : List Bool) : List A := bs.map .bool
@[simp] theorem boolsL_length (bs : List Bool) : (boolsL bs).length = bs.length := by simp [boolsL]
theorem boolsL_at {bs : List Bool} {k : Nat} (h : k < bs.length) : ((boolsL bs).drop k).take 1 = [.bool bs[k]] := by
  unfold boolsL
  rw [← List.map_drop, ← List.map_take, List.drop_eq_getElem_cons h]
  rfl
theorem boolsL_set {bs : List Bool} {k : Nat} (h : k < bs.length) (b : Bool) : (boolsL bs).take k ++ .bool b :: (boolsL bs).drop (k + 1) = boolsL (bs.set k b) := by
  unfold boolsL
  rw [List.map_set, List.set_eq_take_append_cons_drop, if_pos (by simpa using h)]
@[simp] theorem boolsL_closed (nb nr : Nat) : ∀ bs : List Bool, (boolsL bs).all (closed nb nr) = true
  | [] => rfl
  | x :: r => by rw [show boolsL (x :: r) = .bool x :: boolsL r from rfl, List.all_cons, boolsL_closed nb nr r]; rfl
@[simp] theorem boolsL_er (nb nr : Nat) (g) : ∀ bs : List Bool, (boolsL bs).map (er1 nb nr g) = boolsL bs
  | [] => rfl
  | x :: r => by rw [show boolsL (x :: r) = .bool x :: boolsL r from rfl, List.map_cons, boolsL_er nb nr g r]; rfl
@[simp] theorem boolsL_flat : ∀ bs : List Bool, (boolsL bs).all flat = true
  | [] => rfl
  | x :: r => by rw [show boolsL (x :: r) = .bool x :: boolsL r from rfl, List.all_cons, boolsL_flat r]; rfl
theorem boolsL_rep (n : Nat) : List.replicate n (A.bool false) = boolsL (List.replicate n false) := by simp [boolsL]
theorem take_boolsL (bs : List Bool) {n : Nat} (h : bs.length = n) : (boolsL bs).take n = boolsL bs := List.take_of_length_le (by simp [h])
section
variable (f : Fun) (vs : List Val)
def TrOk (a : Fm) : Prop := ∀ g, shapedF g = true → okA f (some g) a = true → ∀ v, okV exL vs.length v g = true → v.nodes ≤ 1000000 → ∀ m, evCall C0 91 [.agg (sysX f (.isl false vs.length (Val.cellsL vs))), .agg g.cells, .agg a.cells, .agg v.cells] m = some (.ret (.bool (truA f vs g a v)), m)
def SeOk (a : Fm) : Prop := okA f none a = true → ∀ m, evCall C0 54 [.agg (sysX f (.isl false vs.length (Val.cellsL vs))), .agg a.cells] m = some (.ret (.isl false vs.length (boolsL (setA f vs a))), m)
set_option maxHeartbeats 8000000 in
theorem ev_truth1 (a : Fm) (hb : a.nodes ≤ 1000000) (H : ∀ b, b ∈ a.args → TrOk f vs b ∧ SeOk f vs b) (hn : vs.length ≤ 1000000) : TrOk f vs a := by
  intro g hg hok v hv hvn m
  have hkg := shaped_kind hg
  rw [okA_value f g (by omega)] at hok
  simp only [Bool.and_eq_true, decide_eq_true_eq] at hok
  obtain ⟨⟨c1, c2⟩, c3⟩ := hok
  obtain ⟨o0, o1⟩ := arityA_op (op := a.op) (by omega)
  obtain ⟨hh, hargs⟩ := okV_split hv
  obtain ⟨f0, f2, f3, f4, fw⟩ := head_facts hh
  have hvl := v.length_args
  rw [evCall_body C0 (C0_ext _ (by decide)) (by rw [C0_P]; exact Tryz.func91) rfl (by rw [C0_ann]; rfl) (by rw [C0_ann]; rfl) (by decide) (by simp [Tryz.f91])]
  have h : a.op = 0 ∨ a.op = 1 ∨ a.op = 2 ∨ a.op = 3 ∨ a.op = 4 ∨ a.op = 5 ∨ 6 ≤ a.op := by omega
  rcases h with h | h | h | h | h | h | h
  · -- top
    have ha : a.args = [] := List.eq_nil_of_length_eq_zero (by rw [h, show arityA 0 = 0 from rfl] at c1; omega)
    rw [truA_0 f vs g v ha]
    simp [Tryz.f91, a91, reg91, loop91, draw91, dok91, h]
  · -- not
    obtain ⟨b, hb1⟩ := one_arg c1 (by omega) (by omega) (by omega)
    rw [if_pos (by omega), hb1, okAL_one] at c3
    have he := (H b (by rw [hb1]; simp)).1 g hg c3 v hv hvn
    rw [truA_1 f vs g v hb1, if_pos h]
    simp at he
    simp [Tryz.f91, a91, reg91, loop91, draw91, dok91, h, hb1, Fm.cellsL, he]
  · -- and
    have hl2 : a.args.length = 2 := by rw [h, show arityA 2 = 2 from rfl] at c1; omega
    obtain ⟨b, c, hb1⟩ : ∃ b c, a.args = [b, c] := by
      match a.args, hl2 with
      | [b, c], _ => exact ⟨b, c, rfl⟩
    rw [if_pos (by omega), hb1, okAL, okAL, okAL, Bool.and_true, Bool.and_eq_true] at c3
    have he := (H b (by rw [hb1]; simp)).1 g hg c3.1 v hv hvn
    have he2 := (H c (by rw [hb1]; simp)).1 g hg c3.2 v hv hvn
    rw [truA_2 f vs g v hb1]
    simp at he he2
    cases ht : truA f vs g b v
    · simp [ht] at he
      simp [Tryz.f91, a91, reg91, loop91, draw91, dok91, h, hb1, Fm.cellsL, he]
    · simp [ht] at he
      simp [Tryz.f91, a91, reg91, loop91, draw91, dok91, h, hb1, Fm.cellsL, he, he2]
  · -- step: not for values
    rw [if_neg (by omega)] at c3
    split at c3
    · rename_i hk
      rw [h, show kindO 3 = -1 from rfl] at hk
      omega
    · cases c3
  · -- at
    obtain ⟨b, hb1⟩ := one_arg c1 (by omega) (by omega) (by omega)
    rw [if_neg (by omega)] at c3
    split at c3
    case isFalse => cases c3
    rename_i hk
    try rw [if_pos h] at c3
    rw [hb1, okAL_one] at c3
    have he := (H b (by rw [hb1]; simp)).2 c3
    rw [h, show kindO 4 = 0 from rfl] at hk
    obtain ⟨q0, q1⟩ := f0 hk.symm
    obtain ⟨x, hx⟩ : ∃ x : Nat, v.num = x := ⟨v.num.toNat, by omega⟩
    have hxl : x < vs.length := by omega
    have hxs : x < (setA f vs b).length := by rw [setA_len f vs b.nodes b (Nat.le_refl _)]; exact hxl
    have hx1 : x + 1 ≤ vs.length := by omega
    have hat := boolsL_at hxs
    rw [truA_1 f vs g v hb1, if_neg (by omega), if_pos h, hx, Int.toNat_natCast]
    have hgd : (setA f vs b).getD x false = (setA f vs b)[x] := by simp [List.getD_eq_getElem?_getD, hxs]
    rw [hgd]
    simp at he
    simp [Tryz.f91, a91, reg91, loop91, draw91, dok91, h, hb1, Fm.cellsL, he, hx, hxl, hx1, hat, setA_len f vs b.nodes b (Nat.le_refl _)]
  · -- is
    have ha : a.args = [] := List.eq_nil_of_length_eq_zero (by rw [h, show arityA 5 = 0 from rfl] at c1; omega)
    rw [truA_0 f vs g v ha, if_pos h]
    simp [Tryz.f91, a91, reg91, loop91, draw91, dok91, h]
  obtain ⟨b, hb1⟩ := one_arg c1 (by omega) (by omega) (by omega)
  rw [if_neg (by omega)] at c3
  split at c3
  case isFalse => cases c3
  rename_i hk
  rw [if_neg (by omega), if_neg (by omega), hb1, okAL_one] at c3
  have hlt := part_lt hg h o1 hk
  have hps := part_shaped hg hlt
  have hp := ev_RPart g a.op hlt
  have hT := (H b (by rw [hb1]; simp)).1 (partA g a.op) hps c3
  have n0 : ¬ a.op = 0 := by omega
  have n1 : ¬ a.op = 1 := by omega
  have n2 : ¬ a.op = 2 := by omega
  have n4 : ¬ a.op = 4 := by omega
  have n5 : ¬ a.op = 5 := by omega
  rw [truA_1 f vs g v hb1, if_neg n1, if_neg n4]
  simp at hp
  by_cases h67 : a.op = 6 ∨ a.op = 7
  · -- first, second
    rw [if_pos h67]
    have hk2 : g.kind = 2 := by
      rcases h67 with e | e
      · rw [e, show kindO 6 = 2 from rfl] at hk; exact hk.symm
      · rw [e, show kindO 7 = 2 from rfl] at hk; exact hk.symm
    have hal : v.args.length = 2 := by
      have := f2 hk2
      have := hkg
      omega
    obtain ⟨i, hi⟩ : ∃ i : Nat, a.op = 6 + i := ⟨(a.op - 6).toNat, by omega⟩
    have hil : i < v.args.length := by omega
    have hi2 : i < 2 := by omega
    have hpa := part_arg (N := v.num) (i := i) hg hk h o1 ⟨fun e => by omega, fun e => by omega, fun e => by omega, fun e => by omega⟩
    have hu := hargs i hil
    rw [hpa] at hu
    have hun := Val.nodes_arg (List.getElem_mem hil)
    have he := hT v.args[i] hu (by omega)
    have w : IntKind.i64.wrap (a.op - 6) = (i : Int) := by rw [show a.op - 6 = (i : Int) by omega]; exact wrap_id _ (by omega)
    have h3 : (i + 1) * 3 ≤ v.args.length * 3 := by omega
    have hgd : v.args.getD (a.op - 6).toNat val0 = v.args[i] := by
      rw [show (a.op - 6).toNat = i by omega]; simp [List.getD_eq_getElem?_getD, hil]
    rw [hgd]
    simp at he
    have hat := Val.at_cellsL v.args i hil
    rcases h67 with e | e
    · obtain rfl : i = 0 := by omega
      rw [e] at hp he w ⊢
      simp at hat
      simp [Tryz.f91, a91, reg91, loop91, draw91, dok91, e, hb1, Fm.cellsL, hp, he, hal, hat]
    · obtain rfl : i = 1 := by omega
      rw [e] at hp he w ⊢
      simp at hat
      simp at w
      simp [Tryz.f91, a91, reg91, loop91, draw91, dok91, e, hb1, Fm.cellsL, hp, he, w, hal, hat]
  rw [if_neg h67]
  have n6 : ¬ a.op = 6 := fun e => h67 (.inl e)
  have n7 : ¬ a.op = 7 := fun e => h67 (.inr e)
  by_cases h89 : a.op = 8 ∨ a.op = 9
  · -- left, right
    rw [if_pos h89]
    have hk3 : g.kind = 3 := by
      rcases h89 with e | e
      · rw [e, show kindO 8 = 3 from rfl] at hk; exact hk.symm
      · rw [e, show kindO 9 = 3 from rfl] at hk; exact hk.symm
    obtain ⟨q0, q1, q2⟩ := f3 hk3
    have w : IntKind.i64.wrap (a.op - 8) = a.op - 8 := wrap_id _ (by omega)
    by_cases hside : v.num = a.op - 8
    · have hpa := part_arg (N := v.num) (i := 0) hg hk h o1 ⟨fun e => by omega, fun e => by omega, fun e => by omega, fun e => by omega⟩
      have hil : 0 < v.args.length := by omega
      have hu := hargs 0 hil
      rw [hpa] at hu
      have hun := Val.nodes_arg (List.getElem_mem hil)
      have he := hT v.args[0] hu (by omega)
      have h3 : 3 ≤ v.args.length * 3 := by omega
      have hat := Val.at_cellsL v.args 0 hil
      have hgd : v.args.getD 0 val0 = v.args[0] := by simp [List.getD_eq_getElem?_getD, hil]
      rw [hgd]
      simp at he hat
      rcases h89 with e | e
      · have hs0 : v.num = 0 := by omega
        rw [e] at hp he w ⊢
        simp [Tryz.f91, a91, reg91, loop91, draw91, dok91, e, hb1, Fm.cellsL, hp, he, hat, hs0, q2]
      · have hs1 : v.num = 1 := by omega
        rw [e] at hp he w ⊢
        simp at w
        simp [Tryz.f91, a91, reg91, loop91, draw91, dok91, e, hb1, Fm.cellsL, hp, he, w, hat, hs1, q2]
    · rcases h89 with e | e
      · have hs0 : ¬ v.num = 0 := by omega
        rw [e] at w ⊢
        simp [Tryz.f91, a91, reg91, loop91, draw91, dok91, e, hb1, Fm.cellsL, hs0]
      · have hs1 : ¬ v.num = 1 := by omega
        rw [e] at w ⊢
        simp at w
        simp [Tryz.f91, a91, reg91, loop91, draw91, dok91, e, hb1, Fm.cellsL, w, hs1]
  rw [if_neg h89]
  have n8 : ¬ a.op = 8 := fun e => h89 (.inl e)
  have n9 : ¬ a.op = 9 := fun e => h89 (.inr e)
  have hga : g.args = [partA g a.op] := by
    have hl1 : g.args.length = 1 := by
      have h' : a.op = 10 ∨ a.op = 11 ∨ a.op = 12 ∨ a.op = 13 := by omega
      rcases h' with e | e | e | e
      · rw [e, show kindO 10 = 4 from rfl] at hk; omega
      · rw [e, show kindO 11 = 5 from rfl] at hk; omega
      · rw [e, show kindO 12 = 6 from rfl] at hk; omega
      · rw [e, show kindO 13 = 7 from rfl] at hk; omega
    obtain ⟨x, hx⟩ := List.length_eq_one_iff.1 hl1
    unfold partA
    rw [if_neg (by omega), hx]
    rfl
  have hpa : ∀ i, argF g v.num i = partA g a.op := fun i => part_arg hg hk h o1 ⟨fun e => by omega, fun e => by omega, fun e => by omega, fun e => by omega⟩
  by_cases h10 : a.op = 10
  · rw [if_pos h10]
    have hk4 : g.kind = 4 := by rw [h10, show kindO 10 = 4 from rfl] at hk; exact hk.symm
    have hal := f4 hk4
    rw [numsA, if_pos (.inr h10)] at c2
    simp only [Bool.and_eq_true, decide_eq_true_eq] at c2
    obtain ⟨i, hi⟩ : ∃ i : Nat, a.num = i := ⟨a.num.toNat, by omega⟩
    have hil : i < v.args.length := by omega
    have hu := hargs i hil
    rw [hpa] at hu
    have hun := Val.nodes_arg (List.getElem_mem hil)
    have he := hT v.args[i] hu (by omega)
    have h3 : (i + 1) * 3 ≤ v.args.length * 3 := by omega
    have hgd : v.args.getD a.num.toNat val0 = v.args[i] := by
      rw [hi, Int.toNat_natCast]; simp [List.getD_eq_getElem?_getD, hil]
    rw [hgd]
    simp at he
    generalize partA g a.op = pg at *
    simp [Tryz.f91, a91, reg91, loop91, draw91, dok91, h10, hb1, Fm.cellsL, hga, Fun.cellsL, he, hi, hil, h3]
  rw [if_neg h10]
  simp [Tryz.f91, a91, reg91, loop91, draw91, dok91, n0, n1, n2, n4, n5, n6, n7, n8, n9, h10]
  have hwk := ev_Weighted g.kind
  by_cases h11 : a.op = 11
  · rw [if_pos h11]
    have hk5 : g.kind = 5 := by rw [h11, show kindO 11 = 5 from rfl] at hk; exact hk.symm
    rw [hk5, show wtd 5 = false from rfl] at hwk
    refine loop_in (fun x : Nat × Nat × Nat => ⟨[(4, .ptr m.bx.length 0), (5, .ptr (m.bx.length + 1) 0), (6, .ptr (m.bx.length + 2) 0), (7, .ptr (m.bx.length + 3) 0), (9, .int .i64 x.2.1), (10, .int .i64 x.2.2), (132, .isl false v.args.length (Val.cellsL v.args)), (133, .int .i64 v.args.length), (134, .int .i64 x.1)], ⟨m.bx ++ [sysX f (.isl false vs.length (Val.cellsL vs)), g.cells, a.cells, v.cells], m.rw⟩⟩)
      (fun x => some (.ret (.bool (decide (0 < x.2.1) || (v.args.drop x.1).any fun u => truA f vs (partA g a.op) b u)), m)) (fun x => v.args.length - x.1) (fun x => x.1 ≤ v.args.length ∧ x.2.1 ≤ x.1 ∧ x.2.2 ≤ x.1) (0, 0, 0) ?_ ?_ ?_ ?_ ?_
    · simp
    · simp
    · simp
    · intro x; simp [Tryz.f91, a91, reg91, loop91, draw91, dok91]
    · rintro ⟨i, s, t⟩ ⟨hi, hs, ht⟩ hrec
      simp only at hi hs ht
      by_cases hlt' : i < v.args.length
      · have w2 : IntKind.i64.wrap (i + 1) = i + 1 := wrap_id _ (by omega)
        have w3 : IntKind.i64.wrap (t + 1) = t + 1 := wrap_id _ (by omega)
        have w4 : IntKind.i64.wrap (s + 1) = s + 1 := wrap_id _ (by omega)
        have h3 : (i + 1) * 3 ≤ v.args.length * 3 := by omega
        have hu := hargs i hlt'
        rw [hpa] at hu
        have hun := Val.nodes_arg (List.getElem_mem hlt')
        have he := hT v.args[i] hu (by omega)
        rw [List.drop_eq_getElem_cons hlt', List.any_cons]
        generalize hpg : partA g a.op = pg at *
        simp at he
        cases htr : truA f vs pg b v.args[i]
        · simp [htr] at he
          simp [round, Tryz.f91, a91, reg91, loop91, draw91, dok91, hlt', w2, w3, h3, hwk, hk5, hga, Fun.cellsL, hb1, Fm.cellsL, he, endRound_L]
          refine hrec (i + 1, s, t + 1) _ _ ?_ ?_ ?_ ?_
          · simp; omega
          · exact ⟨by simp; omega, by simp; omega, by simp; omega⟩
          · simp [hga, Fun.cellsL, hb1, Fm.cellsL, hk5]
          · simp
        · simp [htr] at he
          simp [round, Tryz.f91, a91, reg91, loop91, draw91, dok91, hlt', w2, w3, w4, h3, hwk, hk5, hga, Fun.cellsL, hb1, Fm.cellsL, he, endRound_L]
          refine hrec (i + 1, s + 1, t + 1) _ _ ?_ ?_ ?_ ?_
          · simp; omega
          · exact ⟨by simp; omega, by simp; omega, by simp; omega⟩
          · simp [hga, Fun.cellsL, hb1, Fm.cellsL, hk5]
          · simp
      · clear hrec
        rw [List.drop_eq_nil_of_le (by omega)]
        simp [round, Tryz.f91, a91, reg91, loop91, draw91, dok91, hlt', h11]
  rw [if_neg h11]
  have hk67 : g.kind = 6 ∨ g.kind = 7 := by
    have h' : a.op = 12 ∨ a.op = 13 := by omega
    rcases h' with e | e
    · rw [e, show kindO 12 = 6 from rfl] at hk; exact .inl hk.symm
    · rw [e, show kindO 13 = 7 from rfl] at hk; exact .inr hk.symm
  have hwt : wtd g.kind = true := by unfold wtd; rcases hk67 with e | e <;> simp [e]
  rw [hwt] at hwk
  obtain ⟨w0, w1, w2⟩ := fw hwt
  have hnm : (a.op = 12 → 1 ≤ a.num ∧ a.num ≤ 1048576) ∧ (a.op = 13 → 1 ≤ a.num ∧ a.num ≤ a.mun ∧ a.mun ≤ 1048576) := by
    rw [numsA, if_neg (by omega)] at c2
    refine ⟨fun e => ?_, fun e => ?_⟩
    · rw [if_pos e] at c2
      simp only [Bool.and_eq_true, decide_eq_true_eq] at c2
      omega
    · rw [if_neg (by omega), if_pos e] at c2
      simp only [Bool.and_eq_true, decide_eq_true_eq] at c2
      omega
  refine loop_in (fun x : Nat × Int × Int => ⟨[(4, .ptr m.bx.length 0), (5, .ptr (m.bx.length + 1) 0), (6, .ptr (m.bx.length + 2) 0), (7, .ptr (m.bx.length + 3) 0), (9, .int .i64 x.2.1), (10, .int .i64 x.2.2), (132, .isl false v.args.length (Val.cellsL v.args)), (133, .int .i64 v.args.length), (134, .int .i64 x.1)], ⟨m.bx ++ [sysX f (.isl false vs.length (Val.cellsL vs)), g.cells, a.cells, v.cells], m.rw⟩⟩)
    (fun x => some (.ret (.bool (if a.op = 12 then decide (a.num ≤ x.2.1 + sumT (fun u => truA f vs (partA g a.op) b u) (v.args.drop x.1) (v.ws.drop x.1)) else decide (a.num * (x.2.2 + (v.ws.drop x.1).sum) ≤ (x.2.1 + sumT (fun u => truA f vs (partA g a.op) b u) (v.args.drop x.1) (v.ws.drop x.1)) * a.mun))), m)) (fun x => v.args.length - x.1)
    (fun x => x.1 ≤ v.args.length ∧ 0 ≤ x.2.1 ∧ x.2.1 ≤ x.2.2 ∧ x.2.2 + (v.ws.drop x.1).sum ≤ 1048576) (0, 0, 0) ?_ ?_ ?_ ?_ ?_
  · simp
  · simp
  · simp; omega
  · intro x; simp [Tryz.f91, a91, reg91, loop91, draw91, dok91]
  · rintro ⟨i, s, t⟩ ⟨hi, hs, ht, hst⟩ hrec
    simp only at hi hs ht hst
    have hsb := sumT_bound (fun _ => true) [] (v.ws.drop i) fun x hx => w1 x (List.mem_of_mem_drop hx)
    rw [sumT_nil] at hsb
    by_cases hlt' : i < v.args.length
    · have hlw : i < v.ws.length := by omega
      have e2 : IntKind.i64.wrap (i + 1) = i + 1 := wrap_id _ (by omega)
      have hw1 := w1 _ (List.getElem_mem hlw)
      rw [sum_drop hlw] at hst hsb
      have hsb2 := sumT_bound (fun _ => true) [] (v.ws.drop (i + 1)) fun x hx => w1 x (List.mem_of_mem_drop hx)
      rw [sumT_nil] at hsb2
      have e3 : IntKind.i64.wrap (t + v.ws[i]) = t + v.ws[i] := wrap_id _ (by omega)
      have e4 : IntKind.i64.wrap (s + v.ws[i]) = s + v.ws[i] := wrap_id _ (by omega)
      have h3 : (i + 1) * 3 ≤ v.args.length * 3 := by omega
      have h3' : i + 1 ≤ v.ws.length := by omega
      have hat := ints_at hlw
      have hu := hargs i hlt'
      rw [hpa] at hu
      have hun := Val.nodes_arg (List.getElem_mem hlt')
      have he := hT v.args[i] hu (by omega)
      rw [sumT_drop hlt' hlw, sum_drop hlw]
      generalize hpg : partA g a.op = pg at *
      simp at he
      cases htr : truA f vs pg b v.args[i]
      · simp [htr] at he
        simp [round, Tryz.f91, a91, reg91, loop91, draw91, dok91, hlt', hlw, e2, e3, h3, h3', hat, hwk, hga, Fun.cellsL, hb1, Fm.cellsL, he, endRound_L]
        refine hrec (i + 1, s, t + v.ws[i]) _ _ ?_ ?_ ?_ ?_
        · simp; omega
        · exact ⟨by simp; omega, by simp; omega, by simp; omega, by simp; omega⟩
        · simp [hga, Fun.cellsL, hb1, Fm.cellsL]
        · simp [Int.add_assoc]
      · simp [htr] at he
        simp [round, Tryz.f91, a91, reg91, loop91, draw91, dok91, hlt', hlw, e2, e3, e4, h3, h3', hat, hwk, hga, Fun.cellsL, hb1, Fm.cellsL, he, endRound_L]
        refine hrec (i + 1, s + v.ws[i], t + v.ws[i]) _ _ ?_ ?_ ?_ ?_
        · simp; omega
        · exact ⟨by simp; omega, by simp; omega, by simp; omega, by simp; omega⟩
        · simp [hga, Fun.cellsL, hb1, Fm.cellsL]
        · simp [Int.add_assoc]
    · clear hrec
      rw [List.drop_eq_nil_of_le (by omega), List.drop_eq_nil_of_le (by omega)] at *
      rw [sumT_nil]
      by_cases h12 : a.op = 12
      · simp [round, Tryz.f91, a91, reg91, loop91, draw91, dok91, hlt', h12]
      · have h13 : a.op = 13 := by omega
        obtain ⟨m0, m1, m2⟩ := hnm.2 h13
        simp at hst
        have k1 : s * a.mun ≤ 1048576 * 1048576 := Int.mul_le_mul (by omega) m2 (by omega) (by omega)
        have k2 : 0 ≤ s * a.mun := Int.mul_nonneg (by omega) (by omega)
        have k3 : a.num * t ≤ 1048576 * 1048576 := Int.mul_le_mul (by omega) (by omega) (by omega) (by omega)
        have k4 : 0 ≤ a.num * t := Int.mul_nonneg (by omega) (by omega)
        have e5 : IntKind.i64.wrap (s * a.mun) = s * a.mun := wrap_id _ (by omega)
        have e6 : IntKind.i64.wrap (a.num * t) = a.num * t := wrap_id _ (by omega)
        simp [round, Tryz.f91, a91, reg91, loop91, draw91, dok91, hlt', h12, h11, h13, e5, e6]
end
section
variable (f : Fun) (vs : List Val)
set_option maxHeartbeats 8000000 in
theorem ev_set1 (a : Fm) (hb : a.nodes ≤ 1000000) (H : ∀ b, b ∈ a.args → TrOk f vs b ∧ SeOk f vs b) (hn : vs.length ≤ 1000000) (hf : shapedF f = true) (hvs : ∀ v, v ∈ vs → okV exL vs.length v f = true) (hvn : ∀ v, v ∈ vs → v.nodes ≤ 1000000) : SeOk f vs a := by
  intro hok m
  rw [okA_state] at hok
  simp only [Bool.and_eq_true, decide_eq_true_eq] at hok
  obtain ⟨⟨c1, c2⟩, c3⟩ := hok
  obtain ⟨o0, o1⟩ := arityA_op (op := a.op) (by omega)
  have n1 : (vs.length : Int) ≤ 70368744177664 := by omega
  rw [evCall_body C0 (C0_ext _ (by decide)) (by rw [C0_P]; exact Tryz.func54) rfl (by rw [C0_ann]; rfl) (by rw [C0_ann]; rfl) (by decide) (by simp [Tryz.f54])]
  by_cases h3 : a.op = 3
  · obtain ⟨b, hb1⟩ := one_arg c1 (by omega) (by omega) (by omega)
    rw [if_pos h3, hb1, okAL_one] at c3
    rw [setA_1 f vs hb1, if_pos h3]
    simp [Tryz.f54, a54, reg54, loop54, draw54, dok54, h3, n1, boolsL_rep]
    refine loop_in (fun x : Nat × List Bool => ⟨[(2, .ptr m.bx.length 0), (3, .ptr (m.bx.length + 1) 0), (5, .sl (m.rw.length + 0) vs.length 0 vs.length), (20, .isl false vs.length (Val.cellsL vs)), (21, .int .i64 vs.length), (22, .int .i64 x.1)], ⟨m.bx ++ [sysX f (.isl false vs.length (Val.cellsL vs)), a.cells], m.rw ++ [⟨4, boolsL x.2⟩]⟩⟩)
      (fun x => some (.ret (.isl false vs.length (boolsL (vs.map fun v => truA f vs f b v))), m)) (fun x => vs.length - x.1) (fun x => x.1 ≤ vs.length ∧ x.2.length = vs.length ∧ ∀ j (hj : j < vs.length) (hj2 : j < x.2.length), j < x.1 → x.2[j] = truA f vs f b vs[j]) (0, List.replicate vs.length false) ?_ ?_ ?_ ?_ ?_
    · simp [h3, hb1, Fm.cellsL, boolsL_rep]
    · simp
    · exact ⟨by simp, by simp, fun j _ _ h => by omega⟩
    · intro x; simp [Tryz.f54, a54, reg54, loop54, draw54, dok54]
    · rintro ⟨i, bs⟩ ⟨hi, hbl, hbs⟩ hrec
      simp only at hi hbl hbs
      by_cases hlt : i < vs.length
      · have w2 : IntKind.i64.wrap (i + 1) = i + 1 := wrap_id _ (by omega)
        have hib : i < bs.length := by omega
        have h1 : i + 1 ≤ vs.length := by omega
        have hset := boolsL_set hib
        have hset' := hset (truA f vs f b vs[i])
        have h3' : (i + 1) * 3 ≤ vs.length * 3 := by omega
        have hmem := List.getElem_mem hlt
        have he := (H b (by rw [hb1]; simp)).1 f hf c3 vs[i] (hvs _ hmem) (hvn _ hmem)
        simp at he
        simp [round, Tryz.f54, a54, reg54, loop54, draw54, dok54, hlt, w2, h1, hbl, hib, h3', hb1, Fm.cellsL, he, hset', endRound_R]
        refine hrec (i + 1, bs.set i (truA f vs f b vs[i])) _ _ ?_ ?_ ?_ ?_
        · simp; omega
        · refine ⟨by simp; omega, by simpa using hbl, fun j hj hj2 hji => ?_⟩
          simp only at hji hj2 ⊢
          rw [List.getElem_set]
          split
          · rename_i e; subst e; rfl
          · exact hbs j hj (by simpa using hj2) (by omega)
        · simp [h3, hb1, Fm.cellsL, boolsL_rep]
        · simp
      · clear hrec
        have hil : i = vs.length := by omega
        subst hil
        have hfin : bs = vs.map fun v => truA f vs f b v := by
          apply List.ext_getElem
          · simp [hbl, List.length_map]
          · intro j j1 j2
            rw [hbs j (by omega) j1 (by omega)]
            simp [List.getElem_map]
        rw [← hfin]
        simp [round, Tryz.f54, a54, reg54, loop54, draw54, dok54, hlt, hbl, take_boolsL]
  rw [if_neg h3] at c3
  have hop : a.op = 0 ∨ a.op = 1 ∨ a.op = 2 := by
    simp only [Bool.and_eq_true, Bool.or_eq_true, decide_eq_true_eq] at c3
    omega
  have c3' : okAL f none a.args = true := by
    rw [Bool.and_eq_true] at c3
    exact c3.1
  rcases hop with h | h | h
  · have ha : a.args = [] := List.eq_nil_of_length_eq_zero (by rw [h, show arityA 0 = 0 from rfl] at c1; omega)
    rw [setA_0 f vs ha]
    simp [Tryz.f54, a54, reg54, loop54, draw54, dok54, h3, h, n1, boolsL_rep, ha]
    rw [evCode_loop]
    simp [round, Tryz.f54, a54, reg54, loop54, draw54, dok54]
    refine loop_in (fun x : Nat × List Bool => ⟨[(3, .ptr (m.bx.length + 1) 0), (5, .sl (m.rw.length + 0) vs.length 0 vs.length), (8, .nils), (56, .int .i64 vs.length), (57, .int .i64 x.1)], ⟨m.bx ++ [sysX f (.isl false vs.length (Val.cellsL vs)), a.cells], m.rw ++ [⟨4, boolsL x.2⟩]⟩⟩)
      (fun x => some (.ret (.isl false vs.length (boolsL (List.replicate vs.length true))), m)) (fun x => vs.length - x.1) (fun x => x.1 ≤ vs.length ∧ x.2.length = vs.length ∧ ∀ j (hj : j < vs.length) (hj2 : j < x.2.length), j < x.1 → x.2[j] = true) (0, List.replicate vs.length false) ?_ ?_ ?_ ?_ ?_
    · simp [h, ha, boolsL_rep]
    · simp
    · exact ⟨by simp, by simp, fun j _ _ h => by omega⟩
    · intro x; simp [Tryz.f54, a54, reg54, loop54, draw54, dok54]
    · rintro ⟨i, bs⟩ ⟨hi, hbl, hbs⟩ hrec
      simp only at hi hbl hbs
      by_cases hlt : i < vs.length
      · have w2 : IntKind.i64.wrap (i + 1) = i + 1 := wrap_id _ (by omega)
        have hib : i < bs.length := by omega
        have h1 : i + 1 ≤ vs.length := by omega
        have hset := boolsL_set hib
        have hset' := hset (true)
        simp [round, Tryz.f54, a54, reg54, loop54, draw54, dok54, hlt, w2, h1, hbl, hib, h, hset', endRound_R]
        refine hrec (i + 1, bs.set i (true)) _ _ ?_ ?_ ?_ ?_
        · simp; omega
        · refine ⟨by simp; omega, by simpa using hbl, fun j hj hj2 hji => ?_⟩
          simp only at hji hj2 ⊢
          rw [List.getElem_set]
          split
          · rename_i e; subst e; rfl
          · exact hbs j hj (by simpa using hj2) (by omega)
        · simp [h, ha, boolsL_rep]
        · simp
      · clear hrec
        have hil : i = vs.length := by omega
        subst hil
        have hfin : bs = List.replicate vs.length true := by
          apply List.ext_getElem
          · simp [hbl, List.length_replicate]
          · intro j j1 j2
            rw [hbs j (by omega) j1 (by omega)]
            simp [List.getElem_replicate]
        rw [← hfin]
        simp [round, Tryz.f54, a54, reg54, loop54, draw54, dok54, hlt, hbl, take_boolsL]
  · obtain ⟨b, hb1⟩ := one_arg c1 (by omega) (by omega) (by omega)
    rw [hb1, okAL_one] at c3'
    have he := (H b (by rw [hb1]; simp)).2 c3'
    have hsl := setA_len f vs b.nodes b (Nat.le_refl _)
    rw [setA_1 f vs hb1, if_neg h3]
    simp at he
    generalize setA f vs b = S at he hsl
    simp [Tryz.f54, a54, reg54, loop54, draw54, dok54, h3, h, n1, boolsL_rep, hb1, Fm.cellsL]
    rw [evCode_loop]
    simp [round, Tryz.f54, a54, reg54, loop54, draw54, dok54, he, endRound_R]
    rw [evCode_loop]
    simp [round, Tryz.f54, a54, reg54, loop54, draw54, dok54]
    refine loop_in (fun x : Nat × List Bool => ⟨[(3, .ptr (m.bx.length + 1) 0), (5, .sl (m.rw.length + 0) vs.length 0 vs.length), (8, .sl (m.rw.length + 1) 1 0 1), (56, .int .i64 vs.length), (57, .int .i64 x.1)], ⟨m.bx ++ [sysX f (.isl false vs.length (Val.cellsL vs)), a.cells], m.rw ++ [⟨4, boolsL x.2⟩, ⟨90, [.isl false vs.length (boolsL S)]⟩]⟩⟩)
      (fun x => some (.ret (.isl false vs.length (boolsL (S.map fun x => !x))), m)) (fun x => vs.length - x.1) (fun x => x.1 ≤ vs.length ∧ x.2.length = vs.length ∧ ∀ j (hj : j < vs.length) (hj2 : j < x.2.length), j < x.1 → x.2[j] = !S[j]'(by omega)) (0, List.replicate vs.length false) ?_ ?_ ?_ ?_ ?_
    · simp [h, hb1, Fm.cellsL, boolsL_rep]
    · simp
    · exact ⟨by simp, by simp, fun j _ _ h => by omega⟩
    · intro x; simp [Tryz.f54, a54, reg54, loop54, draw54, dok54]
    · rintro ⟨i, bs⟩ ⟨hi, hbl, hbs⟩ hrec
      simp only at hi hbl hbs
      by_cases hlt : i < vs.length
      · have w2 : IntKind.i64.wrap (i + 1) = i + 1 := wrap_id _ (by omega)
        have hib : i < bs.length := by omega
        have h1 : i + 1 ≤ vs.length := by omega
        have hset := boolsL_set hib
        have hset' := hset (!S[i]'(by omega))
        have hiS : i < S.length := by omega
        have hatS := boolsL_at hiS
        have hS1 : i + 1 ≤ S.length := by omega
        simp [round, Tryz.f54, a54, reg54, loop54, draw54, dok54, hlt, w2, h1, hbl, hib, h, hatS, hS1, hset', endRound_R]
        refine hrec (i + 1, bs.set i (!S[i]'(by omega))) _ _ ?_ ?_ ?_ ?_
        · simp; omega
        · refine ⟨by simp; omega, by simpa using hbl, fun j hj hj2 hji => ?_⟩
          simp only at hji hj2 ⊢
          rw [List.getElem_set]
          split
          · rename_i e; subst e; rfl
          · exact hbs j hj (by simpa using hj2) (by omega)
        · simp [h, hb1, Fm.cellsL, boolsL_rep]
        · simp
      · clear hrec
        have hil : i = vs.length := by omega
        subst hil
        have hfin : bs = S.map fun x => !x := by
          apply List.ext_getElem
          · simp [hbl, List.length_map, hsl]
          · intro j j1 j2
            rw [hbs j (by omega) j1 (by omega)]
            simp [List.getElem_map]
        rw [← hfin]
        simp [round, Tryz.f54, a54, reg54, loop54, draw54, dok54, hlt, hbl, take_boolsL]
  · have hl2 : a.args.length = 2 := by rw [h, show arityA 2 = 2 from rfl] at c1; omega
    obtain ⟨b, c, hb1⟩ : ∃ b c, a.args = [b, c] := by
      match a.args, hl2 with
      | [b, c], _ => exact ⟨b, c, rfl⟩
    rw [hb1, okAL, okAL, okAL, Bool.and_true, Bool.and_eq_true] at c3'
    have he := (H b (by rw [hb1]; simp)).2 c3'.1
    have he2 := (H c (by rw [hb1]; simp)).2 c3'.2
    have hsl := setA_len f vs b.nodes b (Nat.le_refl _)
    have hsl2 := setA_len f vs c.nodes c (Nat.le_refl _)
    rw [setA_2 f vs hb1]
    have w22 : IntKind.i64.wrap 2 = 2 := wrap_id _ (by omega)
    simp at he he2
    generalize setA f vs b = S at he hsl
    generalize setA f vs c = T at he2 hsl2
    simp [Tryz.f54, a54, reg54, loop54, draw54, dok54, h3, h, n1, boolsL_rep, hb1, Fm.cellsL]
    rw [evCode_loop]
    simp [round, Tryz.f54, a54, reg54, loop54, draw54, dok54, he, endRound_R]
    rw [evCode_loop]
    simp [round, Tryz.f54, a54, reg54, loop54, draw54, dok54, he2, w22, endRound_R]
    rw [evCode_loop]
    simp [round, Tryz.f54, a54, reg54, loop54, draw54, dok54, w22]
    refine loop_in (fun x : Nat × List Bool => ⟨[(3, .ptr (m.bx.length + 1) 0), (5, .sl (m.rw.length + 0) vs.length 0 vs.length), (8, .sl (m.rw.length + 1) 2 0 2), (56, .int .i64 vs.length), (57, .int .i64 x.1)], ⟨m.bx ++ [sysX f (.isl false vs.length (Val.cellsL vs)), a.cells], m.rw ++ [⟨4, boolsL x.2⟩, ⟨90, [.isl false vs.length (boolsL S), .isl false vs.length (boolsL T)]⟩]⟩⟩)
      (fun x => some (.ret (.isl false vs.length (boolsL (List.zipWith (fun x y => x && y) S T))), m)) (fun x => vs.length - x.1) (fun x => x.1 ≤ vs.length ∧ x.2.length = vs.length ∧ ∀ j (hj : j < vs.length) (hj2 : j < x.2.length), j < x.1 → x.2[j] = (S[j]'(by omega) && T[j]'(by omega))) (0, List.replicate vs.length false) ?_ ?_ ?_ ?_ ?_
    · simp [h, hb1, Fm.cellsL, boolsL_rep]
    · simp
    · exact ⟨by simp, by simp, fun j _ _ h => by omega⟩
    · intro x; simp [Tryz.f54, a54, reg54, loop54, draw54, dok54]
    · rintro ⟨i, bs⟩ ⟨hi, hbl, hbs⟩ hrec
      simp only at hi hbl hbs
      by_cases hlt : i < vs.length
      · have w2 : IntKind.i64.wrap (i + 1) = i + 1 := wrap_id _ (by omega)
        have hib : i < bs.length := by omega
        have h1 : i + 1 ≤ vs.length := by omega
        have hset := boolsL_set hib
        have hiS : i < S.length := by omega
        have hatS := boolsL_at hiS
        have hS1 : i + 1 ≤ S.length := by omega
        have hiT : i < T.length := by omega
        have hatT := boolsL_at hiT
        have hT1 : i + 1 ≤ T.length := by omega
        cases hSi : S[i] with
        | false =>
          have hset' := hset false
          simp [round, Tryz.f54, a54, reg54, loop54, draw54, dok54, hlt, w2, h1, hbl, hib, h, hatS, hatT, hS1, hT1, hSi, hset', endRound_R]
          refine hrec (i + 1, bs.set i false) _ _ ?_ ?_ ?_ ?_
          · simp; omega
          · refine ⟨by simp; omega, by simpa using hbl, fun j hj hj2 hji => ?_⟩
            simp only at hji hj2 ⊢
            rw [List.getElem_set]
            split
            · rename_i e; subst e; simp [hSi]
            · exact hbs j hj (by simpa using hj2) (by omega)
          · simp [h, hb1, Fm.cellsL, boolsL_rep]
          · simp
        | true =>
          have hset' := hset T[i]
          simp [round, Tryz.f54, a54, reg54, loop54, draw54, dok54, hlt, w2, h1, hbl, hib, h, hatS, hatT, hS1, hT1, hSi, hset', endRound_R]
          refine hrec (i + 1, bs.set i T[i]) _ _ ?_ ?_ ?_ ?_
          · simp; omega
          · refine ⟨by simp; omega, by simpa using hbl, fun j hj hj2 hji => ?_⟩
            simp only at hji hj2 ⊢
            rw [List.getElem_set]
            split
            · rename_i e; subst e; simp [hSi]
            · exact hbs j hj (by simpa using hj2) (by omega)
          · simp [h, hb1, Fm.cellsL, boolsL_rep]
          · simp
      · clear hrec
        have hil : i = vs.length := by omega
        subst hil
        have hfin : bs = List.zipWith (fun x y => x && y) S T := by
          apply List.ext_getElem
          · simp [hbl, List.length_zipWith, hsl, hsl2]
          · intro j j1 j2
            rw [hbs j (by omega) j1 (by omega)]
            simp [List.getElem_zipWith]
        rw [← hfin]
        simp [round, Tryz.f54, a54, reg54, loop54, draw54, dok54, hlt, hbl, take_boolsL]
theorem ev_TS (hn : vs.length ≤ 1000000) (hf : shapedF f = true) (hvs : ∀ v, v ∈ vs → okV exL vs.length v f = true) (hvn : ∀ v, v ∈ vs → v.nodes ≤ 1000000) (N : Nat) : ∀ a : Fm, a.nodes ≤ N → a.nodes ≤ 1000000 → TrOk f vs a ∧ SeOk f vs a := by
  induction N with
  | zero => intro a hN; have := a.nodes_pos; omega
  | succ N ih =>
  intro a hN hb
  have H : ∀ b, b ∈ a.args → TrOk f vs b ∧ SeOk f vs b := fun b hm => ih b (by have := Fm.nodes_arg hm; omega) (by have := Fm.nodes_arg hm; omega)
  exact ⟨ev_truth1 f vs a hb H hn, ev_set1 f vs a hb H hn hf hvs hvn⟩
end
set_option maxHeartbeats 1000000 in
theorem ev_PNums (f : Fun) (a : Fm) (m : Mem) : evCall C0 113 [.agg f.cells, .agg a.cells] m = some (.ret (.bool (numsA f a.op a.num a.mun)), m) := by
  rw [evCall_body C0 (C0_ext _ (by decide)) (by rw [C0_P]; exact Tryz.func113) rfl (by rw [C0_ann]; rfl) (by rw [C0_ann]; rfl) (by decide) (by simp [Tryz.f113])]
  unfold numsA
  by_cases h5 : a.op = 5
  · by_cases c1 : 0 ≤ a.num
    · by_cases c2 : a.num < f.num
      · simp [Tryz.f113, a113, reg113, h5, c1, c2]
      · simp [Tryz.f113, a113, reg113, h5, c1, c2]
    · simp [Tryz.f113, a113, reg113, h5, c1]
  by_cases h10 : a.op = 10
  · by_cases c1 : 0 ≤ a.num
    · by_cases c2 : a.num < f.num
      · simp [Tryz.f113, a113, reg113, h10, c1, c2]
      · simp [Tryz.f113, a113, reg113, h10, c1, c2]
    · simp [Tryz.f113, a113, reg113, h10, c1]
  by_cases h12 : a.op = 12
  · by_cases c1 : 1 ≤ a.num
    · by_cases c2 : a.num ≤ 1048576
      · simp [Tryz.f113, a113, reg113, h12, c1, c2]
      · simp [Tryz.f113, a113, reg113, h12, c1, c2]
    · simp [Tryz.f113, a113, reg113, h12, c1]
  by_cases h13 : a.op = 13
  · by_cases c1 : 1 ≤ a.num
    · by_cases c2 : a.num ≤ a.mun
      · simp [Tryz.f113, a113, reg113, h13, c1, c2]
      · simp [Tryz.f113, a113, reg113, h13, c1, c2]
    · simp [Tryz.f113, a113, reg113, h13, c1]
  by_cases c1 : a.num = 0
  · simp [Tryz.f113, a113, reg113, h5, h10, h12, h13, c1]
  · simp [Tryz.f113, a113, reg113, h5, h10, h12, h13, c1]
theorem ev_PPart (f : Fun) (op : Int) (h : (if op = 7 ∨ op = 9 then 1 else 0) < f.args.length) (m : Mem) : evCall C0 114 [.agg f.cells, .int .i64 op] m = some (.ret (.agg (partA f op).cells), m) := by
  rw [evCall_body C0 (C0_ext _ (by decide)) (by rw [C0_P]; exact Tryz.func114) rfl (by rw [C0_ann]; rfl) (by rw [C0_ann]; rfl) (by decide) (by simp [Tryz.f114])]
  unfold partA
  by_cases h7 : op = 7
  · subst h7
    simp at h
    have h3 : 6 ≤ f.args.length * 3 := by omega
    have h' : (1 : Int) < f.args.length := by omega
    have hat := Fun.at_cellsL f.args 1 h
    have hg : f.args.getD 1 f = f.args[1] := by simp [h]
    simp at hat
    simp [Tryz.f114, a114, reg114, h, h', h3, hat, hg]
  by_cases h9 : op = 9
  · subst h9
    simp at h
    have h3 : 6 ≤ f.args.length * 3 := by omega
    have h' : (1 : Int) < f.args.length := by omega
    have hat := Fun.at_cellsL f.args 1 h
    have hg : f.args.getD 1 f = f.args[1] := by simp [h]
    simp at hat
    simp [Tryz.f114, a114, reg114, h, h', h3, hat, hg]
  · have hn : ¬ (op = 7 ∨ op = 9) := by omega
    rw [if_neg hn] at h ⊢
    have h3 : 3 ≤ f.args.length * 3 := by omega
    have hat := Fun.at_cellsL f.args 0 h
    have hg : f.args.getD 0 f = f.args[0] := by simp [h]
    simp at hat
    simp [Tryz.f114, a114, reg114, h7, h9, h, h3, hat, hg]
@[simp] theorem rulesT_length : rulesT.length = 42 := by decide
theorem rulesT_args {k : Int} (h0 : 0 ≤ k) (h13 : k ≤ 13) : (rulesT.drop (k.toNat * 3 + 2)).take 1 = [.int .i64 (arityA k)] := by
  have : k = 0 ∨ k = 1 ∨ k = 2 ∨ k = 3 ∨ k = 4 ∨ k = 5 ∨ k = 6 ∨ k = 7 ∨ k = 8 ∨ k = 9 ∨ k = 10 ∨ k = 11 ∨ k = 12 ∨ k = 13 := by omega
  rcases this with rfl | rfl | rfl | rfl | rfl | rfl | rfl | rfl | rfl | rfl | rfl | rfl | rfl | rfl <;> rfl
theorem rulesT_kind {k : Int} (h0 : 4 ≤ k) (h13 : k ≤ 13) : (rulesT.drop (k.toNat * 3 + 1)).take 1 = [.int .i64 (kindO k)] := by
  have : k = 4 ∨ k = 5 ∨ k = 6 ∨ k = 7 ∨ k = 8 ∨ k = 9 ∨ k = 10 ∨ k = 11 ∨ k = 12 ∨ k = 13 := by omega
  rcases this with rfl | rfl | rfl | rfl | rfl | rfl | rfl | rfl | rfl | rfl <;> rfl
@[simp] theorem cells_nilp : A.cells .nilp = [.nilp] := _root_.id rfl
theorem leave_setc (P : Program) {X b : List (List A)} {R : List Row} (r : Res) (i : Nat) (cs : List A) (hcs : cs.all (closed X.length R.length) = true) : leave P false ⟨X, R⟩ r ⟨X.set i cs ++ b, R⟩ = some (erR (er P X.length R.length R 4) r, ⟨X.set i cs, R⟩) := leave_setb P ⟨X, R⟩ b r i cs hcs
theorem leave_S (P : Program) {M L : List (List A)} {k : Nat} {x x' : List A} {R : List Row} (r : Res) (hk : k < M.length) (hx : x'.all (closed (M.length + L.length) R.length) = true) : leave P false ⟨M.set k x ++ L, R⟩ r ⟨M.set k x' ++ L, R⟩ = some (erR (er P (M.length + L.length) R.length R 4) r, ⟨M.set k x' ++ L, R⟩) := by
  have := leave_setb P ⟨M.set k x ++ L, R⟩ [] r k x' (by simpa using hx)
  have e : (M.set k x ++ L).set k x' = M.set k x' ++ L := by
    rw [List.set_append_left _ _ (by simpa using hk), List.set_set]
  simp only [e, List.append_nil, List.length_append, List.length_set] at this
  exact this
def goA (ok : Fm → Int → Bool × Int) : List Fm → Int → Bool × Int
  | [], q => (true, q)
  | b :: r, q => if (ok b q).1 then goA ok r (ok b q).2 else (false, (ok b q).2)
def goI (ok : Fm → Int → Bool × Int) : List Fm → Nat → Int → Int
  | [], _, _ => -1
  | b :: r, i, q => if (ok b q).1 then goI ok r (i + 1) (ok b q).2 else i
theorem goI_go (ok : Fm → Int → Bool × Int) : ∀ (l : List Fm) (i : Nat) (q : Int), decide (0 ≤ goI ok l i q) = !(goA ok l q).1
  | [], i, q => by rw [goI, goA]; rfl
  | b :: r, i, q => by
    rw [goI, goA]
    split
    · exact goI_go ok r (i + 1) _
    · simp
theorem goA_drop {ok : Fm → Int → Bool × Int} {l : List Fm} {i : Nat} (h : i < l.length) (q : Int) : goA ok (l.drop i) q = if (ok l[i] q).1 then goA ok (l.drop (i + 1)) (ok l[i] q).2 else (false, (ok l[i] q).2) := by
  rw [List.drop_eq_getElem_cons h, goA]
theorem goI_drop {ok : Fm → Int → Bool × Int} {l : List Fm} {i : Nat} (h : i < l.length) (q : Int) : goI ok (l.drop i) i q = if (ok l[i] q).1 then goI ok (l.drop (i + 1)) (i + 1) (ok l[i] q).2 else i := by
  rw [List.drop_eq_getElem_cons h, goI]
section
variable {h : FuncId} {caps : List A} {M L : List (List A)} {id : Nat} {top : Fun} {R : List Row} {ok : Fm → Int → Bool × Int}
set_option maxHeartbeats 2000000 in
theorem ev_IndexAS (l : List Fm) (hl : l.length ≤ 1000000000) (hid : id < M.length) (hcl : caps.all (closed (M.length + L.length) R.length) = true) (hLc : L.all (fun cs => cs.all (closed (M.length + L.length) R.length)) = true) (B : Int → Prop)
    (hp : ∀ b, b ∈ l → ∀ q, B q → evCall C0 h (.agg b.cells :: caps) ⟨M.set id (top.cells ++ [.int .i64 q]) ++ L, R⟩ = some (.ret (.bool (!(ok b q).1)), ⟨M.set id (top.cells ++ [.int .i64 (ok b q).2]) ++ L, R⟩))
    (hB : ∀ b, b ∈ l → ∀ q, B q → (ok b q).1 = true → B (ok b q).2) (q0 : Int) (hq0 : B q0) :
    evCall C0 150 [.isl false l.length (Fm.cellsL l), .fn h caps] ⟨M.set id (top.cells ++ [.int .i64 q0]) ++ L, R⟩ = some (.ret (.int .i64 (goI ok l 0 q0)), ⟨M.set id (top.cells ++ [.int .i64 (goA ok l q0).2]) ++ L, R⟩) := by
  rw [evCall_body C0 (C0_ext _ (by decide)) (by rw [C0_P]; exact Tryz.func150) rfl (by rw [C0_ann]; rfl) (by rw [C0_ann]; rfl) (by decide) (by simp [Tryz.f150])]
  simp [Tryz.f150, a150, reg150, loop150]
  refine loop_in (fun x : Nat × Int => ⟨[(0, .isl false l.length (Fm.cellsL l)), (1, .fn h caps), (7, .int .i64 l.length), (8, .int .i64 x.1)], ⟨M.set id (top.cells ++ [.int .i64 x.2]) ++ L, R⟩⟩)
    (fun x => some (.ret (.int .i64 (goI ok (l.drop x.1) x.1 x.2)), ⟨M.set id (top.cells ++ [.int .i64 (goA ok (l.drop x.1) x.2).2]) ++ L, R⟩)) (fun x => l.length - x.1) (fun x => x.1 ≤ l.length ∧ B x.2) (0, q0) ?_ ?_ ?_ ?_ ?_
  · simp
  · simp
  · exact ⟨by simp, hq0⟩
  · intro x; simp [Tryz.f150, a150, reg150, loop150]
  · rintro ⟨i, q⟩ ⟨hi, hq⟩ hrec
    simp only at hi hq
    by_cases hlt : i < l.length
    · have w2 : IntKind.i64.wrap (i + 1) = i + 1 := wrap_id _ (by omega)
      have h3 : (i + 1) * 4 ≤ l.length * 4 := by omega
      have he := hp l[i] (List.getElem_mem hlt) q hq
      have hb := hB l[i] (List.getElem_mem hlt) q hq
      simp at he
      rw [goI_drop hlt, goA_drop hlt]
      cases hc : (ok l[i] q).1
      · simp [hc] at he
        simp [round, Tryz.f150, a150, reg150, loop150, hlt, w2, h3, he, leave_S _ _ hid]
      · simp [hc] at he
        simp [round, Tryz.f150, a150, reg150, loop150, hlt, w2, h3, he, endRound_S, hcl, hLc]
        refine hrec (i + 1, (ok l[i] q).2) _ _ ?_ ?_ ?_ ?_
        · simp; omega
        · exact ⟨by simp; omega, hb hc⟩
        · simp
        · simp
    · clear hrec
      rw [List.drop_eq_nil_of_le (by omega), goI, goA]
      simp [round, Tryz.f150, a150, reg150, loop150, hlt, leave_S _ _ hid]
theorem ev_ContainsAS (l : List Fm) (hl : l.length ≤ 1000000000) (hid : id < M.length) (hcl : caps.all (closed (M.length + L.length) R.length) = true) (hLc : L.all (fun cs => cs.all (closed (M.length + L.length) R.length)) = true) (B : Int → Prop)
    (hp : ∀ b, b ∈ l → ∀ q, B q → evCall C0 h (.agg b.cells :: caps) ⟨M.set id (top.cells ++ [.int .i64 q]) ++ L, R⟩ = some (.ret (.bool (!(ok b q).1)), ⟨M.set id (top.cells ++ [.int .i64 (ok b q).2]) ++ L, R⟩))
    (hB : ∀ b, b ∈ l → ∀ q, B q → (ok b q).1 = true → B (ok b q).2) (q0 : Int) (hq0 : B q0) :
    evCall C0 111 [.isl false l.length (Fm.cellsL l), .fn h caps] ⟨M.set id (top.cells ++ [.int .i64 q0]) ++ L, R⟩ = some (.ret (.bool (!(goA ok l q0).1)), ⟨M.set id (top.cells ++ [.int .i64 (goA ok l q0).2]) ++ L, R⟩) := by
  rw [evCall_body C0 (C0_ext _ (by decide)) (by rw [C0_P]; exact Tryz.func111) rfl (by rw [C0_ann]; rfl) (by rw [C0_ann]; rfl) (by decide) (by simp [Tryz.f111])]
  have he := ev_IndexAS l hl hid hcl hLc B hp hB q0 hq0
  have hg := goI_go ok l 0 q0
  try simp at he
  simp [Tryz.f111, a111, reg111, he, hg, leave_S _ _ hid]
end
theorem goA_valid (top : Fun) (g : Option Fun) (deep : Int) : ∀ (l : List Fm) (q : Int), goA (fun b q => validA top g b q (deep + 1)) l q = validAL top g l q deep
  | [], q => by rw [goA, validAL]
  | b :: r, q => by
    rw [goA, validAL]
    rw [goA_valid top g deep r]
def GP (bx : List (List A)) (id : Nat) (top : Fun) : Option Fun → A → Prop
  | none, pg => pg = .nilp
  | some g, pg => ∃ gid, pg = .ptr gid 0 ∧ ((gid ≠ id ∧ bx[gid]? = some g.cells) ∨ (gid = id ∧ g = top))
theorem GP.at {bx : List (List A)} {id : Nat} {top : Fun} {g : Option Fun} {pg : A} (h : GP bx id top g pg) (x : List A) (L : List (List A)) (hid : id < bx.length) : GP (bx.set id x ++ L) id top g pg := by
  cases g with
  | none => exact h
  | some g =>
    obtain ⟨gid, h1, h2⟩ := h
    refine ⟨gid, h1, ?_⟩
    rcases h2 with ⟨h2, h3⟩ | h2
    · left
      refine ⟨h2, ?_⟩
      have hl : gid < bx.length := (List.getElem?_eq_some_iff.1 h3).1
      rw [List.getElem?_append_left (by simpa using hl), List.getElem?_set_ne (fun e => h2 e.symm)]
      exact h3
    · right; exact h2
theorem GP.closed {bx : List (List A)} {id : Nat} {top : Fun} {g : Option Fun} {pg : A} (h : GP bx id top g pg) (hid : id < bx.length) (n nr : Nat) (hn : bx.length ≤ n) : closed n nr pg = true ∧ flat pg = true ∧ pg.cells = [pg] := by
  cases g with
  | none => rw [show pg = A.nilp from h]; exact ⟨rfl, rfl, rfl⟩
  | some g =>
    obtain ⟨gid, h1, h2⟩ := h
    subst h1
    refine ⟨?_, rfl, rfl⟩
    have : gid < n := by
      rcases h2 with ⟨h2, h3⟩ | h2
      · have hl : gid < bx.length := (List.getElem?_eq_some_iff.1 h3).1
        omega
      · omega
    simp [this]
def VOk (a : Fm) : Prop := ∀ (top : Fun) (g : Option Fun) (pg : A) (left deep : Int) (m : Mem) (id : Nat), shapedF top = true → (∀ g', g = some g' → shapedF g' = true) → -1000000 ≤ left → left ≤ 1000000 → 0 ≤ deep → deep ≤ 1000000 → m.bx[id]? = some (top.cells ++ [.int .i64 left]) → GP m.bx id top g pg →
  evCall C0 68 [.ptr id 0, pg, .agg a.cells, .int .i64 deep] m = some (.ret (.bool (validA top g a left deep).1), ⟨m.bx.set id (top.cells ++ [.int .i64 (validA top g a left deep).2]), m.rw⟩)
theorem ev_valid_in (b : Fm) (H : VOk b) (top : Fun) (g : Option Fun) (pg : A) (q deep : Int) (M L : List (List A)) (R : List Row) (id b0 : Nat) (hs : shapedF top = true) (hgs : ∀ g', g = some g' → shapedF g' = true) (q0 : -1000000 ≤ q) (q1 : q ≤ 1000000) (d0 : 0 ≤ deep) (d1 : deep ≤ 999999) (hid : id < M.length) (hG : GP M id top g pg)
    (k0 : L[0]? = some [.ptr id 0]) (k1 : L[1]? = some [pg]) (k3 : L[3]? = some [.int .i64 deep]) :
    evCall C0 112 [.agg b.cells, .ptr (M.length) 0, .ptr (M.length + 1) 0, .ptr (M.length + 3) 0] ⟨M.set id (top.cells ++ [.int .i64 q]) ++ L, R⟩ = some (.ret (.bool (!(validA top g b q (deep + 1)).1)), ⟨M.set id (top.cells ++ [.int .i64 (validA top g b q (deep + 1)).2]) ++ L, R⟩) := by
  have w : IntKind.i64.wrap (deep + 1) = deep + 1 := wrap_id _ (by omega)
  have hl3 : 3 < L.length := (List.getElem?_eq_some_iff.1 k3).1
  have p0 : (M.set id (top.cells ++ [.int .i64 q]) ++ L)[M.length]? = some [.ptr id 0] := by rw [at_sets0]; exact k0
  have p1 : (M.set id (top.cells ++ [.int .i64 q]) ++ L)[M.length + 1]? = some [pg] := by rw [at_sets]; exact k1
  have p3 : (M.set id (top.cells ++ [.int .i64 q]) ++ L)[M.length + 3]? = some [.int .i64 deep] := by rw [at_sets]; exact k3
  have hbx : (M.set id (top.cells ++ [.int .i64 q]) ++ L)[id]? = some (top.cells ++ [.int .i64 q]) := by rw [List.getElem?_append_left (by simpa using hid)]; simp [hid]
  have he := H top g pg q (deep + 1) ⟨M.set id (top.cells ++ [.int .i64 q]) ++ L ++ [b.cells], R⟩ id hs hgs q0 q1 (by omega) (by omega) (by rw [List.getElem?_append_left (by simp; omega)]; exact hbx) (by
    have := hG.at (top.cells ++ [.int .i64 q]) (L ++ [b.cells]) hid
    rw [← List.append_assoc] at this
    exact this)
  generalize hX : M.set id (top.cells ++ [.int .i64 q]) ++ L = X at p0 p1 p3 hbx he
  have hlX : X.length = M.length + L.length := by rw [← hX]; simp
  have hset : M.set id (top.cells ++ [.int .i64 (validA top g b q (deep + 1)).2]) ++ L = X.set id (top.cells ++ [.int .i64 (validA top g b q (deep + 1)).2]) := by
    rw [← hX, List.set_append_left _ _ (by simpa using hid), List.set_set]
  rw [hset]
  have hidX : id < X.length := by omega
  have hM0 : M.length < X.length := by omega
  have hM1 : M.length + 1 < X.length := by omega
  have hM3 : M.length + 3 < X.length := by omega
  have g0 := (List.getElem?_eq_some_iff.1 p0).2
  have g1 := (List.getElem?_eq_some_iff.1 p1).2
  have g3 := (List.getElem?_eq_some_iff.1 p3).2
  rw [evCall_body C0 (C0_ext _ (by decide)) (by rw [C0_P]; exact Tryz.func112) rfl (by rw [C0_ann]; rfl) (by rw [C0_ann]; rfl) (by decide) (by simp [Tryz.f112])]
  simp [set_lt, hidX] at he
  simp [Tryz.f112, a112, reg112, at_lt, hM0, hM1, hM3, g0, g1, g3, w, he, leave_setc]
set_option maxHeartbeats 16000000 in
theorem ev_valid_N (a : Fm) (hb : a.nodes ≤ 1000000000) (H : ∀ b, b ∈ a.args → VOk b) (top : Fun) (left deep : Int) (m : Mem) (id : Nat) (hs : shapedF top = true) (hl0 : -1000000 ≤ left) (hl1 : left ≤ 1000000) (hd0 : 0 ≤ deep) (hd1 : deep ≤ 1000000) (hbx : m.bx[id]? = some (top.cells ++ [.int .i64 left])) :
    evCall C0 68 [.ptr id 0, .nilp, .agg a.cells, .int .i64 deep] m = some (.ret (.bool (validA top none a left deep).1), ⟨m.bx.set id (top.cells ++ [.int .i64 (validA top none a left deep).2]), m.rw⟩) := by
  have hid : id < m.bx.length := (List.getElem?_eq_some_iff.1 hbx).1
  have hgm := (List.getElem?_eq_some_iff.1 hbx).2
  have hid4 : id < m.bx.length + 4 := by omega
  have hid1 : id < m.bx.length + 1 := by omega
  rw [evCall_body C0 (C0_ext _ (by decide)) (by rw [C0_P]; exact Tryz.func68) rfl (by rw [C0_ann]; rfl) (by rw [C0_ann]; rfl) (by decide) (by simp [Tryz.f68])]
  have hlen := a.length_args
  rw [validA_eq]
  have w1 : IntKind.i64.wrap (left - 1) = left - 1 := wrap_id _ (by omega)
  by_cases c1 : left - 1 < 0
  case pos => simp [Tryz.f68, a68, reg68, loop68, draw68, dok68, hgm, hid, hid1, hid4, at_lt, set_lt, w1, c1, leave_setb]
  by_cases c2 : 100 < deep
  case pos => simp [Tryz.f68, a68, reg68, loop68, draw68, dok68, hgm, hid, hid1, hid4, at_lt, set_lt, w1, c1, c2, leave_setb]
  by_cases c3 : a.op < 0
  case pos => simp [Tryz.f68, a68, reg68, loop68, draw68, dok68, hgm, hid, hid1, hid4, at_lt, set_lt, w1, c1, c2, c3, leave_setb]
  by_cases c4 : 13 < a.op
  case pos => simp [Tryz.f68, a68, reg68, loop68, draw68, dok68, hgm, hid, hid1, hid4, at_lt, set_lt, w1, c1, c2, c3, c4, leave_setb]
  have k0 : 0 ≤ a.op := by omega
  have k14 : a.op < 14 := by omega
  have har := rulesT_args k0 (by omega)
  have k1 : 1 ≤ 42 - (a.op.toNat * 3 + 2) := by omega
  have k2 : 1 ≤ 42 - (a.op.toNat * 3 + 1) := by omega
  have k3 : a.op.toNat * 3 + 3 ≤ 42 := by omega
  have k4 : 1 ≤ 40 - a.op.toNat * 3 := by omega
  have k5 : 1 ≤ 41 - a.op.toNat * 3 := by omega
  have wd : IntKind.i64.wrap (deep + 1) = deep + 1 := wrap_id _ (by omega)
  by_cases c5 : (a.args.length : Int) = arityA a.op
  case neg => simp [Tryz.f68, a68, reg68, loop68, draw68, dok68, hgm, hid, hid1, hid4, at_lt, set_lt, w1, c1, c2, c3, c4, c5, k0, k14, k1, k2, k3, k4, k5, har, leave_setb]
  have hno : ¬ (left - 1 < 0 ∨ 100 < deep ∨ a.op < 0 ∨ 13 < a.op ∨ ¬ (a.args.length : Int) = arityA a.op) := by
    rintro (h | h | h | h | h)
    · exact c1 h
    · exact c2 h
    · exact c3 h
    · exact c4 h
    · exact h c5
  rw [if_neg hno]
  have hGP : GP m.bx id top none .nilp := rfl
  by_cases c6 : a.op ≤ 2
  · by_cases c7 : a.num = 0 ∧ a.mun = 0
    case neg =>
      have hct : ctxA top none a.op a.num a.mun = none := by unfold ctxA; rw [if_pos c6, if_neg c7]
      rw [hct]
      by_cases c8 : a.num = 0
      · have c9 : ¬ a.mun = 0 := fun h => c7 ⟨c8, h⟩
        simp [Tryz.f68, a68, reg68, loop68, draw68, dok68, hgm, hid, hid1, hid4, at_lt, set_lt, w1, c1, c2, c3, c4, eq_true c5, k0, k14, k1, k2, k3, k4, k5, har, c6, c8, c9, leave_setb]
      · simp [Tryz.f68, a68, reg68, loop68, draw68, dok68, hgm, hid, hid1, hid4, at_lt, set_lt, w1, c1, c2, c3, c4, eq_true c5, k0, k14, k1, k2, k3, k4, k5, har, c6, c8, leave_setb]
    have hct : ctxA top none a.op a.num a.mun = some none := by unfold ctxA; rw [if_pos c6, if_pos c7]
    rw [hct]
    have c9 : ¬ a.op = 3 := by omega
    have hco := ev_ContainsAS (h := 112) (caps := [.ptr m.bx.length 0, .ptr (m.bx.length + 1) 0, .ptr (m.bx.length + 3) 0]) (M := m.bx) (L := [[.ptr id 0], [.nilp], a.cells, [.int .i64 deep]]) (id := id) (top := top) (R := m.rw) (ok := fun b q => validA top none b q (deep + 1)) a.args (by omega) hid (by simp) (by simp [hid4]) (fun q => 0 ≤ q ∧ q ≤ 1000000)
      (fun b hm q hq => ev_valid_in b (H b hm) top none .nilp q deep m.bx _ m.rw id 0 hs (fun g' hg' => by cases hg') (by omega) (by omega) hd0 (by omega) hid hGP rfl rfl rfl)
      (fun b hm q hq h => by have := validA_le top none b q (deep + 1); have := validA_pos top none b q (deep + 1) h; omega) (left - 1) (by omega)
    rw [goA_valid] at hco
    obtain ⟨c7a, c7b⟩ := c7
    simp [c7a, c7b] at hco
    simp [Tryz.f68, a68, reg68, loop68, draw68, dok68, hgm, hid, hid1, hid4, at_lt, set_lt, w1, c1, c2, c3, c4, eq_true c5, k0, k14, k1, k2, k3, k4, k5, har, c6, c7a, c7b, c9, hco, leave_setb]
  by_cases c9 : a.op = 3
  · by_cases c7 : a.num = 0 ∧ a.mun = 0
    case neg =>
      have hct : ctxA top none a.op a.num a.mun = none := by unfold ctxA; rw [if_neg c6, if_pos c9, if_neg (fun h => c7 ⟨h.1, h.2.1⟩)]
      rw [hct]
      by_cases c8 : a.num = 0
      · have c10 : ¬ a.mun = 0 := fun h => c7 ⟨c8, h⟩
        rw [c9] at har c5
        simp at har
        simp [Tryz.f68, a68, reg68, loop68, draw68, dok68, hgm, hid, hid1, hid4, at_lt, set_lt, w1, c1, c2, eq_true c5, har, c9, c8, c10, leave_setb]
      · rw [c9] at har c5
        simp at har
        simp [Tryz.f68, a68, reg68, loop68, draw68, dok68, hgm, hid, hid1, hid4, at_lt, set_lt, w1, c1, c2, eq_true c5, har, c9, c8, leave_setb]
    obtain ⟨c7a, c7b⟩ := c7
    have hct : ctxA top none a.op a.num a.mun = some (some top) := by unfold ctxA; rw [if_neg c6, if_pos c9, if_pos ⟨c7a, c7b, rfl⟩]
    rw [hct]
    obtain ⟨b, hb1⟩ := one_arg c5 (by omega) (by omega) (by omega)
    have he := (H b (by rw [hb1]; exact List.mem_cons_self)) top (some top) (.ptr id 0) (left - 1) (deep + 1) ⟨m.bx.set id (top.cells ++ [.int .i64 (left - 1)]) ++ [[.ptr id 0], [.nilp], a.cells, [.int .i64 deep]], m.rw⟩ id hs (fun g' hg' => by cases hg'; exact hs) (by omega) (by omega) (by omega) (by omega) (by rw [List.getElem?_append_left (by simpa using hid)]; simp [hid]) ⟨id, rfl, .inr ⟨rfl, rfl⟩⟩
    rw [c9] at har c5
    rw [hb1] at c5
    simp at har
    simp [set_lt, hid, hb1, Fm.cellsL, c9, c7a, c7b] at he
    simp only [hb1, validAL_one]
    simp [Tryz.f68, a68, reg68, loop68, draw68, dok68, hgm, hid, hid1, hid4, at_lt, set_lt, w1, wd, c1, c2, har, c9, c7a, c7b, hb1, Fm.cellsL, show arityA 3 = 1 from rfl, he, leave_setb]
  have c6' : ¬ a.op ≤ 2 := c6
  have hkn := rulesT_kind (k := a.op) (by omega) (by omega)
  have hct : ctxA top none a.op a.num a.mun = none := by unfold ctxA; rw [if_neg c6, if_neg c9]
  rw [hct]
  simp [Tryz.f68, a68, reg68, loop68, draw68, dok68, hgm, hid, hid1, hid4, at_lt, set_lt, w1, c1, c2, c3, c4, eq_true c5, k0, k14, k1, k2, k3, k4, k5, har, c6, c9, leave_setb]
end AE
end Go.Proofs.YtejfmdoejokcaaaGreatDoor
