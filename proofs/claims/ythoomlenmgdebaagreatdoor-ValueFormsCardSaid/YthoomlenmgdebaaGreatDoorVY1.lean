/- Values: divisors, weights, the order of elements; evaluated. -/
import Derived.Test.YthoomlenmgdebaaGreatDoorV6
import Derived.Test.YthoomlenmgdebaaGreatDoorAEK
import Derived.Test.YthoomlenmgdebaaGreatDoorV3
import Derived.Test.YthoomlenmgdebaaGreatDoorAF3
import Derived.Test.YthoomlenmgdebaaGreatDoorAG0
set_option linter.unusedVariables false
set_option linter.unusedSimpArgs false
namespace Go.Proofs.YthoomlenmgdebaaGreatDoor
namespace AE
open Go

set_option maxHeartbeats 1000000 in
theorem ev_vgcd (l : List Int) (b : Bool) (hl : l.length ≤ 1000000000) (hp : ∀ w, w ∈ l → 1 ≤ w ∧ w ≤ 1048576) (m : Mem) : evCall C0 121 [.isl b l.length (ints l)] m = some (.ret (.int .i64 (gcdN l)), m) := by
  rw [evCall_body C0 (C0_ext _ (by decide)) (by rw [C0_P]; exact Tryz.func121) rfl (by rw [C0_ann]; rfl) (by decide) (by simp [Tryz.f121])]
  simp [Tryz.f121, evOps_cons, wantA_some, argsTm, ann_keep_121, ann_recov_121, ann_reg_121, reg121, ann_loop_121, loop121, headId, endRound_L, endRound_S, ann_draw_121, draw121, ann_dok_121, dok121, evDraw_cons, drawEnd, chkNeed, kindS, isEff]
  refine loop_in (fun x : Nat × Nat => ⟨[(3, .int .i64 x.2), (6, .isl b l.length (ints l)), (7, .int .i64 l.length), (8, .int .i64 x.1)], m⟩)
    (fun x => some (.ret (.int .i64 (gcdF x.2 (l.drop x.1))), m)) (fun x => l.length - x.1) (fun x => x.1 ≤ l.length ∧ x.2 ≤ 1048576) (0, 0) ?_ ?_ ?_ ?_ ?_
  · simp
  · simp [gcdN]
  · simp
  · intro x; simp [Tryz.f121, evOps_cons, wantA_some, argsTm, ann_keep_121, ann_recov_121, ann_reg_121, reg121, ann_loop_121, loop121, headId, endRound_L, endRound_S, ann_draw_121, draw121, ann_dok_121, dok121, evDraw_cons, drawEnd, chkNeed, kindS, isEff]
  · rintro ⟨i, q⟩ hI hrec
    simp only at hI
    obtain ⟨hi, hq⟩ := hI
    by_cases hlt : i < l.length
    · have w2 : IntKind.i64.wrap (i + 1) = i + 1 := wrap_id _ (by omega)
      have hx := hp l[i] (List.getElem_mem hlt)
      have hat := ints_at hlt
      simp only
      rw [gcdF_drop hlt]
      obtain ⟨n, hn⟩ : ∃ n : Nat, l[i] = n := ⟨l[i].toNat, by omega⟩
      rw [hn] at hx hat ⊢
      simp only [Int.natAbs_natCast]
      have hle : Nat.gcd q n ≤ 1048576 := Nat.le_trans (Nat.le_of_dvd (by omega) (Nat.gcd_dvd_right q n)) (by omega)
      simp [round, Tryz.f121, evOps_cons, wantA_some, argsTm, ann_keep_121, ann_recov_121, ann_reg_121, reg121, ann_loop_121, loop121, headId, endRound_L, endRound_S, ann_draw_121, draw121, ann_dok_121, dok121, evDraw_cons, drawEnd, chkNeed, kindS, isEff, hlt, w2, hat, show i + 1 ≤ l.length by omega]
      rw [loop_mp (fun y : Nat × Nat => ⟨[(3, .int .i64 y.1), (5, .int .i64 y.2), (6, .isl b l.length (ints l)), (7, .int .i64 l.length), (8, .int .i64 i)], m⟩)
        (fun y => some (.normal, ⟨[(3, .int .i64 (Nat.gcd y.1 y.2 : Nat)), (5, .int .i64 0), (6, .isl b l.length (ints l)), (7, .int .i64 l.length), (8, .int .i64 i), (13, .bool false)], m⟩)) (fun y => y.2) (fun y => y.1 ≤ 1048576 ∧ y.2 ≤ 1048576) (q, n) ?_ rfl ?_ ?_ ?_]
      · simp [Tryz.f121, evOps_cons, wantA_some, argsTm, ann_keep_121, ann_recov_121, ann_reg_121, reg121, ann_loop_121, loop121, headId, endRound_L, endRound_S, ann_draw_121, draw121, ann_dok_121, dok121, evDraw_cons, drawEnd, chkNeed, kindS, isEff, w2, endRound_M0]
        refine hrec (i + 1, Nat.gcd q n) _ _ ?_ ?_ ?_ ?_
        · simp; omega
        · exact ⟨by simp; omega, hle⟩
        · simp
        · simp
      · simp [Tryz.f121, evOps_cons, wantA_some, argsTm, ann_keep_121, ann_recov_121, ann_reg_121, reg121, ann_loop_121, loop121, headId, endRound_L, endRound_S, ann_draw_121, draw121, ann_dok_121, dok121, evDraw_cons, drawEnd, chkNeed, kindS, isEff]
      · exact ⟨hq, by omega⟩
      · intro x; simp [Tryz.f121, evOps_cons, wantA_some, argsTm, ann_keep_121, ann_recov_121, ann_reg_121, reg121, ann_loop_121, loop121, headId, endRound_L, endRound_S, ann_draw_121, draw121, ann_dok_121, dok121, evDraw_cons, drawEnd, chkNeed, kindS, isEff]
      · rintro ⟨a, c⟩ ⟨ha, hc⟩ hrec2
        clear hrec
        by_cases h0 : c = 0
        · subst h0
          simp [round, Tryz.f121, evOps_cons, wantA_some, argsTm, ann_keep_121, ann_recov_121, ann_reg_121, reg121, ann_loop_121, loop121, headId, endRound_L, endRound_S, ann_draw_121, draw121, ann_dok_121, dok121, evDraw_cons, drawEnd, chkNeed, kindS, isEff]
        · have ht : (a : Int).tmod (c : Int) = ((a % c : Nat) : Int) := tmod_nat a c
          have hne : ¬ (c : Int) = 0 := by omega
          have hm : a % c < c := Nat.mod_lt _ (by omega)
          simp [round, Tryz.f121, evOps_cons, wantA_some, argsTm, ann_keep_121, ann_recov_121, ann_reg_121, reg121, ann_loop_121, loop121, headId, endRound_L, endRound_S, ann_draw_121, draw121, ann_dok_121, dok121, evDraw_cons, drawEnd, chkNeed, kindS, isEff, h0, ht, endRound_M0]
          refine hrec2 (c, a % c) _ _ ?_ ?_ ?_ ?_
          · exact hm
          · exact ⟨hc, by simp only; omega⟩
          · simp
          · simp only
            rw [Nat.gcd_comm c, ← Nat.gcd_rec, Nat.gcd_comm]
    · clear hrec
      simp [round, Tryz.f121, evOps_cons, wantA_some, argsTm, ann_keep_121, ann_recov_121, ann_reg_121, reg121, ann_loop_121, loop121, headId, endRound_L, endRound_S, ann_draw_121, draw121, ann_dok_121, dok121, evDraw_cons, drawEnd, chkNeed, kindS, isEff, hlt]
      rw [List.drop_eq_nil_of_le (by omega)]
      rfl
set_option maxHeartbeats 1000000 in
theorem ev_vweighed (l : List Int) (b : Bool) (hl : l.length ≤ 1000000000) (m : Mem) : evCall C0 128 [.isl b l.length (ints l)] m = some (.ret (.bool (weighI l 0)), m) := by
  rw [evCall_body C0 (C0_ext _ (by decide)) (by rw [C0_P]; exact Tryz.func128) rfl (by rw [C0_ann]; rfl) (by decide) (by simp [Tryz.f128])]
  simp [Tryz.f128, evOps_cons, wantA_some, argsTm, ann_keep_128, ann_recov_128, ann_reg_128, reg128, ann_loop_128, loop128, headId, endRound_L, endRound_S]
  refine loop_in (fun x : Nat × Int => ⟨[(3, .int .i64 x.2), (6, .isl b l.length (ints l)), (7, .int .i64 l.length), (8, .int .i64 x.1)], m⟩)
    (fun x => some (.ret (.bool (weighI (l.drop x.1) x.2)), m)) (fun x => l.length - x.1) (fun x => x.1 ≤ l.length ∧ 0 ≤ x.2 ∧ x.2 ≤ 1048576) (0, 0) ?_ ?_ ?_ ?_ ?_
  · simp
  · simp
  · simp
  · intro x; simp [Tryz.f128, evOps_cons, wantA_some, argsTm, ann_keep_128, ann_recov_128, ann_reg_128, reg128, ann_loop_128, loop128, headId, endRound_L, endRound_S]
  · rintro ⟨i, q⟩ hI hrec
    simp only at hI
    obtain ⟨hi, hq0, hq⟩ := hI
    by_cases hlt : i < l.length
    · have w2 : IntKind.i64.wrap (i + 1) = i + 1 := wrap_id _ (by omega)
      have hat := ints_at hlt
      have h5 : i + 1 ≤ l.length := by omega
      simp only
      rw [weighI_drop hlt]
      generalize l[i] = x at hat ⊢
      by_cases h1 : x < 1
      · clear hrec
        simp [round, Tryz.f128, evOps_cons, wantA_some, argsTm, ann_keep_128, ann_recov_128, ann_reg_128, reg128, ann_loop_128, loop128, headId, endRound_L, endRound_S, hlt, h5, w2, hat, h1]
      by_cases h2 : 1048576 < x
      · clear hrec
        have h3 : 1048576 - q < x := by omega
        simp [round, Tryz.f128, evOps_cons, wantA_some, argsTm, ann_keep_128, ann_recov_128, ann_reg_128, reg128, ann_loop_128, loop128, headId, endRound_L, endRound_S, hlt, h5, w2, hat, h1, h2, h3]
      have w3 : IntKind.i64.wrap (q + x) = q + x := wrap_id _ (by omega)
      by_cases h4 : 1048576 < q + x
      · clear hrec
        have h3 : 1048576 - q < x := by omega
        simp [round, Tryz.f128, evOps_cons, wantA_some, argsTm, ann_keep_128, ann_recov_128, ann_reg_128, reg128, ann_loop_128, loop128, headId, endRound_L, endRound_S, hlt, h5, w2, w3, hat, h1, h2, h3, h4]
      · have h3 : ¬ 1048576 - q < x := by omega
        simp [round, Tryz.f128, evOps_cons, wantA_some, argsTm, ann_keep_128, ann_recov_128, ann_reg_128, reg128, ann_loop_128, loop128, headId, endRound_L, endRound_S, hlt, h5, w2, w3, hat, h1, h2, h3, h4, endRound_M0]
        refine hrec (i + 1, q + x) _ _ ?_ ?_ ?_ ?_
        · simp; omega
        · simp; omega
        · simp
        · simp
    · clear hrec
      simp [round, Tryz.f128, evOps_cons, wantA_some, argsTm, ann_keep_128, ann_recov_128, ann_reg_128, reg128, ann_loop_128, loop128, headId, endRound_L, endRound_S, hlt]
      rw [List.drop_eq_nil_of_le (by omega), weighI]
end AE
end Go.Proofs.YthoomlenmgdebaaGreatDoor

/- Values: the elements of a set; evaluated. -/
set_option linter.unusedVariables false
set_option linter.unusedSimpArgs false
namespace Go.Proofs.YthoomlenmgdebaaGreatDoor
namespace AE
open Go

/-- What is asked of the elements. -/
def elemB (lo : Bool) (f : Fun) (v : Val) : Bool := (if wtd f.kind then weighI v.ws 0 && decide (v.ws.length = v.args.length) && (decide (f.kind = 6) || decide (0 < v.args.length)) else true) && (lo || exS f v.args v.ws)
theorem weighI_mem {l : List Int} (h : weighI l 0 = true) : ∀ w, w ∈ l → 1 ≤ w ∧ w ≤ 1048576 := by
  have h1 := (weighI_iff l 0 (by omega)).1 h
  intro w hw
  refine ⟨h1.1 w hw, ?_⟩
  have h2 : ∀ l : List Int, (∀ a, a ∈ l → 1 ≤ a) → ∀ w, w ∈ l → w ≤ l.sum := by
    intro l
    induction l with
    | nil => intro _ w hw; cases hw
    | cons x r ih =>
      intro h w hw
      have h3 : 0 ≤ r.sum := by
        clear ih
        have : ∀ r : List Int, (∀ a, a ∈ r → 1 ≤ a) → 0 ≤ r.sum := by
          intro r
          induction r with
          | nil => intro _; simp
          | cons a t ih => intro hh; rw [List.sum_cons]; have := hh a List.mem_cons_self; have := ih (fun b hb => hh b (List.mem_cons_of_mem _ hb)); omega
        exact this r fun a ha => h a (List.mem_cons_of_mem _ ha)
      rw [List.sum_cons]
      rcases List.mem_cons.1 hw with rfl | hw
      · omega
      · have := ih (fun a ha => h a (List.mem_cons_of_mem _ ha)) w hw
        have := h x List.mem_cons_self
        omega
  have := h2 l h1.1 w hw
  omega
set_option maxHeartbeats 4000000 in
theorem ev_elements (id : Nat) (n q : Int) (lo : Bool) (f : Fun) (v : Val) (hk : setsK f.kind = true) (hb : v.nodes ≤ 1000000000) (hs : slimV v) (m : Mem) (hbx : m.bx[id]? = some [.int .i64 n, .int .i64 q, .bool lo]) :
    evCall C0 98 [.ptr id 0, .agg f.cells, .agg v.cells] m = some (.ret (.bool (elemB lo f v)), m) := by
  have hid : id < m.bx.length := (List.getElem?_eq_some_iff.1 hbx).1
  have hg : m.bx[id] = [.int .i64 n, .int .i64 q, .bool lo] := (List.getElem?_eq_some_iff.1 hbx).2
  have hid1 : id < m.bx.length + 2 := by omega
  have hlen := v.length_args
  rw [slimV_eq] at hs
  have hw := ev_vweighed v.ws false hs.1
  have hgc := ev_vgcd v.ws false hs.1
  rw [evCall_body C0 (C0_ext _ (by decide)) (by rw [C0_P]; exact Tryz.func98) rfl (by rw [C0_ann]; rfl) (by decide) (by simp [Tryz.f98])]
  rcases setsK_kind hk with h5 | h6 | h7
  case' inl =>
    cases lo
    case true => simp [Tryz.f98, evOps_cons, wantA_some, argsTm, ann_keep_98, ann_recov_98, ann_reg_98, reg98, ann_loop_98, loop98, headId, endRound_L, endRound_S, ann_draw_98, draw98, ann_dok_98, dok98, evDraw_cons, drawEnd, chkNeed, kindS, isEff, h5, hg, hid, hid1, at_lt, elemB, wtd]
    by_cases hc : v.args.length ≤ 100
    case neg => simp [Tryz.f98, evOps_cons, wantA_some, argsTm, ann_keep_98, ann_recov_98, ann_reg_98, reg98, ann_loop_98, loop98, headId, endRound_L, endRound_S, ann_draw_98, draw98, ann_dok_98, dok98, evDraw_cons, drawEnd, chkNeed, kindS, isEff, h5, hg, hid, hid1, at_lt, elemB, wtd, exS, setsK, hc, show (100 : Int) < v.args.length by omega]
    simp [Tryz.f98, evOps_cons, wantA_some, argsTm, ann_keep_98, ann_recov_98, ann_reg_98, reg98, ann_loop_98, loop98, headId, endRound_L, endRound_S, ann_draw_98, draw98, ann_dok_98, dok98, evDraw_cons, drawEnd, chkNeed, kindS, isEff, h5, hg, hid, hid1, at_lt, elemB, wtd, exS, exN, setsK, hc, show ¬ (100 : Int) < v.args.length by omega]
  case' inr.inl =>
    by_cases hl : v.ws.length = v.args.length
    case neg => simp [Tryz.f98, evOps_cons, wantA_some, argsTm, ann_keep_98, ann_recov_98, ann_reg_98, reg98, ann_loop_98, loop98, headId, endRound_L, endRound_S, ann_draw_98, draw98, ann_dok_98, dok98, evDraw_cons, drawEnd, chkNeed, kindS, isEff, h6, hg, hid, hid1, at_lt, elemB, wtd, hl, show ¬ (v.ws.length : Int) = v.args.length by omega]
    have hl' : (v.ws.length : Int) = v.args.length := by omega
    rw [hl] at hw
    cases hwe : weighI v.ws 0
    case false => simp [Tryz.f98, evOps_cons, wantA_some, argsTm, ann_keep_98, ann_recov_98, ann_reg_98, reg98, ann_loop_98, loop98, headId, endRound_L, endRound_S, ann_draw_98, draw98, ann_dok_98, dok98, evDraw_cons, drawEnd, chkNeed, kindS, isEff, h6, hg, hid, hid1, at_lt, elemB, wtd, hl, hw, hwe]
    cases lo
    case true => simp [Tryz.f98, evOps_cons, wantA_some, argsTm, ann_keep_98, ann_recov_98, ann_reg_98, reg98, ann_loop_98, loop98, headId, endRound_L, endRound_S, ann_draw_98, draw98, ann_dok_98, dok98, evDraw_cons, drawEnd, chkNeed, kindS, isEff, h6, hg, hid, hid1, at_lt, elemB, wtd, hl, hw, hwe]
    by_cases hc : v.args.length ≤ 100
    case neg => simp [Tryz.f98, evOps_cons, wantA_some, argsTm, ann_keep_98, ann_recov_98, ann_reg_98, reg98, ann_loop_98, loop98, headId, endRound_L, endRound_S, ann_draw_98, draw98, ann_dok_98, dok98, evDraw_cons, drawEnd, chkNeed, kindS, isEff, h6, hg, hid, hid1, at_lt, elemB, wtd, hl, hw, hwe, exS, setsK, hc, show (100 : Int) < v.args.length by omega]
    simp [Tryz.f98, evOps_cons, wantA_some, argsTm, ann_keep_98, ann_recov_98, ann_reg_98, reg98, ann_loop_98, loop98, headId, endRound_L, endRound_S, ann_draw_98, draw98, ann_dok_98, dok98, evDraw_cons, drawEnd, chkNeed, kindS, isEff, h6, hg, hid, hid1, at_lt, elemB, wtd, hl, hw, hwe, exS, exN, setsK, hc, show ¬ (100 : Int) < v.args.length by omega]
  case' inr.inr =>
    by_cases hl : v.ws.length = v.args.length
    case neg => simp [Tryz.f98, evOps_cons, wantA_some, argsTm, ann_keep_98, ann_recov_98, ann_reg_98, reg98, ann_loop_98, loop98, headId, endRound_L, endRound_S, ann_draw_98, draw98, ann_dok_98, dok98, evDraw_cons, drawEnd, chkNeed, kindS, isEff, h7, hg, hid, hid1, at_lt, elemB, wtd, hl, show ¬ (v.ws.length : Int) = v.args.length by omega]
    rw [hl] at hw
    cases hwe : weighI v.ws 0
    case false => simp [Tryz.f98, evOps_cons, wantA_some, argsTm, ann_keep_98, ann_recov_98, ann_reg_98, reg98, ann_loop_98, loop98, headId, endRound_L, endRound_S, ann_draw_98, draw98, ann_dok_98, dok98, evDraw_cons, drawEnd, chkNeed, kindS, isEff, h7, hg, hid, hid1, at_lt, elemB, wtd, hl, hw, hwe]
    replace hgc := hgc (weighI_mem hwe)
    rw [hl] at hgc
    by_cases h0 : v.args.length = 0
    case pos =>
      rw [h0] at hw
      simp [Tryz.f98, evOps_cons, wantA_some, argsTm, ann_keep_98, ann_recov_98, ann_reg_98, reg98, ann_loop_98, loop98, headId, endRound_L, endRound_S, ann_draw_98, draw98, ann_dok_98, dok98, evDraw_cons, drawEnd, chkNeed, kindS, isEff, h7, hg, hid, hid1, at_lt, elemB, wtd, hl, hw, hwe, h0]
    cases lo
    case true => simp [Tryz.f98, evOps_cons, wantA_some, argsTm, ann_keep_98, ann_recov_98, ann_reg_98, reg98, ann_loop_98, loop98, headId, endRound_L, endRound_S, ann_draw_98, draw98, ann_dok_98, dok98, evDraw_cons, drawEnd, chkNeed, kindS, isEff, h7, hg, hid, hid1, at_lt, elemB, wtd, hl, hw, hwe, h0, Nat.pos_of_ne_zero h0]
    by_cases hc : v.args.length ≤ 100
    case neg => simp [Tryz.f98, evOps_cons, wantA_some, argsTm, ann_keep_98, ann_recov_98, ann_reg_98, reg98, ann_loop_98, loop98, headId, endRound_L, endRound_S, ann_draw_98, draw98, ann_dok_98, dok98, evDraw_cons, drawEnd, chkNeed, kindS, isEff, h7, hg, hid, hid1, at_lt, elemB, wtd, hl, hw, hwe, exS, setsK, hc, h0, Nat.pos_of_ne_zero h0, show (100 : Int) < v.args.length by omega]
    by_cases hgn : gcdN v.ws = 1
    case neg => simp [Tryz.f98, evOps_cons, wantA_some, argsTm, ann_keep_98, ann_recov_98, ann_reg_98, reg98, ann_loop_98, loop98, headId, endRound_L, endRound_S, ann_draw_98, draw98, ann_dok_98, dok98, evDraw_cons, drawEnd, chkNeed, kindS, isEff, h7, hg, hid, hid1, at_lt, elemB, wtd, hl, hw, hwe, hgc, hgn, exS, exN, setsK, hc, h0, Nat.pos_of_ne_zero h0, show ¬ (100 : Int) < v.args.length by omega, show ¬ (gcdN v.ws : Int) = 1 by omega]
    simp [Tryz.f98, evOps_cons, wantA_some, argsTm, ann_keep_98, ann_recov_98, ann_reg_98, reg98, ann_loop_98, loop98, headId, endRound_L, endRound_S, ann_draw_98, draw98, ann_dok_98, dok98, evDraw_cons, drawEnd, chkNeed, kindS, isEff, h7, hg, hid, hid1, at_lt, elemB, wtd, hl, hw, hwe, hgc, hgn, exS, exN, setsK, hc, h0, Nat.pos_of_ne_zero h0, show ¬ (100 : Int) < v.args.length by omega]
  all_goals
    clear hgc
    refine loop_in (fun i : Nat => ⟨[(5, .ptr (m.bx.length + 1) 0), (7, .int .i64 i)], ⟨m.bx ++ [f.cells, v.cells], m.rw⟩⟩)
      (fun i => some (.ret (.bool (strictL (v.args.drop (i - 1)))), m)) (fun i => v.args.length - i) (fun i => 1 ≤ i) 1 ?_ ?_ ?_ ?_ ?_
    · first | simp [h5] | simp [h6, hl] | simp [h7, hl]
    · simp
    · simp
    · intro x; simp [Tryz.f98, evOps_cons, wantA_some, argsTm, ann_keep_98, ann_recov_98, ann_reg_98, reg98, ann_loop_98, loop98, headId, endRound_L, endRound_S, ann_draw_98, draw98, ann_dok_98, dok98, evDraw_cons, drawEnd, chkNeed, kindS, isEff]
    · intro i hi hrec
      by_cases hlt : i < v.args.length
      · obtain ⟨j, rfl⟩ : ∃ j, i = j + 1 := ⟨i - 1, by omega⟩
        have w1 : IntKind.i64.wrap (j : Int) = j := wrap_id _ (by omega)
        have w2 : IntKind.i64.wrap ((j : Int) + 1 + 1) = j + 1 + 1 := wrap_id _ (by omega)
        have hj : j < v.args.length := by omega
        have hm := Val.nodes_arg (List.getElem_mem hj)
        have he := ev_Compare v.nodes v.args[j] (by omega) (by omega) (slimL_mem hs.2 (List.getElem_mem hj)) v.args[j + 1]
        simp at he
        have h3 : (j + 1) * 3 ≤ v.args.length * 3 := by omega
        have h4 : (j + 1 + 1) * 3 ≤ v.args.length * 3 := by omega
        simp only [Nat.add_sub_cancel]
        rw [strictL_drop hlt]
        by_cases hcm : cmpV v.args[j] v.args[j + 1] < 0
        · simp [round, Tryz.f98, evOps_cons, wantA_some, argsTm, ann_keep_98, ann_recov_98, ann_reg_98, reg98, ann_loop_98, loop98, headId, endRound_L, endRound_S, ann_draw_98, draw98, ann_dok_98, dok98, evDraw_cons, drawEnd, chkNeed, kindS, isEff, show (j : Int) + 1 < v.args.length by omega, hlt, hj, w1, w2, h3, h4, he, show (0 : Int) ≤ (j : Int) + 1 by omega, show ((j : Int) + 1).toNat = j + 1 by omega, show min 3 (v.args.length * 3 - (j + 1) * 3) = 3 by omega, show min 3 (v.args.length * 3 - j * 3) = 3 by omega, hcm, show ¬ 0 ≤ cmpV v.args[j] v.args[j + 1] by omega, endRound_M]
          refine hrec (j + 1 + 1) _ _ ?_ ?_ ?_ ?_
          · omega
          · omega
          · simp
          · simp
        · clear hrec
          simp [round, Tryz.f98, evOps_cons, wantA_some, argsTm, ann_keep_98, ann_recov_98, ann_reg_98, reg98, ann_loop_98, loop98, headId, endRound_L, endRound_S, ann_draw_98, draw98, ann_dok_98, dok98, evDraw_cons, drawEnd, chkNeed, kindS, isEff, show (j : Int) + 1 < v.args.length by omega, hlt, hj, w1, w2, h3, h4, he, show (0 : Int) ≤ (j : Int) + 1 by omega, show ((j : Int) + 1).toNat = j + 1 by omega, show min 3 (v.args.length * 3 - (j + 1) * 3) = 3 by omega, show min 3 (v.args.length * 3 - j * 3) = 3 by omega, hcm, show 0 ≤ cmpV v.args[j] v.args[j + 1] by omega]
      · clear hrec
        simp [round, Tryz.f98, evOps_cons, wantA_some, argsTm, ann_keep_98, ann_recov_98, ann_reg_98, reg98, ann_loop_98, loop98, headId, endRound_L, endRound_S, ann_draw_98, draw98, ann_dok_98, dok98, evDraw_cons, drawEnd, chkNeed, kindS, isEff, show ¬ (i : Int) < v.args.length by omega]
        rw [strictL_end (by omega)]
end AE
end Go.Proofs.YthoomlenmgdebaaGreatDoor

/- Values: the check; evaluated. -/
set_option linter.unusedVariables false
set_option linter.unusedSimpArgs false
namespace Go.Proofs.YthoomlenmgdebaaGreatDoor
namespace AE
open Go

def exOf (lo : Bool) : Fun → List Val → List Int → Bool := if lo then exL else exS
theorem chkV_few {ex : Fun → List Val → List Int → Bool} {n : Int} {v : Val} {f : Fun} {q : Int} (h : q - 1 < 0) : chkV ex n v f q = (false, q - 1) := by rw [chkV_eq, if_pos (.inl h)]
theorem chkV_bad {ex : Fun → List Val → List Int → Bool} {n : Int} {v : Val} {f : Fun} {q : Int} (h : headL n f v.num v.args.length v.ws = false) : chkV ex n v f q = (false, q - 1) := by rw [chkV_eq, if_pos (.inr (.inl h))]
theorem chkV_ex {ex : Fun → List Val → List Int → Bool} {n : Int} {v : Val} {f : Fun} {q : Int} (h : ex f v.args v.ws = false) : chkV ex n v f q = (false, q - 1) := by rw [chkV_eq, if_pos (.inr (.inr h))]
theorem chkV_ok {ex : Fun → List Val → List Int → Bool} {n : Int} {v : Val} {f : Fun} {q : Int} (h : ¬ q - 1 < 0) (hh : headL n f v.num v.args.length v.ws = true) (he : ex f v.args v.ws = true) : chkV ex n v f q = chkL ex n v.args (argF f v.num) 0 (q - 1) := by
  rw [chkV_eq, if_neg]
  rw [hh, he]
  simp [h]
theorem exOf_plain {lo : Bool} {f : Fun} {l : List Val} {w : List Int} (h : setsK f.kind = false) : exOf lo f l w = true := by
  unfold exOf
  cases lo
  · simp [exS, exN, h]
  · simp [exL]
def ChkAt (id : Nat) (n : Int) (lo : Bool) (v : Val) : Prop := ∀ (f : Fun), shapedF f = true → ∀ (q : Int) (m : Mem), -1000000 ≤ q → q ≤ 1000000 → m.bx[id]? = some [.int .i64 n, .int .i64 q, .bool lo] →
    evCall C0 76 [.ptr id 0, .agg f.cells, .agg v.cells] m = some (.ret (.bool (chkV (exOf lo) n v f q).1), ⟨m.bx.set id [.int .i64 n, .int .i64 (chkV (exOf lo) n v f q).2, .bool lo], m.rw⟩)

section
variable {id : Nat} {n : Int} {lo : Bool}
set_option maxHeartbeats 4000000 in
theorem valid_leaf {v : Val} {f : Fun} (hk : f.kind = 0 ∨ f.kind = 1) {q : Int} {m : Mem} (h1 : -1000000 ≤ q) (h2 : q ≤ 1000000) (hbx : m.bx[id]? = some [.int .i64 n, .int .i64 q, .bool lo]) :
    evCall C0 76 [.ptr id 0, .agg f.cells, .agg v.cells] m = some (.ret (.bool (chkV (exOf lo) n v f q).1), ⟨m.bx.set id [.int .i64 n, .int .i64 (chkV (exOf lo) n v f q).2, .bool lo], m.rw⟩) := by
  have hid : id < m.bx.length := (List.getElem?_eq_some_iff.1 hbx).1
  have hg : m.bx[id] = [.int .i64 n, .int .i64 q, .bool lo] := (List.getElem?_eq_some_iff.1 hbx).2
  have hid1 : id < m.bx.length + 2 := by omega
  have w1 : IntKind.i64.wrap (q - 1) = q - 1 := wrap_id _ (by omega)
  rw [evCall_body C0 (C0_ext _ (by decide)) (by rw [C0_P]; exact Tryz.func76) rfl (by rw [C0_ann]; rfl) (by decide) (by simp [Tryz.f76])]
  by_cases c1 : q - 1 < 0
  case pos =>
    rw [chkV_few c1]
    simp [Tryz.f76, evOps_cons, wantA_some, argsTm, ann_keep_76, ann_recov_76, ann_reg_76, reg76, ann_loop_76, loop76, headId, endRound_L, endRound_S, ann_draw_76, draw76, ann_dok_76, dok76, evDraw_cons, drawEnd, chkNeed, kindS, isEff, hg, hid, hid1, at_lt, set_lt, w1, c1, leave_setb]
  by_cases cw : v.ws.length = 0
  case neg =>
    rcases hk with hk | hk
    all_goals
      rw [chkV_bad (by simp [headL, wtd, hk, cw])]
      simp [Tryz.f76, evOps_cons, wantA_some, argsTm, ann_keep_76, ann_recov_76, ann_reg_76, reg76, ann_loop_76, loop76, headId, endRound_L, endRound_S, ann_draw_76, draw76, ann_dok_76, dok76, evDraw_cons, drawEnd, chkNeed, kindS, isEff, hg, hid, hid1, at_lt, set_lt, w1, c1, hk, cw, leave_setb]
  by_cases ca : v.args.length = 0
  case neg =>
    rcases hk with hk | hk
    all_goals
      rw [chkV_bad (by simp [headL, hk, ca])]
      simp [Tryz.f76, evOps_cons, wantA_some, argsTm, ann_keep_76, ann_recov_76, ann_reg_76, reg76, ann_loop_76, loop76, headId, endRound_L, endRound_S, ann_draw_76, draw76, ann_dok_76, dok76, evDraw_cons, drawEnd, chkNeed, kindS, isEff, hg, hid, hid1, at_lt, set_lt, w1, c1, hk, cw, ca, show ¬ (v.args.length : Int) = 0 by omega, show ¬ v.args = [] from fun h => ca (by rw [h]; rfl), leave_setb]
  by_cases c3 : 0 ≤ v.num
  case neg =>
    rcases hk with hk | hk
    all_goals
      rw [chkV_bad (by simp [headL, hk, c3])]
      simp [Tryz.f76, evOps_cons, wantA_some, argsTm, ann_keep_76, ann_recov_76, ann_reg_76, reg76, ann_loop_76, loop76, headId, endRound_L, endRound_S, ann_draw_76, draw76, ann_dok_76, dok76, evDraw_cons, drawEnd, chkNeed, kindS, isEff, hg, hid, hid1, at_lt, set_lt, w1, c1, hk, cw, ca, c3, leave_setb]
  have hl : v.args = [] := List.eq_nil_of_length_eq_zero ca
  rcases hk with hk | hk
  · by_cases c4 : v.num < n
    · rw [chkV_ok c1 (by simp [headL, wtd, hk, ca, cw, c3]; omega) (exOf_plain (by rw [hk]; rfl)), hl, chkL]
      simp [Tryz.f76, evOps_cons, wantA_some, argsTm, ann_keep_76, ann_recov_76, ann_reg_76, reg76, ann_loop_76, loop76, headId, endRound_L, endRound_S, ann_draw_76, draw76, ann_dok_76, dok76, evDraw_cons, drawEnd, chkNeed, kindS, isEff, hg, hid, hid1, at_lt, set_lt, w1, c1, hk, cw, ca, c3, c4, leave_setb]
    · rw [chkV_bad (by simp [headL, hk, ca, c3]; omega)]
      simp [Tryz.f76, evOps_cons, wantA_some, argsTm, ann_keep_76, ann_recov_76, ann_reg_76, reg76, ann_loop_76, loop76, headId, endRound_L, endRound_S, ann_draw_76, draw76, ann_dok_76, dok76, evDraw_cons, drawEnd, chkNeed, kindS, isEff, hg, hid, hid1, at_lt, set_lt, w1, c1, hk, cw, ca, c3, c4, leave_setb]
  · by_cases c4 : v.num < f.num
    · rw [chkV_ok c1 (by simp [headL, wtd, hk, ca, cw, c3]; omega) (exOf_plain (by rw [hk]; rfl)), hl, chkL]
      simp [Tryz.f76, evOps_cons, wantA_some, argsTm, ann_keep_76, ann_recov_76, ann_reg_76, reg76, ann_loop_76, loop76, headId, endRound_L, endRound_S, ann_draw_76, draw76, ann_dok_76, dok76, evDraw_cons, drawEnd, chkNeed, kindS, isEff, hg, hid, hid1, at_lt, set_lt, w1, c1, hk, cw, ca, c3, c4, leave_setb]
    · rw [chkV_bad (by simp [headL, hk, ca, c3]; omega)]
      simp [Tryz.f76, evOps_cons, wantA_some, argsTm, ann_keep_76, ann_recov_76, ann_reg_76, reg76, ann_loop_76, loop76, headId, endRound_L, endRound_S, ann_draw_76, draw76, ann_dok_76, dok76, evDraw_cons, drawEnd, chkNeed, kindS, isEff, hg, hid, hid1, at_lt, set_lt, w1, c1, hk, cw, ca, c3, c4, leave_setb]
set_option maxHeartbeats 4000000 in
theorem valid_prod {v : Val} {f : Fun} (hf : shapedF f = true) (hk : f.kind = 2) (hfl : f.args.length = 2) (H : ∀ u, u ∈ v.args → ChkAt id n lo u) {q : Int} {m : Mem} (h1 : -1000000 ≤ q) (h2 : q ≤ 1000000) (hbx : m.bx[id]? = some [.int .i64 n, .int .i64 q, .bool lo]) :
    evCall C0 76 [.ptr id 0, .agg f.cells, .agg v.cells] m = some (.ret (.bool (chkV (exOf lo) n v f q).1), ⟨m.bx.set id [.int .i64 n, .int .i64 (chkV (exOf lo) n v f q).2, .bool lo], m.rw⟩) := by
  have hid : id < m.bx.length := (List.getElem?_eq_some_iff.1 hbx).1
  have hg : m.bx[id] = [.int .i64 n, .int .i64 q, .bool lo] := (List.getElem?_eq_some_iff.1 hbx).2
  have hid1 : id < m.bx.length + 2 := by omega
  have w1 : IntKind.i64.wrap (q - 1) = q - 1 := wrap_id _ (by omega)
  rw [evCall_body C0 (C0_ext _ (by decide)) (by rw [C0_P]; exact Tryz.func76) rfl (by rw [C0_ann]; rfl) (by decide) (by simp [Tryz.f76])]
  by_cases c1 : q - 1 < 0
  case pos =>
    rw [chkV_few c1]
    simp [Tryz.f76, evOps_cons, wantA_some, argsTm, ann_keep_76, ann_recov_76, ann_reg_76, reg76, ann_loop_76, loop76, headId, endRound_L, endRound_S, ann_draw_76, draw76, ann_dok_76, dok76, evDraw_cons, drawEnd, chkNeed, kindS, isEff, hg, hid, hid1, at_lt, set_lt, w1, c1, leave_setb]
  by_cases cw : v.ws.length = 0
  case neg =>
    rw [chkV_bad (by simp [headL, wtd, hk, cw])]
    simp [Tryz.f76, evOps_cons, wantA_some, argsTm, ann_keep_76, ann_recov_76, ann_reg_76, reg76, ann_loop_76, loop76, headId, endRound_L, endRound_S, ann_draw_76, draw76, ann_dok_76, dok76, evDraw_cons, drawEnd, chkNeed, kindS, isEff, hg, hid, hid1, at_lt, set_lt, w1, c1, hk, cw, leave_setb]
  by_cases cn : v.num = 0
  case neg =>
    rw [chkV_bad (by simp [headL, wtd, hk]; omega)]
    simp [Tryz.f76, evOps_cons, wantA_some, argsTm, ann_keep_76, ann_recov_76, ann_reg_76, reg76, ann_loop_76, loop76, headId, endRound_L, endRound_S, ann_draw_76, draw76, ann_dok_76, dok76, evDraw_cons, drawEnd, chkNeed, kindS, isEff, hg, hid, hid1, at_lt, set_lt, w1, c1, hk, cw, cn, leave_setb]
  by_cases ca : v.args.length = 2
  case neg =>
    rw [chkV_bad (by simp [headL, hk, hfl]; omega)]
    simp [Tryz.f76, evOps_cons, wantA_some, argsTm, ann_keep_76, ann_recov_76, ann_reg_76, reg76, ann_loop_76, loop76, headId, endRound_L, endRound_S, ann_draw_76, draw76, ann_dok_76, dok76, evDraw_cons, drawEnd, chkNeed, kindS, isEff, hg, hid, hid1, at_lt, set_lt, w1, c1, hk, cw, cn, ca, show ¬ (v.args.length : Int) = 2 by omega, leave_setb]
  have a0 : 0 < v.args.length := by omega
  have a1 : 1 < v.args.length := by omega
  have f0 : 0 < f.args.length := by omega
  have f1 : 1 < f.args.length := by omega
  have g0 : argF f v.num 0 = f.args[0] := by unfold argF; rw [if_pos hk, List.getD_eq_getElem?_getD, List.getElem?_eq_getElem f0]; rfl
  have g1 : argF f v.num 1 = f.args[1] := by unfold argF; rw [if_pos hk, List.getD_eq_getElem?_getD, List.getElem?_eq_getElem f1]; rfl
  rw [chkV_ok c1 (by simp [headL, wtd, hk, hfl, ca, cw, cn]) (exOf_plain (by rw [hk]; rfl))]
  have e0 := chkL_drop (ex := exOf lo) (n := n) a0 (argF f v.num) (q - 1)
  rw [List.drop_zero] at e0
  rw [e0, g0]
  have b1 := Fun.at_cellsL f.args 0 f0
  have b2 := Fun.at_cellsL f.args 1 f1
  have b3 := Val.at_cellsL v.args 0 a0
  have b4 := Val.at_cellsL v.args 1 a1
  simp at b1 b2 b3 b4
  have he0 := H v.args[0] (List.getElem_mem a0) f.args[0] (shaped_arg hf f0) (q - 1) ⟨m.bx.set id [.int .i64 n, .int .i64 (q - 1), .bool lo] ++ [f.cells, v.cells], m.rw⟩ (by omega) (by omega) (by simp [hid, at_lt])
  simp [hid, set_lt, hk, hfl, cn, ca, cw] at he0
  have hle := chkV_le (exOf lo) n v.args[0] f.args[0] (q - 1)
  have hpos := chkV_pos (exOf lo) n v.args[0] f.args[0] (q - 1) (by omega)
  cases hc : (chkV (exOf lo) n v.args[0] f.args[0] (q - 1)).1
  · simp [hc] at he0
    simp [Tryz.f76, evOps_cons, wantA_some, argsTm, ann_keep_76, ann_recov_76, ann_reg_76, reg76, ann_loop_76, loop76, headId, endRound_L, endRound_S, ann_draw_76, draw76, ann_dok_76, dok76, evDraw_cons, drawEnd, chkNeed, kindS, isEff, hg, hid, hid1, at_lt, set_lt, w1, c1, hk, cw, cn, ca, hfl, b1, b2, b3, b4, he0, leave_setb]
  · replace hpos := hpos hc
    simp [hc] at he0
    generalize (chkV (exOf lo) n v.args[0] f.args[0] (q - 1)).2 = q1 at he0 hle hpos ⊢
    rw [if_pos rfl, chkL_drop a1 (argF f v.num) q1, g1, List.drop_eq_nil_of_le (show v.args.length ≤ 1 + 1 by omega), chkL]
    have he1 := H v.args[1] (List.getElem_mem a1) f.args[1] (shaped_arg hf f1) q1 ⟨m.bx.set id [.int .i64 n, .int .i64 q1, .bool lo] ++ [f.cells, v.cells], m.rw⟩ (by omega) (by omega) (by simp [hid, at_lt])
    simp [hid, set_lt, hk, hfl, cn, ca, cw] at he1
    cases hc1 : (chkV (exOf lo) n v.args[1] f.args[1] q1).1
    · simp [hc1] at he1
      simp [Tryz.f76, evOps_cons, wantA_some, argsTm, ann_keep_76, ann_recov_76, ann_reg_76, reg76, ann_loop_76, loop76, headId, endRound_L, endRound_S, ann_draw_76, draw76, ann_dok_76, dok76, evDraw_cons, drawEnd, chkNeed, kindS, isEff, hg, hid, hid1, at_lt, set_lt, w1, c1, hk, cw, cn, ca, hfl, b1, b2, b3, b4, he0, he1, leave_setb]
    · simp [hc1] at he1
      simp [Tryz.f76, evOps_cons, wantA_some, argsTm, ann_keep_76, ann_recov_76, ann_reg_76, reg76, ann_loop_76, loop76, headId, endRound_L, endRound_S, ann_draw_76, draw76, ann_dok_76, dok76, evDraw_cons, drawEnd, chkNeed, kindS, isEff, hg, hid, hid1, at_lt, set_lt, w1, c1, hk, cw, cn, ca, hfl, b1, b2, b3, b4, he0, he1, leave_setb]
set_option maxHeartbeats 4000000 in
theorem valid_sum {v : Val} {f : Fun} (hf : shapedF f = true) (hk : f.kind = 3) (hfl : f.args.length = 2) (H : ∀ u, u ∈ v.args → ChkAt id n lo u) {q : Int} {m : Mem} (h1 : -1000000 ≤ q) (h2 : q ≤ 1000000) (hbx : m.bx[id]? = some [.int .i64 n, .int .i64 q, .bool lo]) :
    evCall C0 76 [.ptr id 0, .agg f.cells, .agg v.cells] m = some (.ret (.bool (chkV (exOf lo) n v f q).1), ⟨m.bx.set id [.int .i64 n, .int .i64 (chkV (exOf lo) n v f q).2, .bool lo], m.rw⟩) := by
  have hid : id < m.bx.length := (List.getElem?_eq_some_iff.1 hbx).1
  have hg : m.bx[id] = [.int .i64 n, .int .i64 q, .bool lo] := (List.getElem?_eq_some_iff.1 hbx).2
  have hid1 : id < m.bx.length + 2 := by omega
  have w1 : IntKind.i64.wrap (q - 1) = q - 1 := wrap_id _ (by omega)
  rw [evCall_body C0 (C0_ext _ (by decide)) (by rw [C0_P]; exact Tryz.func76) rfl (by rw [C0_ann]; rfl) (by decide) (by simp [Tryz.f76])]
  by_cases c1 : q - 1 < 0
  case pos =>
    rw [chkV_few c1]
    simp [Tryz.f76, evOps_cons, wantA_some, argsTm, ann_keep_76, ann_recov_76, ann_reg_76, reg76, ann_loop_76, loop76, headId, endRound_L, endRound_S, ann_draw_76, draw76, ann_dok_76, dok76, evDraw_cons, drawEnd, chkNeed, kindS, isEff, hg, hid, hid1, at_lt, set_lt, w1, c1, leave_setb]
  by_cases cw : v.ws.length = 0
  case neg =>
    rw [chkV_bad (by simp [headL, wtd, hk, cw])]
    simp [Tryz.f76, evOps_cons, wantA_some, argsTm, ann_keep_76, ann_recov_76, ann_reg_76, reg76, ann_loop_76, loop76, headId, endRound_L, endRound_S, ann_draw_76, draw76, ann_dok_76, dok76, evDraw_cons, drawEnd, chkNeed, kindS, isEff, hg, hid, hid1, at_lt, set_lt, w1, c1, hk, cw, leave_setb]
  by_cases ca : v.args.length = 1
  case neg =>
    rw [chkV_bad (by simp [headL, hk, hfl]; omega)]
    simp [Tryz.f76, evOps_cons, wantA_some, argsTm, ann_keep_76, ann_recov_76, ann_reg_76, reg76, ann_loop_76, loop76, headId, endRound_L, endRound_S, ann_draw_76, draw76, ann_dok_76, dok76, evDraw_cons, drawEnd, chkNeed, kindS, isEff, hg, hid, hid1, at_lt, set_lt, w1, c1, hk, cw, ca, show ¬ (v.args.length : Int) = 1 by omega, leave_setb]
  have a0 : 0 < v.args.length := by omega
  have f0 : 0 < f.args.length := by omega
  have f1 : 1 < f.args.length := by omega
  have b1 := Fun.at_cellsL f.args 0 f0
  have b2 := Fun.at_cellsL f.args 1 f1
  have b3 := Val.at_cellsL v.args 0 a0
  simp at b1 b2 b3
  by_cases cn : v.num = 0
  · have g0 : argF f v.num 0 = f.args[0] := by unfold argF; rw [if_neg (by omega), if_pos hk, cn, List.getD_eq_getElem?_getD, List.getElem?_eq_getElem (by simpa using f0)]; rfl
    rw [chkV_ok c1 (by simp [headL, wtd, hk, hfl, ca, cw, cn]) (exOf_plain (by rw [hk]; rfl))]
    have e0 := chkL_drop (ex := exOf lo) (n := n) a0 (argF f v.num) (q - 1)
    rw [List.drop_zero] at e0
    rw [e0, g0, List.drop_eq_nil_of_le (show v.args.length ≤ 0 + 1 by omega), chkL]
    have he0 := H v.args[0] (List.getElem_mem a0) f.args[0] (shaped_arg hf f0) (q - 1) ⟨m.bx.set id [.int .i64 n, .int .i64 (q - 1), .bool lo] ++ [f.cells, v.cells], m.rw⟩ (by omega) (by omega) (by simp [hid, at_lt])
    simp [hid, set_lt, hk, hfl, cn, ca, cw] at he0
    cases hc : (chkV (exOf lo) n v.args[0] f.args[0] (q - 1)).1
    · simp [hc] at he0
      simp [Tryz.f76, evOps_cons, wantA_some, argsTm, ann_keep_76, ann_recov_76, ann_reg_76, reg76, ann_loop_76, loop76, headId, endRound_L, endRound_S, ann_draw_76, draw76, ann_dok_76, dok76, evDraw_cons, drawEnd, chkNeed, kindS, isEff, hg, hid, hid1, at_lt, set_lt, w1, c1, hk, cw, cn, ca, hfl, b1, b2, b3, he0, leave_setb]
    · simp [hc] at he0
      simp [Tryz.f76, evOps_cons, wantA_some, argsTm, ann_keep_76, ann_recov_76, ann_reg_76, reg76, ann_loop_76, loop76, headId, endRound_L, endRound_S, ann_draw_76, draw76, ann_dok_76, dok76, evDraw_cons, drawEnd, chkNeed, kindS, isEff, hg, hid, hid1, at_lt, set_lt, w1, c1, hk, cw, cn, ca, hfl, b1, b2, b3, he0, leave_setb]
  by_cases cm : v.num = 1
  · have g0 : argF f v.num 0 = f.args[1] := by unfold argF; rw [if_neg (by omega), if_pos hk, cm, List.getD_eq_getElem?_getD, List.getElem?_eq_getElem (by simpa using f1)]; rfl
    rw [chkV_ok c1 (by simp [headL, wtd, hk, hfl, ca, cw, cm]) (exOf_plain (by rw [hk]; rfl))]
    have e0 := chkL_drop (ex := exOf lo) (n := n) a0 (argF f v.num) (q - 1)
    rw [List.drop_zero] at e0
    rw [e0, g0, List.drop_eq_nil_of_le (show v.args.length ≤ 0 + 1 by omega), chkL]
    have he0 := H v.args[0] (List.getElem_mem a0) f.args[1] (shaped_arg hf f1) (q - 1) ⟨m.bx.set id [.int .i64 n, .int .i64 (q - 1), .bool lo] ++ [f.cells, v.cells], m.rw⟩ (by omega) (by omega) (by simp [hid, at_lt])
    simp [hid, set_lt, hk, hfl, cm, ca, cw] at he0
    cases hc : (chkV (exOf lo) n v.args[0] f.args[1] (q - 1)).1
    · simp [hc] at he0
      simp [Tryz.f76, evOps_cons, wantA_some, argsTm, ann_keep_76, ann_recov_76, ann_reg_76, reg76, ann_loop_76, loop76, headId, endRound_L, endRound_S, ann_draw_76, draw76, ann_dok_76, dok76, evDraw_cons, drawEnd, chkNeed, kindS, isEff, hg, hid, hid1, at_lt, set_lt, w1, c1, hk, cw, cm, ca, hfl, b1, b2, b3, he0, leave_setb]
    · simp [hc] at he0
      simp [Tryz.f76, evOps_cons, wantA_some, argsTm, ann_keep_76, ann_recov_76, ann_reg_76, reg76, ann_loop_76, loop76, headId, endRound_L, endRound_S, ann_draw_76, draw76, ann_dok_76, dok76, evDraw_cons, drawEnd, chkNeed, kindS, isEff, hg, hid, hid1, at_lt, set_lt, w1, c1, hk, cw, cm, ca, hfl, b1, b2, b3, he0, leave_setb]
  · rw [chkV_bad (by simp [headL, wtd, hk]; omega)]
    simp [Tryz.f76, evOps_cons, wantA_some, argsTm, ann_keep_76, ann_recov_76, ann_reg_76, reg76, ann_loop_76, loop76, headId, endRound_L, endRound_S, ann_draw_76, draw76, ann_dok_76, dok76, evDraw_cons, drawEnd, chkNeed, kindS, isEff, hg, hid, hid1, at_lt, set_lt, w1, c1, hk, cw, cn, cm, ca, leave_setb]
end
end AE
end Go.Proofs.YthoomlenmgdebaaGreatDoor

/- Values: the check, whole; evaluated. -/
set_option linter.unusedVariables false
set_option linter.unusedSimpArgs false
namespace Go.Proofs.YthoomlenmgdebaaGreatDoor
namespace AE
open Go

theorem elem_ok {lo : Bool} {n : Int} {f : Fun} {v : Val} (hk : setsK f.kind = true) (h0 : v.num = 0) (h5 : f.kind = 5 → v.ws.length = 0) : elemB lo f v = (headL n f v.num v.args.length v.ws && exOf lo f v.args v.ws) := by
  rw [Bool.eq_iff_iff, Bool.and_eq_true, head_sets hk]
  unfold elemB
  have hx : exOf lo f v.args v.ws = (lo || exS f v.args v.ws) := by
    unfold exOf
    cases lo <;> rfl
  rw [hx, Bool.and_eq_true]
  have : (if wtd f.kind = true then weighI v.ws 0 && decide (v.ws.length = v.args.length) && (decide (f.kind = 6) || decide (0 < v.args.length)) else true) = true ↔ v.num = 0 ∧ (if wtd f.kind = true then weighI v.ws 0 = true ∧ v.ws.length = v.args.length ∧ (f.kind = 6 ∨ 0 < v.args.length) else v.ws.length = 0) := by
    cases hw : wtd f.kind
    · have : f.kind = 5 := by
        unfold setsK at hk
        rw [hw, Bool.or_false] at hk
        simpa using hk
      simp [h0, h5 this]
    · simp [h0, and_assoc]
  rw [this]
section
variable {id : Nat} {n : Int} {lo : Bool}
set_option maxHeartbeats 8000000 in
theorem valid_many {v : Val} {f : Fun} (hf : shapedF f = true) (hk : f.kind = 4 ∨ f.kind = 5 ∨ f.kind = 6 ∨ f.kind = 7) (hfl : f.args.length = 1) (hb : v.nodes ≤ 1000000000) (hs : slimV v) (H : ∀ u, u ∈ v.args → ChkAt id n lo u) {q : Int} {m : Mem} (h1 : -1000000 ≤ q) (h2 : q ≤ 1000000) (hbx : m.bx[id]? = some [.int .i64 n, .int .i64 q, .bool lo]) :
    evCall C0 76 [.ptr id 0, .agg f.cells, .agg v.cells] m = some (.ret (.bool (chkV (exOf lo) n v f q).1), ⟨m.bx.set id [.int .i64 n, .int .i64 (chkV (exOf lo) n v f q).2, .bool lo], m.rw⟩) := by
  have hid : id < m.bx.length := (List.getElem?_eq_some_iff.1 hbx).1
  have hg : m.bx[id] = [.int .i64 n, .int .i64 q, .bool lo] := (List.getElem?_eq_some_iff.1 hbx).2
  have hid1 : id < m.bx.length + 2 := by omega
  have w1 : IntKind.i64.wrap (q - 1) = q - 1 := wrap_id _ (by omega)
  have hlen := v.length_args
  rw [evCall_body C0 (C0_ext _ (by decide)) (by rw [C0_P]; exact Tryz.func76) rfl (by rw [C0_ann]; rfl) (by decide) (by simp [Tryz.f76])]
  by_cases c1 : q - 1 < 0
  case pos =>
    rw [chkV_few c1]
    simp [Tryz.f76, evOps_cons, wantA_some, argsTm, ann_keep_76, ann_recov_76, ann_reg_76, reg76, ann_loop_76, loop76, headId, endRound_L, endRound_S, ann_draw_76, draw76, ann_dok_76, dok76, evDraw_cons, drawEnd, chkNeed, kindS, isEff, hg, hid, hid1, at_lt, set_lt, w1, c1, leave_setb]
  by_cases cn : v.num = 0
  case neg =>
    rw [chkV_bad (by rcases hk with hk | hk | hk | hk <;> simp [headL, wtd, hk] <;> omega)]
    rcases hk with hk | hk | hk | hk
    · by_cases cw : v.ws.length = 0
      · simp [Tryz.f76, evOps_cons, wantA_some, argsTm, ann_keep_76, ann_recov_76, ann_reg_76, reg76, ann_loop_76, loop76, headId, endRound_L, endRound_S, ann_draw_76, draw76, ann_dok_76, dok76, evDraw_cons, drawEnd, chkNeed, kindS, isEff, hg, hid, hid1, at_lt, set_lt, w1, c1, hk, cw, cn, leave_setb]
      · simp [Tryz.f76, evOps_cons, wantA_some, argsTm, ann_keep_76, ann_recov_76, ann_reg_76, reg76, ann_loop_76, loop76, headId, endRound_L, endRound_S, ann_draw_76, draw76, ann_dok_76, dok76, evDraw_cons, drawEnd, chkNeed, kindS, isEff, hg, hid, hid1, at_lt, set_lt, w1, c1, hk, cw, cn, leave_setb]
    · by_cases cw : v.ws.length = 0
      · simp [Tryz.f76, evOps_cons, wantA_some, argsTm, ann_keep_76, ann_recov_76, ann_reg_76, reg76, ann_loop_76, loop76, headId, endRound_L, endRound_S, ann_draw_76, draw76, ann_dok_76, dok76, evDraw_cons, drawEnd, chkNeed, kindS, isEff, hg, hid, hid1, at_lt, set_lt, w1, c1, hk, cw, cn, leave_setb]
      · simp [Tryz.f76, evOps_cons, wantA_some, argsTm, ann_keep_76, ann_recov_76, ann_reg_76, reg76, ann_loop_76, loop76, headId, endRound_L, endRound_S, ann_draw_76, draw76, ann_dok_76, dok76, evDraw_cons, drawEnd, chkNeed, kindS, isEff, hg, hid, hid1, at_lt, set_lt, w1, c1, hk, cw, cn, leave_setb]
    · simp [Tryz.f76, evOps_cons, wantA_some, argsTm, ann_keep_76, ann_recov_76, ann_reg_76, reg76, ann_loop_76, loop76, headId, endRound_L, endRound_S, ann_draw_76, draw76, ann_dok_76, dok76, evDraw_cons, drawEnd, chkNeed, kindS, isEff, hg, hid, hid1, at_lt, set_lt, w1, c1, hk, cn, leave_setb]
    · simp [Tryz.f76, evOps_cons, wantA_some, argsTm, ann_keep_76, ann_recov_76, ann_reg_76, reg76, ann_loop_76, loop76, headId, endRound_L, endRound_S, ann_draw_76, draw76, ann_dok_76, dok76, evDraw_cons, drawEnd, chkNeed, kindS, isEff, hg, hid, hid1, at_lt, set_lt, w1, c1, hk, cn, leave_setb]
  have f0 : 0 < f.args.length := by omega
  have b1 := Fun.at_cellsL f.args 0 f0
  simp at b1
  have g0 : ∀ i, argF f v.num i = f.args[0] := fun i => by unfold argF; rw [if_neg (by omega), if_neg (by omega), List.getD_eq_getElem?_getD, List.getElem?_eq_getElem f0]; rfl
  have hfn := shaped_num hf
  by_cases c4 : f.kind = 4
  case' pos =>
    clear hk
    by_cases cw : v.ws.length = 0
    case neg =>
      rw [chkV_bad (by simp [headL, wtd, c4, cw])]
      simp [Tryz.f76, evOps_cons, wantA_some, argsTm, ann_keep_76, ann_recov_76, ann_reg_76, reg76, ann_loop_76, loop76, headId, endRound_L, endRound_S, ann_draw_76, draw76, ann_dok_76, dok76, evDraw_cons, drawEnd, chkNeed, kindS, isEff, hg, hid, hid1, at_lt, set_lt, w1, c1, c4, cw, leave_setb]
    by_cases ca : (v.args.length : Int) = f.num
    case neg =>
      rw [chkV_bad (by simp [headL, c4]; omega)]
      simp [Tryz.f76, evOps_cons, wantA_some, argsTm, ann_keep_76, ann_recov_76, ann_reg_76, reg76, ann_loop_76, loop76, headId, endRound_L, endRound_S, ann_draw_76, draw76, ann_dok_76, dok76, evDraw_cons, drawEnd, chkNeed, kindS, isEff, hg, hid, hid1, at_lt, set_lt, w1, c1, c4, cw, cn, ca, leave_setb]
    rw [chkV_ok c1 (by simp [headL, wtd, c4, cw, cn, ca]) (exOf_plain (by rw [c4]; rfl))]
    simp [Tryz.f76, evOps_cons, wantA_some, argsTm, ann_keep_76, ann_recov_76, ann_reg_76, reg76, ann_loop_76, loop76, headId, endRound_L, endRound_S, ann_draw_76, draw76, ann_dok_76, dok76, evDraw_cons, drawEnd, chkNeed, kindS, isEff, hg, hid, hid1, at_lt, set_lt, w1, c1, c4, cw, cn, ca, leave_setb]
  case' neg =>
    have hset : setsK f.kind = true := by unfold setsK wtd; simp; omega
    have hel := ev_elements id n (q - 1) lo f v hset hb hs ⟨m.bx.set id [.int .i64 n, .int .i64 (q - 1), .bool lo] ++ [f.cells, v.cells], m.rw⟩ (by simp [hid, at_lt])
    by_cases c5 : f.kind = 5 ∧ ¬ v.ws.length = 0
    case pos =>
      rw [chkV_bad (by simp [headL, wtd, c5.1, c5.2])]
      simp [Tryz.f76, evOps_cons, wantA_some, argsTm, ann_keep_76, ann_recov_76, ann_reg_76, reg76, ann_loop_76, loop76, headId, endRound_L, endRound_S, ann_draw_76, draw76, ann_dok_76, dok76, evDraw_cons, drawEnd, chkNeed, kindS, isEff, hg, hid, hid1, at_lt, set_lt, w1, c1, c5.1, c5.2, cn, leave_setb]
    have h5 : f.kind = 5 → v.ws.length = 0 := fun h => by
      by_cases h' : v.ws.length = 0
      · exact h'
      · exact absurd ⟨h, h'⟩ c5
    have hel2 := elem_ok (lo := lo) (n := n) hset cn h5
    have ke : (¬ f.kind = 0) ∧ (¬ f.kind = 1) ∧ (¬ f.kind = 2) ∧ (¬ f.kind = 3) ∧ 4 ≤ f.kind ∧ (f.kind < 6 ↔ f.kind = 5) := by omega
    obtain ⟨k0, k1, k2, k3, k4, k6⟩ := ke
    simp [cn] at hel
    cases he : elemB lo f v
    case false =>
      rw [he] at hel hel2
      have : chkV (exOf lo) n v f q = (false, q - 1) := by
        cases hh : headL n f v.num v.args.length v.ws
        · exact chkV_bad hh
        · rw [hh, Bool.true_and] at hel2
          exact chkV_ex hel2.symm
      rw [this]
      by_cases c6 : f.kind = 5
      · have cw := h5 c6
        simp [c6, cw] at hel
        simp [Tryz.f76, evOps_cons, wantA_some, argsTm, ann_keep_76, ann_recov_76, ann_reg_76, reg76, ann_loop_76, loop76, headId, endRound_L, endRound_S, ann_draw_76, draw76, ann_dok_76, dok76, evDraw_cons, drawEnd, chkNeed, kindS, isEff, hg, hid, hid1, at_lt, set_lt, w1, c1, c6, cw, cn, hel, leave_setb]
      · simp [Tryz.f76, evOps_cons, wantA_some, argsTm, ann_keep_76, ann_recov_76, ann_reg_76, reg76, ann_loop_76, loop76, headId, endRound_L, endRound_S, ann_draw_76, draw76, ann_dok_76, dok76, evDraw_cons, drawEnd, chkNeed, kindS, isEff, hg, hid, hid1, at_lt, set_lt, w1, c1, k0, k1, k2, k3, k4, k6, c4, c6, cn, hel, leave_setb]
    rw [he] at hel hel2
    have hel3 := Bool.and_eq_true_iff.1 hel2.symm
    rw [chkV_ok c1 hel3.1 hel3.2]
    by_cases c6 : f.kind = 5
    case' pos =>
      have cw := h5 c6
      simp [c6, cw] at hel
      simp [Tryz.f76, evOps_cons, wantA_some, argsTm, ann_keep_76, ann_recov_76, ann_reg_76, reg76, ann_loop_76, loop76, headId, endRound_L, endRound_S, ann_draw_76, draw76, ann_dok_76, dok76, evDraw_cons, drawEnd, chkNeed, kindS, isEff, hg, hid, hid1, at_lt, set_lt, w1, c1, c6, cw, cn, hel, leave_setb]
    case' neg =>
      simp [Tryz.f76, evOps_cons, wantA_some, argsTm, ann_keep_76, ann_recov_76, ann_reg_76, reg76, ann_loop_76, loop76, headId, endRound_L, endRound_S, ann_draw_76, draw76, ann_dok_76, dok76, evDraw_cons, drawEnd, chkNeed, kindS, isEff, hg, hid, hid1, at_lt, set_lt, w1, c1, k0, k1, k2, k3, k4, k6, c4, c6, cn, hel, leave_setb]
  all_goals
    refine loop_in (fun x : Nat × Int => ⟨[(0, .ptr id 0), (4, .ptr m.bx.length 0), (153, .isl false v.args.length (Val.cellsL v.args)), (154, .int .i64 v.args.length), (155, .int .i64 x.1)], ⟨m.bx.set id [.int .i64 n, .int .i64 x.2, .bool lo] ++ [f.cells, v.cells], m.rw⟩⟩)
      (fun x => some (.ret (.bool (chkL (exOf lo) n (v.args.drop x.1) (argF f v.num) x.1 x.2).1), ⟨m.bx.set id [.int .i64 n, .int .i64 (chkL (exOf lo) n (v.args.drop x.1) (argF f v.num) x.1 x.2).2, .bool lo], m.rw⟩)) (fun x => v.args.length - x.1) (fun x => x.1 ≤ v.args.length ∧ 0 ≤ x.2 ∧ x.2 ≤ 1000000) (0, q - 1) ?_ ?_ ?_ ?_ ?_
    · first | simp [c6, cw, cn] | simp [c4, cw, cn, ca] | simp [cn]
    · simp [cn]
    · simp; omega
    · intro x; simp [Tryz.f76, evOps_cons, wantA_some, argsTm, ann_keep_76, ann_recov_76, ann_reg_76, reg76, ann_loop_76, loop76, headId, endRound_L, endRound_S, ann_draw_76, draw76, ann_dok_76, dok76, evDraw_cons, drawEnd, chkNeed, kindS, isEff]
    · rintro ⟨i, p⟩ hI hrec
      simp only at hI
      obtain ⟨hi, hp1, hp2⟩ := hI
      by_cases hlt : i < v.args.length
      · have w2 : IntKind.i64.wrap (i + 1) = i + 1 := wrap_id _ (by omega)
        have h3 : (i + 1) * 3 ≤ v.args.length * 3 := by omega
        have he := H v.args[i] (List.getElem_mem hlt) f.args[0] (shaped_arg hf f0) p ⟨m.bx.set id [.int .i64 n, .int .i64 p, .bool lo] ++ [f.cells, v.cells, v.args[i].cells], m.rw⟩ (by omega) (by omega) (by simp [hid, at_lt])
        simp [hid, set_lt] at he
        have hle := chkV_le (exOf lo) n v.args[i] f.args[0] p
        have hpos := chkV_pos (exOf lo) n v.args[i] f.args[0] p (by omega)
        simp only
        rw [chkL_drop hlt, g0]
        cases hc : (chkV (exOf lo) n v.args[i] f.args[0] p).1
        · simp [hc] at he
          clear hrec
          simp [round, Tryz.f76, evOps_cons, wantA_some, argsTm, ann_keep_76, ann_recov_76, ann_reg_76, reg76, ann_loop_76, loop76, headId, endRound_L, endRound_S, ann_draw_76, draw76, ann_dok_76, dok76, evDraw_cons, drawEnd, chkNeed, kindS, isEff, hlt, w2, h3, f0, show 3 ≤ f.args.length * 3 by omega, b1, hid, hid1, at_lt, set_lt, he, leave_setb]
        · simp [hc] at he
          replace hpos := hpos hc
          simp [round, Tryz.f76, evOps_cons, wantA_some, argsTm, ann_keep_76, ann_recov_76, ann_reg_76, reg76, ann_loop_76, loop76, headId, endRound_L, endRound_S, ann_draw_76, draw76, ann_dok_76, dok76, evDraw_cons, drawEnd, chkNeed, kindS, isEff, hlt, w2, h3, f0, show 3 ≤ f.args.length * 3 by omega, b1, hid, hid1, at_lt, set_lt, he, leave_setb]
          refine hrec (i + 1, (chkV (exOf lo) n v.args[i] f.args[0] p).2) _ _ ?_ ?_ ?_ ?_
          · simp; omega
          · simp; omega
          · simp
          · simp
      · clear hrec
        simp [round, Tryz.f76, evOps_cons, wantA_some, argsTm, ann_keep_76, ann_recov_76, ann_reg_76, reg76, ann_loop_76, loop76, headId, endRound_L, endRound_S, ann_draw_76, draw76, ann_dok_76, dok76, evDraw_cons, drawEnd, chkNeed, kindS, isEff, hlt, hid, hid1, at_lt, set_lt, leave_setb]
        rw [List.drop_eq_nil_of_le (by omega), chkL]
        simp
end
end AE
end Go.Proofs.YthoomlenmgdebaaGreatDoor

/- Values: Valid, Check; evaluated. -/
set_option linter.unusedVariables false
set_option linter.unusedSimpArgs false
namespace Go.Proofs.YthoomlenmgdebaaGreatDoor
namespace AE
open Go

theorem ev_vcheck (id : Nat) (n : Int) (lo : Bool) (N : Nat) : ∀ (v : Val), v.nodes ≤ N → v.nodes ≤ 1000000000 → slimV v → ChkAt id n lo v := by
  induction N with
  | zero => intro v hN; have := v.nodes_pos; omega
  | succ N ih =>
  intro v hN hb hs f hf q m h1 h2 hbx
  have hs' := (slimV_eq v ▸ hs).2
  have H : ∀ u, u ∈ v.args → ChkAt id n lo u := fun u hu => ih u (by have := Val.nodes_arg hu; omega) (by have := Val.nodes_arg hu; omega) (slimL_mem hs' hu)
  rcases shaped_kind hf with ⟨h, hl⟩ | ⟨h, hl⟩ | ⟨h, hl⟩ | ⟨h, hl⟩ | ⟨h, hl⟩ | ⟨h, hl⟩ | ⟨h, hl⟩ | ⟨h, hl⟩
  · exact valid_leaf (.inl h) h1 h2 hbx
  · exact valid_leaf (.inr h) h1 h2 hbx
  · exact valid_prod hf h hl H h1 h2 hbx
  · exact valid_sum hf h hl H h1 h2 hbx
  · exact valid_many hf (.inl h) hl hb hs H h1 h2 hbx
  · exact valid_many hf (.inr (.inl h)) hl hb hs H h1 h2 hbx
  · exact valid_many hf (.inr (.inr (.inl h))) hl hb hs H h1 h2 hbx
  · exact valid_many hf (.inr (.inr (.inr h))) hl hb hs H h1 h2 hbx
theorem ev_VValid (f : Fun) (n : Int) (v : Val) (hf : shapedF f = true) (hb : v.nodes ≤ 1000000000) (hs : slimV v) (m : Mem) : evCall C0 62 [.agg f.cells, .int .i64 n, .agg v.cells] m = some (.ret (.bool (chkV exS n v f 2000).1), m) := by
  rw [evCall_body C0 (C0_ext _ (by decide)) (by rw [C0_P]; exact Tryz.func62) rfl (by rw [C0_ann]; rfl) (by decide) (by simp [Tryz.f62])]
  have he := ev_vcheck (m.bx.length + 2) n false v.nodes v (Nat.le_refl _) hb hs f hf 2000 ⟨m.bx ++ [f.cells, v.cells, [.int .i64 n, .int .i64 2000, .bool false]], m.rw⟩ (by omega) (by omega) (by simp)
  rw [show exOf false = exS from rfl] at he
  simp at he
  simp [Tryz.f62, evOps_cons, wantA_some, argsTm, ann_keep_62, ann_recov_62, ann_reg_62, reg62, he]
/-- The error of a functor and a number of states. -/
def errF (f : Fun) (n : Int) : Int := if okF f then (if n < 0 ∨ 100 < n then 1 else 0) else 10
theorem ev_fine (f : Fun) (n : Int) (hb : f.nodes ≤ 1000000000) (m : Mem) : evCall C0 43 [.agg f.cells, .int .i64 n] m = some (.ret (.int .i64 (errF f n)), m) := by
  rw [evCall_body C0 (C0_ext _ (by decide)) (by rw [C0_P]; exact Tryz.func43) rfl (by rw [C0_ann]; rfl) (by decide) (by simp [Tryz.f43])]
  have he := ev_Valid f hb
  simp at he
  unfold errF
  cases hc : okF f
  · simp [hc] at he
    simp [Tryz.f43, evOps_cons, wantA_some, argsTm, ann_keep_43, ann_recov_43, ann_reg_43, reg43, he]
  · simp [hc] at he
    by_cases h1 : n < 0
    · simp [Tryz.f43, evOps_cons, wantA_some, argsTm, ann_keep_43, ann_recov_43, ann_reg_43, reg43, he, h1]
    · by_cases h2 : 100 < n
      · simp [Tryz.f43, evOps_cons, wantA_some, argsTm, ann_keep_43, ann_recov_43, ann_reg_43, reg43, he, h1, h2]
      · simp [Tryz.f43, evOps_cons, wantA_some, argsTm, ann_keep_43, ann_recov_43, ann_reg_43, reg43, he, h1, h2]
/-- The error of a functor, a number of states and a value. -/
def errV (f : Fun) (n : Int) (v : Val) : Int := if errF f n = 0 then (if (chkV exS n v f 2000).1 then 0 else 20) else errF f n
theorem errF_zero {f : Fun} {n : Int} (h : errF f n = 0) : shapedF f = true ∧ 0 ≤ n ∧ n ≤ 100 := by
  unfold errF at h
  cases hc : okF f
  · rw [hc] at h; simp at h
  · rw [hc, if_pos rfl] at h
    refine ⟨?_, ?_⟩
    · unfold okF at hc
      exact (((validF_spec f 20 1 (by omega)).1).1 hc).2.2
    · split at h
      · cases h
      · omega
theorem ev_whole (f : Fun) (n : Int) (v : Val) (hbf : f.nodes ≤ 1000000000) (hb : v.nodes ≤ 1000000000) (hs : slimV v) (m : Mem) : evCall C0 31 [.agg f.cells, .int .i64 n, .agg v.cells] m = some (.ret (.int .i64 (errV f n v)), m) := by
  rw [evCall_body C0 (C0_ext _ (by decide)) (by rw [C0_P]; exact Tryz.func31) rfl (by rw [C0_ann]; rfl) (by decide) (by simp [Tryz.f31])]
  have he := ev_fine f n hbf
  simp at he
  unfold errV
  by_cases h0 : errF f n = 0
  · have h1 := ev_VValid f n v (errF_zero h0).1 hb hs
    simp at h1
    simp [h0] at he
    cases hc : (chkV exS n v f 2000).1
    · simp [hc] at h1
      simp [Tryz.f31, evOps_cons, wantA_some, argsTm, ann_keep_31, ann_recov_31, ann_reg_31, reg31, he, h1, h0]
    · simp [hc] at h1
      simp [Tryz.f31, evOps_cons, wantA_some, argsTm, ann_keep_31, ann_recov_31, ann_reg_31, reg31, he, h1, h0]
  · simp [Tryz.f31, evOps_cons, wantA_some, argsTm, ann_keep_31, ann_recov_31, ann_reg_31, reg31, he, h0]
theorem ev_VCheck (f : Fun) (n : Int) (v : Val) (hbf : f.nodes ≤ 1000000000) (hb : v.nodes ≤ 1000000000) (hs : slimV v) (m : Mem) : evCall C0 21 [.agg f.cells, .int .i64 n, .agg v.cells] m = some (.ret (.int .i64 (errV f n v)), m) := by
  rw [evCall_body C0 (C0_ext _ (by decide)) (by rw [C0_P]; exact Tryz.func21) rfl (by rw [C0_ann]; rfl) (by decide) (by simp [Tryz.f21])]
  have he := ev_whole f n v hbf hb hs
  simp at he
  simp [Tryz.f21, evOps_cons, wantA_some, argsTm, ann_keep_21, ann_recov_21, ann_reg_21, reg21, he]
end AE
end Go.Proofs.YthoomlenmgdebaaGreatDoor
