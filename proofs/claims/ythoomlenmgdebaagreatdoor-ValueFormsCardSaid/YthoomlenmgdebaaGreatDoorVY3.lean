/- The normal form: its size; heads; plain laws. -/
import Derived.Test.YthoomlenmgdebaaGreatDoorVL
set_option linter.unusedVariables false
set_option linter.unusedSimpArgs false
namespace Go.Proofs.YthoomlenmgdebaaGreatDoor
namespace AE
open Go

theorem nodesL_ins (u : Val) (w : Int) : ∀ o : List (Val × Int), Val.nodesL ((insP u w o).map (·.1)) ≤ u.nodes + Val.nodesL (o.map (·.1)) ∧ (insP u w o).length ≤ o.length + 1
  | [] => by rw [insP]; simp [Val.nodesL]
  | p :: r => by
    rw [insP]
    have := nodesL_ins u w r
    split
    · simp [Val.nodesL] <;> omega
    · split
      · simp [Val.nodesL]
      · simp [Val.nodesL] <;> omega
theorem nodesL_merge : ∀ l o : List (Val × Int), Val.nodesL ((mergeF o l).map (·.1)) ≤ Val.nodesL (l.map (·.1)) + Val.nodesL (o.map (·.1)) ∧ (mergeF o l).length ≤ l.length + o.length
  | [], o => by simp [mergeF, Val.nodesL]
  | p :: r, o => by
    have h1 := nodesL_merge r (insP p.1 p.2 o)
    have h2 := nodesL_ins p.1 p.2 o
    rw [show mergeF o (p :: r) = mergeF (insP p.1 p.2 o) r from rfl]
    simp [Val.nodesL]
    omega
theorem slimL_of {l : List Val} (h : ∀ x, x ∈ l → slimV x) : slimL l := by
  induction l with
  | nil => rw [slimL]; trivial
  | cons a r ih => rw [slimL]; exact ⟨h a List.mem_cons_self, ih fun x hx => h x (List.mem_cons_of_mem _ hx)⟩
theorem mem_nodes {v : Val} {l : List Val} (h : v ∈ l) : v.nodes ≤ Val.nodesL l := Val.nodes_mem h
mutual
theorem norm_nodes (n : Int) : ∀ (v : Val) (f : Fun) (y : Val), slimV v → v.nodes ≤ 1000000000 → normV n v f = some y → y.nodes ≤ v.nodes ∧ slimV y
  | .mk k l w, f, y, hs, hb, h => by
    rw [slimV_eq] at hs
    rw [Val.nodes_eq] at hb
    rw [normV] at h
    split at h
    · rename_i hh
      simp only [Option.map_eq_some_iff] at h
      obtain ⟨xs, hx, rfl⟩ := h
      have hl := normL_length n _ _ _ _ hx
      have ho := normL_nodes n l (argF f k) 0 xs hs.2 (by simp only [Val.args_mk] at hb; omega) hx
      have hll := Val.length_nodesL l
      simp only [Val.args_mk] at hb
      split
      · unfold mergeV
        rw [Val.nodes_eq, Val.nodes_eq, slimV_eq]
        simp only [Val.args_mk, Val.ws_mk]
        have h1 := nodesL_merge (xs.zip (wsOf f.kind xs w)) []
        have h2 : Val.nodesL ((xs.zip (wsOf f.kind xs w)).map (·.1)) ≤ Val.nodesL xs := by
          have : ∀ (a : List Val) (b : List Int), Val.nodesL ((a.zip b).map (·.1)) ≤ Val.nodesL a := by
            intro a
            induction a with
            | nil => intro b; simp [Val.nodesL]
            | cons x r ih =>
              intro b
              cases b with
              | nil => simp [Val.nodesL]
              | cons y t => simp [Val.nodesL]; exact ih t
          exact this _ _
        have h3 : (xs.zip (wsOf f.kind xs w)).length ≤ xs.length := by rw [List.length_zip]; omega
        simp only [List.map_nil, List.length_nil, Val.nodesL] at h1
        unfold mergeP
        refine ⟨by omega, ?_, slimL_of fun x hx' => ?_⟩
        · split
          · unfold divG; simp; omega
          · split
            · simp; omega
            · simp
        · obtain ⟨p, hp, rfl⟩ := List.mem_map.1 hx'
          rcases mergeF_fst _ _ p hp with ⟨q, h4, h5⟩ | ⟨q, h4, _⟩
          · rw [h5]; exact slimL_mem ho.2 (zip_fst h4).1
          · cases h4
      · rw [Val.nodes_eq, Val.nodes_eq, slimV_eq]
        simp only [Val.args_mk, Val.ws_mk]
        exact ⟨by omega, hs.1, ho.2⟩
    · cases h
theorem normL_nodes (n : Int) : ∀ (l : List Val) (g : Nat → Fun) (i : Nat) (xs : List Val), slimL l → Val.nodesL l ≤ 1000000000 → normL n l g i = some xs → Val.nodesL xs ≤ Val.nodesL l ∧ slimL xs
  | [], g, i, xs, hs, hb, h => by rw [normL] at h; cases h; exact ⟨Nat.le_refl _, hs⟩
  | v :: r, g, i, xs, hs, hb, h => by
    rw [normL] at h
    rw [slimL] at hs
    rw [Val.nodesL] at hb
    simp only [Option.bind_eq_some_iff, Option.map_eq_some_iff] at h
    obtain ⟨x, h1, y, h2, rfl⟩ := h
    have a := norm_nodes n v (g i) x hs.1 (by omega) h1
    have b := normL_nodes n r g (i + 1) y hs.2 (by omega) h2
    rw [Val.nodesL, Val.nodesL, slimL]
    exact ⟨by omega, a.2, b.2⟩
end
theorem parts_at {f : Fun} {v : Val} (hf : shapedF f = true) (hp : partsB f v = true) : (partsL f v).length = v.args.length ∧ ∀ i (h : i < (partsL f v).length), (partsL f v)[i] = argF f v.num i := by
  unfold partsB at hp
  rw [Bool.and_eq_true, decide_eq_true_eq] at hp
  refine ⟨hp.1, fun i h => ?_⟩
  have hk := shaped_kind hf
  revert h
  unfold partsL argF
  by_cases h0 : f.kind = 0 ∨ f.kind = 1
  · rw [if_pos h0]; intro h; simp at h
  rw [if_neg h0]
  by_cases h2 : f.kind = 2
  · rw [if_pos h2, if_pos h2]
    intro h
    rw [List.getD_eq_getElem?_getD, List.getElem?_eq_getElem h]
    rfl
  rw [if_neg h2, if_neg h2]
  by_cases h3 : f.kind = 3
  · rw [if_pos h3, if_pos h3]
    by_cases hc : 0 ≤ v.num ∧ v.num ≤ 1
    · rw [if_pos hc]
      intro h
      have : i = 0 := by simpa using h
      subst this
      simp [h2, h3]
    · rw [if_neg hc]
      intro h
      simp at h
  rw [if_neg h3, if_neg h3]
  split <;> intro h <;> simp
theorem head_split {n : Int} {f : Fun} {v : Val} (hf : shapedF f = true) : headL n f v.num v.args.length v.ws = (partsB f v && numB f n v.num && wghB f.kind v.args.length v.ws) := by
  unfold headL numB wghB
  congr 2
  unfold partsB partsL
  have hk := shaped_kind hf
  have hfn := shaped_num hf
  rw [Bool.eq_iff_iff]
  rcases hk with ⟨hk, hl⟩ | ⟨hk, hl⟩ | ⟨hk, hl⟩ | ⟨hk, hl⟩ | ⟨hk, hl⟩ | ⟨hk, hl⟩ | ⟨hk, hl⟩ | ⟨hk, hl⟩
  · simp [hk]; exact ⟨fun h => by rw [h]; rfl, fun h => List.eq_nil_of_length_eq_zero h.symm⟩
  · simp [hk]; exact ⟨fun h => by rw [h]; rfl, fun h => List.eq_nil_of_length_eq_zero h.symm⟩
  · simp [hk]
  · by_cases hc : 0 ≤ v.num ∧ v.num ≤ 1
    · simp [hk, hc]; exact eq_comm
    · simp [hk, hc]
      intro h1 h2
      exact absurd ⟨h1, h2⟩ hc
  · simp [hk]; omega
  · simp [hk]
  · simp [hk]
  · simp [hk]
end AE
end Go.Proofs.YthoomlenmgdebaaGreatDoor

/- The reference's normal form; evaluated. -/
set_option linter.unusedVariables false
set_option linter.unusedSimpArgs false
namespace Go.Proofs.YthoomlenmgdebaaGreatDoor
namespace AE
open Go

def zeroV : Val := .mk 0 [] []
def normD (n : Int) (v : Val) (f : Fun) : Val := (normV n v f).getD zeroV
theorem ev_Merged0 (k a : Int) (h5 : k = 5 ∨ k = 6) (m : Mem) : evCall C0 39 [.int .i64 k, .agg [.int .i64 a, .nils, .nils]] m = some (.ret (.agg (Val.mk a [] []).cells), m) := by
  rw [evCall_body C0 (C0_ext _ (by decide)) (by rw [C0_P]; exact Tryz.func39) rfl (by rw [C0_ann]; rfl) (by decide) (by simp [Tryz.f39])]
  simp [Tryz.f39, evOps_cons, wantA_some, argsTm, ann_keep_39, ann_recov_39, ann_reg_39, reg39, ann_loop_39, loop39, headId, endRound_L, endRound_S, ann_draw_39, draw39, ann_dok_39, dok39, evDraw_cons, drawEnd, chkNeed, kindS, isEff]
  rw [evCode_loop]
  rcases h5 with h5 | h5
  · simp [round, Tryz.f39, evOps_cons, wantA_some, argsTm, ann_keep_39, ann_recov_39, ann_reg_39, reg39, ann_loop_39, loop39, headId, endRound_L, endRound_S, ann_draw_39, draw39, ann_dok_39, dok39, evDraw_cons, drawEnd, chkNeed, kindS, isEff, h5]
  · simp [round, Tryz.f39, evOps_cons, wantA_some, argsTm, ann_keep_39, ann_recov_39, ann_reg_39, reg39, ann_loop_39, loop39, headId, endRound_L, endRound_S, ann_draw_39, draw39, ann_dok_39, dok39, evDraw_cons, drawEnd, chkNeed, kindS, isEff, h5]
def wR (w : List Int) : List Row := if w.length = 0 then [] else [⟨3, ints w⟩]
def wA (n : Nat) (w : List Int) : A := if w.length = 0 then .nils else .sl n w.length 0 w.length
def xR (xs : List Val) : List Row := if xs.length = 0 then [] else [⟨28, Val.cellsL xs⟩]
def xA (n : Nat) (xs : List Val) : A := if xs.length = 0 then .nils else .sl n (xs.length * 3) 0 xs.length
theorem wxR_closed (w : List Int) (xs : List Val) : (wR w ++ xR xs).all (fun r => r.cs.all (closed 0 0)) = true := by
  unfold wR xR
  split <;> split <;> simp
theorem wA_closed (n : Nat) (w : List Int) (xs : List Val) (nb : Nat) : closed nb (n + (wR w ++ xR xs).length) (wA n w) = true := by
  unfold wA wR
  split
  · simp
  · simp
theorem wA_closed2 (n : Nat) (w : List Int) (nb x : Nat) : closed nb (n + ((wR w).length + x)) (wA n w) = true := by
  unfold wA wR
  split
  · simp
  · simp
    omega
theorem wR_closed (w : List Int) : (wR w).all (fun r => r.cs.all (closed 0 0)) = true := by
  unfold wR
  split <;> simp
def NormAt (n : Int) (v : Val) : Prop := ∀ (f : Fun), shapedF f = true → ∀ (m : Mem), evCall C0 57 [.agg f.cells, .int .i64 n, .agg v.cells] m = some (.ret (.tup [.agg (normD n v f).cells, .bool (normV n v f).isSome]), m)
set_option maxHeartbeats 8000000 in
theorem ev_normal1 (n : Int) (hn0 : 0 ≤ n) (hn1 : n ≤ 1000000) (v : Val) (hb : v.nodes ≤ 1000000) (hs : slimV v) (H : ∀ u, u ∈ v.args → NormAt n u) : NormAt n v := by
  intro f hf m
  have hs' := hs
  rw [slimV_eq] at hs'
  have hlen := v.length_args
  have hfn := shaped_num hf
  have hp := ev_Parts f v hf (by omega)
  have hnm := ev_rnumber f n v (by omega) (by omega) (by omega)
  have hwg := ev_rweighed f.kind v (by omega) hs'.1
  have hst := ev_Sets f.kind
  have hsp := head_split (n := n) (v := v) hf
  unfold normD
  rw [normV_eq]
  simp at hp hnm hwg
  rw [evCall_body C0 (C0_ext _ (by decide)) (by rw [C0_P]; exact Tryz.func57) rfl (by rw [C0_ann]; rfl) (by decide) (by simp [Tryz.f57])]
  cases hpb : partsB f v
  case false =>
    rw [hpb, Bool.false_and, Bool.false_and] at hsp
    rw [hsp]
    simp [hpb] at hp
    simp [Tryz.f57, evOps_cons, wantA_some, argsTm, ann_keep_57, ann_recov_57, ann_reg_57, reg57, ann_loop_57, loop57, headId, endRound_L, endRound_S, ann_draw_57, draw57, ann_dok_57, dok57, evDraw_cons, drawEnd, chkNeed, kindS, isEff, hp, zeroV]
  cases hnb : numB f n v.num
  case false =>
    rw [hpb, hnb, Bool.true_and, Bool.false_and] at hsp
    rw [hsp]
    simp [hpb] at hp
    simp [hnb] at hnm
    simp [Tryz.f57, evOps_cons, wantA_some, argsTm, ann_keep_57, ann_recov_57, ann_reg_57, reg57, ann_loop_57, loop57, headId, endRound_L, endRound_S, ann_draw_57, draw57, ann_dok_57, dok57, evDraw_cons, drawEnd, chkNeed, kindS, isEff, hp, hnm, zeroV]
  cases hwb : wghB f.kind v.args.length v.ws
  case false =>
    rw [hpb, hnb, hwb] at hsp
    rw [hsp]
    simp [hpb] at hp
    simp [hnb] at hnm
    simp [hwb] at hwg
    simp [Tryz.f57, evOps_cons, wantA_some, argsTm, ann_keep_57, ann_recov_57, ann_reg_57, reg57, ann_loop_57, loop57, headId, endRound_L, endRound_S, ann_draw_57, draw57, ann_dok_57, dok57, evDraw_cons, drawEnd, chkNeed, kindS, isEff, hp, hnm, hwg, zeroV]
  rw [hpb, hnb, hwb] at hsp
  rw [hsp, if_pos (show (true && true && true) = true from rfl)]
  simp [hpb] at hp
  simp [hnb] at hnm
  simp [hwb] at hwg
  obtain ⟨hPl, hPa⟩ := parts_at hf hpb
  generalize partsL f v = P at hp hPl hPa
  have hwz : v.ws.length * 8 ≤ 70368744177664 := by omega
  have hwy : v.ws.length ≤ 70368744177664 := by omega
  by_cases hw0 : v.ws.length = 0
  case' pos =>
    simp [hw0] at hp hnm hwg
    simp [Tryz.f57, evOps_cons, wantA_some, argsTm, ann_keep_57, ann_recov_57, ann_reg_57, reg57, ann_loop_57, loop57, headId, endRound_L, endRound_S, ann_draw_57, draw57, ann_dok_57, dok57, evDraw_cons, drawEnd, chkNeed, kindS, isEff, hp, hnm, hwg, hw0]
  case' neg => simp [Tryz.f57, evOps_cons, wantA_some, argsTm, ann_keep_57, ann_recov_57, ann_reg_57, reg57, ann_loop_57, loop57, headId, endRound_L, endRound_S, ann_draw_57, draw57, ann_dok_57, dok57, evDraw_cons, drawEnd, chkNeed, kindS, isEff, hp, hnm, hwg, hw0, show ¬ v.ws = [] from fun h => hw0 (by rw [h]; rfl), hwz, hwy, flat_mem_ints]
  all_goals
    refine loop_in (fun x : Nat × List Val => ⟨[(1, .int .i64 n), (3, .ptr m.bx.length 0), (6, .ptr (m.bx.length + 2) 0), (8, .isl false P.length (Fun.cellsL P)), (10, .ptr (m.bx.length + 3) 0), (45, .isl false v.args.length (Val.cellsL v.args)), (46, .int .i64 v.args.length), (47, .int .i64 x.1)],
        ⟨m.bx ++ [f.cells, v.cells, [.int .i64 0, .nils, .nils], [.int .i64 v.num, xA (m.rw.length + (wR v.ws).length) x.2, wA m.rw.length v.ws]], m.rw ++ (wR v.ws ++ xR x.2)⟩⟩)
      (fun x => some (.ret (.tup [.agg (((normL n v.args (argF f v.num) 0).map fun xs => if setsK f.kind = true then mergeV f.kind v.num xs v.ws else .mk v.num xs v.ws).getD zeroV).cells, .bool ((normL n v.args (argF f v.num) 0).map fun xs => if setsK f.kind = true then mergeV f.kind v.num xs v.ws else .mk v.num xs v.ws).isSome]), m)) (fun x => v.args.length - x.1)
      (fun x => x.1 ≤ v.args.length ∧ x.2.length = x.1 ∧ normL n v.args (argF f v.num) 0 = (normL n (v.args.drop x.1) (argF f v.num) x.1).map (x.2 ++ ·)) (0, []) ?_ ?_ ?_ ?_ ?_
    · simp [xA, wA, wR, xR, hw0]
    · simp
    · simp
    · intro x; simp [Tryz.f57, evOps_cons, wantA_some, argsTm, ann_keep_57, ann_recov_57, ann_reg_57, reg57, ann_loop_57, loop57, headId, endRound_L, endRound_S, ann_draw_57, draw57, ann_dok_57, dok57, evDraw_cons, drawEnd, chkNeed, kindS, isEff]
    · rintro ⟨i, xs⟩ ⟨hi, hxl, hnl⟩ hrec
      simp only at hi hxl hnl ⊢
      have hcl := wxR_closed v.ws xs
      have hwc := wA_closed m.rw.length v.ws xs
      by_cases hlt : i < v.args.length
      · have w2 : IntKind.i64.wrap (i + 1) = i + 1 := wrap_id _ (by omega)
        have h3 : (i + 1) * 3 ≤ v.args.length * 3 := by omega
        have hiP : i < P.length := by omega
        have hgi := hPa i hiP
        have hk01 : ¬ f.kind = 0 ∧ ¬ f.kind = 1 := by
          refine ⟨fun h => ?_, fun h => ?_⟩
          · have := (head_num hsp).2.2 (.inl h); omega
          · have := (head_num hsp).2.2 (.inr h); omega
        have hgs := argF_shaped hf hk01.1 hk01.2 hsp i hlt
        rw [Nat.zero_add] at hgs
        have he := H v.args[i] (List.getElem_mem hlt) (argF f v.num i) hgs
        rw [normL_drop hlt] at hnl
        unfold normD at he
        cases hc : normV n v.args[i] (argF f v.num i) with
        | none =>
          clear hrec
          rw [hc] at hnl he
          rw [hnl]
          simp [zeroV] at he
          simp [round, Tryz.f57, evOps_cons, wantA_some, argsTm, ann_keep_57, ann_recov_57, ann_reg_57, reg57, ann_loop_57, loop57, headId, endRound_L, endRound_S, ann_draw_57, draw57, ann_dok_57, dok57, evDraw_cons, drawEnd, chkNeed, kindS, isEff, hlt, w2, h3, hiP, show (i + 1) * 3 ≤ P.length * 3 by omega, hgi, he, zeroV]
        | some y =>
          rw [hc] at hnl he
          simp at he
          have hwc2 : ∀ nb x, closed nb (m.rw.length + ((wR v.ws).length + x)) (wA m.rw.length v.ws) = true := fun nb x => wA_closed2 _ _ _ _
          have hwR := wR_closed v.ws
          have hin : normL n v.args (argF f v.num) 0 = (normL n (v.args.drop (i + 1)) (argF f v.num) (i + 1)).map ((xs ++ [y]) ++ ·) := by
            rw [hnl]
            simp only [Option.bind_some, Option.map_map]
            congr 1
            funext z
            simp
          cases xs with
          | nil =>
            have hi0 : i = 0 := by simpa using hxl.symm
            subst hi0
            have b3 := Val.at_cellsL v.args 0 hlt
            have b1 := Fun.at_cellsL P 0 hiP
            rw [hgi] at b1
            simp at b1 b3
            simp [round, Tryz.f57, evOps_cons, wantA_some, argsTm, ann_keep_57, ann_recov_57, ann_reg_57, reg57, ann_loop_57, loop57, headId, endRound_L, endRound_S, ann_draw_57, draw57, ann_dok_57, dok57, evDraw_cons, drawEnd, chkNeed, kindS, isEff, hlt, w2, h3, hiP, show 3 ≤ P.length * 3 by omega, show 3 ≤ v.args.length * 3 by omega, hgi, b1, b3, he, xA, xR, app_at, app_set, endRound_J, hwR, hwc2]
            refine hrec (1, [y]) _ _ ?_ ?_ ?_ ?_
            · simp; omega
            · exact ⟨by simp only; omega, rfl, by rw [hin]; rfl⟩
            · simp [xA, xR, Val.cellsL]
            · simp
          | cons a r =>
            have hr : r.length + 1 = i := by simpa using hxl
            simp [round, Tryz.f57, evOps_cons, wantA_some, argsTm, ann_keep_57, ann_recov_57, ann_reg_57, reg57, ann_loop_57, loop57, headId, endRound_L, endRound_S, ann_draw_57, draw57, ann_dok_57, dok57, evDraw_cons, drawEnd, chkNeed, kindS, isEff, hlt, w2, h3, hiP, show (i + 1) * 3 ≤ P.length * 3 by omega, hgi, he, xA, xR, app_at, app_set, endRound_J, hwR, hwc2, show (r.length + 1 + 1) * 56 ≤ 70368744177664 by omega, show r.length + 1 + 1 ≤ 70368744177664 by omega]
            refine hrec (i + 1, a :: r ++ [y]) _ _ ?_ ?_ ?_ ?_
            · simp; omega
            · exact ⟨by simp only; omega, by simp; omega, by rw [hin]⟩
            · simp [xA, xR, Val.cellsL, Val.cellsL_append]
            · simp
      · clear hrec
        have hie : i = v.args.length := by omega
        subst hie
        rw [List.drop_eq_nil_of_le (Nat.le_refl _), normL, Option.map_some, List.append_nil] at hnl
        rw [hnl]
        have hnum := head_num hsp
        cases hset : setsK f.kind
        · have hwt : wtd f.kind = false := by
            cases h : wtd f.kind
            · rfl
            · unfold setsK at hset
              rw [h, Bool.or_true] at hset
              cases hset
          have hwe := hnum.2.1 hwt
          rw [hset] at hst
          by_cases hx0 : xs.length = 0
          · have hx1 : v.args.length = 0 := by omega
            have hxe : xs = [] := List.eq_nil_of_length_eq_zero hx0
            subst hxe
            simp [round, Tryz.f57, evOps_cons, wantA_some, argsTm, ann_keep_57, ann_recov_57, ann_reg_57, reg57, ann_loop_57, loop57, headId, endRound_L, endRound_S, ann_draw_57, draw57, ann_dok_57, dok57, evDraw_cons, drawEnd, chkNeed, kindS, isEff, hst, xA, wA, xR, wR, hwe, hx1]
          · have hx1 : ¬ v.args.length = 0 := by omega
            have hall : List.take (xs.length * 3) (Val.cellsL xs) = Val.cellsL xs := List.take_of_length_le (by simp)
            simp [round, Tryz.f57, evOps_cons, wantA_some, argsTm, ann_keep_57, ann_recov_57, ann_reg_57, reg57, ann_loop_57, loop57, headId, endRound_L, endRound_S, ann_draw_57, draw57, ann_dok_57, dok57, evDraw_cons, drawEnd, chkNeed, kindS, isEff, hst, xA, wA, xR, wR, hwe, hx0, hx1, hxl, hall]
            rw [← hxl]
            exact hall
        · rw [hset] at hst
          have hss := (head_sets hset).1 hsp
          have hnn := normL_nodes n v.args _ 0 xs hs'.2 (by have := Val.nodes_eq v; omega) hnl
          have hvn := Val.nodes_eq v
          have hwk3 : wtd f.kind = true → v.ws.length = xs.length ∧ (∀ w, w ∈ v.ws → 1 ≤ w) ∧ v.ws.sum ≤ 1048576 := fun h => by
            rw [if_pos h] at hss
            have h2 := (weighI_iff v.ws 0 (by omega)).1 hss.2.1
            exact ⟨by omega, h2.1, by omega⟩
          have hk7 : f.kind = 7 → 0 < xs.length := fun h => by
            have hw7 : wtd f.kind = true := by rw [h]; rfl
            rw [if_pos hw7] at hss
            have := hss.2.2.2
            omega
          by_cases hx0 : xs.length = 0
          · have hx1 : v.args.length = 0 := by omega
            have hxe : xs = [] := List.eq_nil_of_length_eq_zero hx0
            subst hxe
            have hwe : v.ws = [] := by
              cases h : wtd f.kind
              · exact hnum.2.1 h
              · exact List.eq_nil_of_length_eq_zero (by rw [(hwk3 h).1]; rfl)
            have hk56 : f.kind = 5 ∨ f.kind = 6 := by
              rcases setsK_kind hset with h | h | h
              · exact .inl h
              · exact .inr h
              · have := hk7 h; simp at this
            have he0 := ev_Merged0 f.kind v.num hk56
            simp at he0
            have hmv : mergeV f.kind v.num [] v.ws = .mk v.num [] [] := by
              unfold mergeV mergeP
              rw [hwe]
              rcases hk56 with h | h <;> rw [h] <;> rfl
            simp [hmv]
            simp [round, Tryz.f57, evOps_cons, wantA_some, argsTm, ann_keep_57, ann_recov_57, ann_reg_57, reg57, ann_loop_57, loop57, headId, endRound_L, endRound_S, ann_draw_57, draw57, ann_dok_57, dok57, evDraw_cons, drawEnd, chkNeed, kindS, isEff, hst, xA, wA, xR, wR, hwe, hx1, he0]
          · have hx1 : 0 < xs.length := by omega
            have hmw : mwA f.kind m.rw.length (.mk v.num xs v.ws) = wA m.rw.length v.ws := by
              unfold mwA wA
              cases h : wtd f.kind
              · rw [hnum.2.1 h]; simp
              · have := (hwk3 h).1
                rw [if_neg (by simp), if_neg (by omega)]
                rfl
            have he := ev_MergedR f.kind (.mk v.num xs v.ws) (m.rw.length + (wR v.ws).length) m.rw.length hset (by rw [Val.nodes_eq, Val.args_mk]; omega) (by rw [slimV_eq]; exact ⟨hs'.1, hnn.2⟩) hwk3 hk7
              ⟨m.bx ++ [f.cells, v.cells, [.int .i64 0, .nils, .nils], [.int .i64 v.num, xA (m.rw.length + (wR v.ws).length) xs, wA m.rw.length v.ws]], m.rw ++ (wR v.ws ++ xR xs)⟩
              (by simp [app_at, xR, show ¬ xs = [] from fun h => hx0 (by rw [h]; rfl)])
              (fun h => by
                have h1 : ¬ v.ws.length = 0 := by rw [(hwk3 h).1]; omega
                have := app_at m.rw (wR v.ws ++ xR xs) 0
                rw [Nat.add_zero] at this
                simp only [this]
                unfold wR
                rw [if_neg h1]
                rfl)
            rw [hmw] at he
            have hxx : xA (m.rw.length + (wR v.ws).length) xs = .sl (m.rw.length + (wR v.ws).length) (xs.length * 3) 0 xs.length := by unfold xA; rw [if_neg hx0]
            simp [hxx, hxl] at he
            simp [round, Tryz.f57, evOps_cons, wantA_some, argsTm, ann_keep_57, ann_recov_57, ann_reg_57, reg57, ann_loop_57, loop57, headId, endRound_L, endRound_S, ann_draw_57, draw57, ann_dok_57, dok57, evDraw_cons, drawEnd, chkNeed, kindS, isEff, hst, hxx, he, hxl]
theorem ev_normal (n : Int) (hn0 : 0 ≤ n) (hn1 : n ≤ 1000000) (N : Nat) : ∀ (v : Val), v.nodes ≤ N → v.nodes ≤ 1000000 → slimV v → NormAt n v := by
  induction N with
  | zero => intro v hN; have := v.nodes_pos; omega
  | succ N ih =>
  intro v hN hb hs
  have hs' := (slimV_eq v ▸ hs).2
  exact ev_normal1 n hn0 hn1 v hb hs fun u hu => ih u (by have := Val.nodes_arg hu; omega) (by have := Val.nodes_arg hu; omega) (slimL_mem hs' hu)
end AE
end Go.Proofs.YthoomlenmgdebaaGreatDoor

/- The reference: too large values, Normal, Is; evaluated. -/
set_option linter.unusedVariables false
set_option linter.unusedSimpArgs false
namespace Go.Proofs.YthoomlenmgdebaaGreatDoor
namespace AE
open Go

set_option maxHeartbeats 4000000 in
theorem ev_wide (ex : Fun → List Val → List Int → Bool) (n : Int) (N : Nat) : ∀ (v : Val), v.nodes ≤ N → v.nodes ≤ 1000000 → ∀ (f : Fun), shapedF f = true → okV ex n v f = true → ∀ (m : Mem), evCall C0 58 [.agg f.cells, .agg v.cells] m = some (.ret (.bool (wideV v f)), m) := by
  induction N with
  | zero => intro v hN; have := v.nodes_pos; omega
  | succ N ih =>
  intro v hN hb f hf hok m
  have hlen := v.length_args
  rw [okV_eq, Bool.and_eq_true, Bool.and_eq_true] at hok
  obtain ⟨⟨hh, _⟩, hokl⟩ := hok
  have hpb : partsB f v = true := by
    rw [head_split hf, Bool.and_eq_true, Bool.and_eq_true] at hh
    exact hh.1.1
  have hp := ev_Parts f v hf (by omega)
  obtain ⟨hPl, hPa⟩ := parts_at hf hpb
  have hst := ev_Sets f.kind
  simp [hpb] at hp
  generalize partsL f v = P at hp hPl hPa
  rw [evCall_body C0 (C0_ext _ (by decide)) (by rw [C0_P]; exact Tryz.func58) rfl (by rw [C0_ann]; rfl) (by decide) (by simp [Tryz.f58])]
  rw [wideV_eq]
  by_cases hw : setsK f.kind = true ∧ 100 < v.args.length
  · have h1 : (100 : Int) < v.args.length := by omega
    rw [hw.1] at hst
    simp [Tryz.f58, evOps_cons, wantA_some, argsTm, ann_keep_58, ann_recov_58, ann_reg_58, reg58, ann_loop_58, loop58, headId, endRound_L, endRound_S, ann_draw_58, draw58, ann_dok_58, dok58, evDraw_cons, drawEnd, chkNeed, kindS, isEff, hst, h1, hw.1, hw.2]
  · have hr : (setsK f.kind && decide (100 < v.args.length)) = false := by
      rw [Bool.eq_false_iff]
      intro h
      rw [Bool.and_eq_true, decide_eq_true_eq] at h
      exact hw h
    rw [hr, Bool.false_or]
    cases hs : setsK f.kind
    case' false =>
      rw [hs] at hst
      simp [Tryz.f58, evOps_cons, wantA_some, argsTm, ann_keep_58, ann_recov_58, ann_reg_58, reg58, ann_loop_58, loop58, headId, endRound_L, endRound_S, ann_draw_58, draw58, ann_dok_58, dok58, evDraw_cons, drawEnd, chkNeed, kindS, isEff, hst, hp]
    case' true =>
      have h2 : ¬ (100 : Int) < v.args.length := by
        intro h
        exact hw ⟨hs, by omega⟩
      rw [hs] at hst
      simp [Tryz.f58, evOps_cons, wantA_some, argsTm, ann_keep_58, ann_recov_58, ann_reg_58, reg58, ann_loop_58, loop58, headId, endRound_L, endRound_S, ann_draw_58, draw58, ann_dok_58, dok58, evDraw_cons, drawEnd, chkNeed, kindS, isEff, hst, hp, h2]
    all_goals
      refine loop_in (fun i : Nat => ⟨[(5, .isl false P.length (Fun.cellsL P)), (25, .isl false v.args.length (Val.cellsL v.args)), (26, .int .i64 v.args.length), (27, .int .i64 i)], ⟨m.bx ++ [f.cells, v.cells], m.rw⟩⟩)
        (fun i => some (.ret (.bool (wideL (v.args.drop i) (argF f v.num) i)), m)) (fun i => v.args.length - i) (fun i => i ≤ v.args.length) 0 ?_ ?_ ?_ ?_ ?_
      · simp
      · simp
      · omega
      · intro x; simp [Tryz.f58, evOps_cons, wantA_some, argsTm, ann_keep_58, ann_recov_58, ann_reg_58, reg58, ann_loop_58, loop58, headId, endRound_L, endRound_S, ann_draw_58, draw58, ann_dok_58, dok58, evDraw_cons, drawEnd, chkNeed, kindS, isEff]
      · intro i hi hrec
        by_cases hlt : i < v.args.length
        · have w2 : IntKind.i64.wrap (i + 1) = i + 1 := wrap_id _ (by omega)
          have h3 : (i + 1) * 3 ≤ v.args.length * 3 := by omega
          have hiP : i < P.length := by omega
          have hgi := hPa i hiP
          have hk01 : ¬ f.kind = 0 ∧ ¬ f.kind = 1 := by
            refine ⟨fun h => ?_, fun h => ?_⟩
            · have := (head_num hh).2.2 (.inl h); omega
            · have := (head_num hh).2.2 (.inr h); omega
          have hgs := argF_shaped hf hk01.1 hk01.2 hh i hlt
          have o0 := okL_mem hokl i hlt
          rw [Nat.zero_add] at hgs o0
          have hm := Val.nodes_arg (List.getElem_mem hlt)
          have he := ih v.args[i] (by omega) (by omega) (argF f v.num i) hgs o0
          simp at he
          rw [wideL_drop hlt]
          cases hc : wideV v.args[i] (argF f v.num i)
          · simp [hc] at he
            simp [round, Tryz.f58, evOps_cons, wantA_some, argsTm, ann_keep_58, ann_recov_58, ann_reg_58, reg58, ann_loop_58, loop58, headId, endRound_L, endRound_S, ann_draw_58, draw58, ann_dok_58, dok58, evDraw_cons, drawEnd, chkNeed, kindS, isEff, hlt, w2, h3, hiP, show (i + 1) * 3 ≤ P.length * 3 by omega, hgi, he, endRound_M]
            refine hrec (i + 1) _ _ ?_ ?_ ?_ ?_
            · omega
            · omega
            · simp
            · simp
          · clear hrec
            simp [hc] at he
            simp [round, Tryz.f58, evOps_cons, wantA_some, argsTm, ann_keep_58, ann_recov_58, ann_reg_58, reg58, ann_loop_58, loop58, headId, endRound_L, endRound_S, ann_draw_58, draw58, ann_dok_58, dok58, evDraw_cons, drawEnd, chkNeed, kindS, isEff, hlt, w2, h3, hiP, show (i + 1) * 3 ≤ P.length * 3 by omega, hgi, he]
        · clear hrec
          simp [round, Tryz.f58, evOps_cons, wantA_some, argsTm, ann_keep_58, ann_recov_58, ann_reg_58, reg58, ann_loop_58, loop58, headId, endRound_L, endRound_S, ann_draw_58, draw58, ann_dok_58, dok58, evDraw_cons, drawEnd, chkNeed, kindS, isEff, hlt]
          rw [List.drop_eq_nil_of_le (by omega), wideL]
/-- The normal form, or the error. -/
def rNorm (f : Fun) (n : Int) (v : Val) : Val × Int := if v.nodes ≤ 2000 then (match normV n v f with | none => (zeroV, 20) | some w => if wideV w f then (zeroV, 2) else (w, 0)) else (zeroV, 20)
theorem ev_RNormal (f : Fun) (n : Int) (v : Val) (hf : shapedF f = true) (hn0 : 0 ≤ n) (hn1 : n ≤ 1000000) (hb : v.nodes ≤ 1000000) (hs : slimV v) (m : Mem) : evCall C0 26 [.agg f.cells, .int .i64 n, .agg v.cells] m = some (.ret (.tup [.agg (rNorm f n v).1.cells, .int .i64 (rNorm f n v).2]), m) := by
  rw [evCall_body C0 (C0_ext _ (by decide)) (by rw [C0_P]; exact Tryz.func26) rfl (by rw [C0_ann]; rfl) (by decide) (by simp [Tryz.f26])]
  have hl := ev_leftV v.nodes v (Nat.le_refl _) 2001
  rw [leftV_nodes v 2001 (by omega)] at hl
  have hn := ev_normal n hn0 hn1 v.nodes v (Nat.le_refl _) hb hs f hf
  unfold rNorm
  unfold normD at hn
  by_cases h1 : v.nodes ≤ 2000
  case neg =>
    have h2 : max (2001 - (v.nodes : Int)) 0 = 0 := by omega
    rw [h2] at hl
    simp at hl
    simp [Tryz.f26, evOps_cons, wantA_some, argsTm, ann_keep_26, ann_recov_26, ann_reg_26, reg26, hl, h1, zeroV]
  have h2 : ¬ max (2001 - (v.nodes : Int)) 0 = 0 := by omega
  simp at hl
  generalize max (2001 - (v.nodes : Int)) 0 = q at hl h2
  cases hc : normV n v f with
  | none =>
    rw [hc] at hn
    simp [zeroV] at hn
    simp [Tryz.f26, evOps_cons, wantA_some, argsTm, ann_keep_26, ann_recov_26, ann_reg_26, reg26, hl, h1, h2, hn, zeroV]
  | some w =>
    rw [hc] at hn
    have hno := norm_nodes n v f w hs (by omega) hc
    have hw := ev_wide exN n w.nodes w (Nat.le_refl _) (by omega) f hf (norm_ok n v f w hc)
    simp at hn hw
    cases hx : wideV w f
    · simp [hx] at hw
      simp [Tryz.f26, evOps_cons, wantA_some, argsTm, ann_keep_26, ann_recov_26, ann_reg_26, reg26, hl, h1, h2, hn, hw, hx]
    · simp [hx] at hw
      simp [Tryz.f26, evOps_cons, wantA_some, argsTm, ann_keep_26, ann_recov_26, ann_reg_26, reg26, hl, h1, h2, hn, hw, hx, zeroV]
theorem ev_RIsV (f : Fun) (n : Int) (v : Val) (hf : shapedF f = true) (hn0 : 0 ≤ n) (hn1 : n ≤ 1000000) (hb : v.nodes ≤ 1000000) (hs : slimV v) (m : Mem) : evCall C0 36 [.agg f.cells, .int .i64 n, .agg v.cells] m = some (.ret (.bool (chkV exS n v f 2000).1), m) := by
  rw [evCall_body C0 (C0_ext _ (by decide)) (by rw [C0_P]; exact Tryz.func36) rfl (by rw [C0_ann]; rfl) (by decide) (by simp [Tryz.f36])]
  have hn := ev_RNormal f n v hf hn0 hn1 hb hs
  have hsp := (chkV_spec exS n v f 2000 (by omega)).1
  rw [← selfV_ok] at hsp
  have hgoal : (chkV exS n v f 2000).1 = (decide ((rNorm f n v).2 = 0) && decide (cmpV (rNorm f n v).1 v = 0)) := by
    rw [Bool.eq_iff_iff, hsp]
    unfold selfV rNorm
    by_cases h1 : v.nodes ≤ 2000
    · rw [if_pos h1]
      cases hc : normV n v f with
      | none => simp
      | some w =>
        cases hx : wideV w f
        · simp [hx]; omega
        · simp [hx]
    · rw [if_neg h1]
      simp
      omega
  rw [hgoal]
  have hnn : (rNorm f n v).1.nodes ≤ 1000000 ∧ slimV (rNorm f n v).1 := by
    unfold rNorm
    have hz : zeroV.nodes ≤ 1000000 ∧ slimV zeroV := by
      refine ⟨by rw [Val.nodes_eq]; simp [zeroV, Val.nodesL], ?_⟩
      rw [slimV_eq]
      exact ⟨by simp [zeroV], by simp [zeroV, slimL]⟩
    split
    · cases hc : normV n v f with
      | none => exact hz
      | some w =>
        have hno := norm_nodes n v f w hs (by omega) hc
        simp only
        split
        · exact hz
        · exact ⟨by simp only; omega, hno.2⟩
    · exact hz
  generalize rNorm f n v = r at hn hnn ⊢
  obtain ⟨w, e⟩ := r
  simp only at hn hnn ⊢
  have he := ev_RSameV w v (by omega) hnn.2
  simp at hn he
  by_cases h0 : e = 0
  · subst h0
    simp [Tryz.f36, evOps_cons, wantA_some, argsTm, ann_keep_36, ann_recov_36, ann_reg_36, reg36, hn, he]
  · simp [Tryz.f36, evOps_cons, wantA_some, argsTm, ann_keep_36, ann_recov_36, ann_reg_36, reg36, hn, h0]
end AE
end Go.Proofs.YthoomlenmgdebaaGreatDoor
