/- A value mapped along a function: the reference's, the program's; evaluated. -/
import Derived.Test.YtmfdpijmholedaaGreatDoorGH
import Derived.Test.YtmfdpijmholedaaGreatDoorAE4
set_option linter.unusedVariables false
set_option linter.unusedSimpArgs false
namespace Go.Proofs.YtmfdpijmholedaaGreatDoor
namespace AE
open Go
mutual
theorem ok_loose {ex : Fun → List Val → List Int → Bool} (n : Int) : ∀ (v : Val) (f : Fun), okV ex n v f = true → okV exL n v f = true
  | .mk k l w, f, h => by
    rw [okV, Bool.and_eq_true, Bool.and_eq_true] at h ⊢
    exact ⟨⟨h.1.1, rfl⟩, okL_loose n l _ 0 h.2⟩
theorem okL_loose {ex : Fun → List Val → List Int → Bool} (n : Int) : ∀ (l : List Val) (g : Nat → Fun) (i : Nat), okL ex n l g i = true → okL exL n l g i = true
  | [], g, i, h => by rw [okL]
  | v :: r, g, i, h => by
    rw [okL, Bool.and_eq_true] at h ⊢
    exact ⟨ok_loose n v _ h.1, okL_loose n r _ _ h.2⟩
end
def toV (to : List Int) (x : Int) : Val := idV (to.getD x.toNat 0)
theorem toV_sm (to : List Int) (x : Int) : (toV to x).nodes ≤ 1 ∧ slimV (toV to x) := by
  unfold toV idV
  rw [Val.nodes_eq, slimV_eq]
  simp [Val.nodesL, slimL]
def RMapAt (to : List Int) (fl : Bool) (n : Int) (v : Val) : Prop :=
  ∀ f, shapedF f = true → okV exL n v f = true → ∀ m : Mem, evCall C0 42 [.agg f.cells, .agg v.cells, .isl fl to.length (ints to)] m = some (.ret (.agg (mapV (toV to) v f).cells), m)
set_option maxHeartbeats 8000000 in
theorem ev_RMap1 (to : List Int) (fl : Bool) (n : Int) (hto : n ≤ to.length) (v : Val) (hb : v.nodes ≤ 1000000) (hs : slimV v) (H : ∀ u, u ∈ v.args → RMapAt to fl n u) : RMapAt to fl n v := by
  intro f hf hok m
  have hs' := hs
  rw [slimV_eq] at hs'
  rw [okV_eq, Bool.and_eq_true, Bool.and_eq_true] at hok
  obtain ⟨⟨hh, _⟩, hokl⟩ := hok
  have hlen := v.length_args
  have hvn := v.nodes_eq
  have hnum := head_num hh
  have hpb : partsB f v = true := by
    rw [head_split hf, Bool.and_eq_true, Bool.and_eq_true] at hh
    exact hh.1.1
  have hp := ev_Parts f v hf (by omega)
  obtain ⟨hPl, hPa⟩ := parts_at hf hpb
  have hst := ev_Sets f.kind
  simp [hpb] at hp
  generalize partsL f v = P at hp hPl hPa
  by_cases hk0 : f.kind = 0
  · have hh' := hh
    unfold headL at hh'
    simp [hk0] at hh'
    obtain ⟨x, hx⟩ : ∃ x : Nat, v.num = x := ⟨v.num.toNat, by omega⟩
    have hxl : x < to.length := by omega
    have hat := ints_at hxl
    rw [mapV_eq, if_pos hk0, hx]
    rw [evCall_body C0 (C0_ext _ (by decide)) (by rw [C0_P]; exact Tryz.func42) rfl (by rw [C0_ann]; rfl) (by rw [C0_ann]; rfl) (by decide) (by simp [Tryz.f42])]
    simp [Tryz.f42, a42, reg42, loop42, draw42, dok42, hk0, hx, hxl, show x + 1 ≤ to.length by omega, hat, toV, idV]
  have hmn := mapL_nodes (toV_sm to) v.args (argF f v.num) 0 hs'.2 (by omega)
  have hml := mapL_length (toV to) v.args (argF f v.num) 0
  have hmv : mapV (toV to) v f = if setsK f.kind = true then mergeV f.kind v.num (mapL (toV to) v.args (argF f v.num) 0) v.ws else .mk v.num (mapL (toV to) v.args (argF f v.num) 0) v.ws := by
    rw [mapV_eq, if_neg hk0]
    have hk := shaped_kind hf
    by_cases h1 : f.kind = 1
    · have ha : v.args = [] := List.eq_nil_of_length_eq_zero (hnum.2.2 (.inr h1))
      rw [if_pos h1, ha, mapL, hnum.2.1 (by rw [h1]; rfl)]
      simp [h1, setsK, wtd]
    rw [if_neg h1]
    by_cases h2 : f.kind = 2
    · rw [hnum.1 hk0 h1 (by omega), hnum.2.1 (by rw [h2]; rfl)]
      simp [h2, setsK, wtd]
    by_cases h3 : f.kind = 3
    · rw [hnum.2.1 (by rw [h3]; rfl)]
      simp [h3, setsK, wtd]
    by_cases h4 : f.kind = 4
    · rw [hnum.1 hk0 h1 h3, hnum.2.1 (by rw [h4]; rfl)]
      simp [h4, setsK, wtd]
    rw [if_neg h2, if_neg h3, if_neg h4, if_pos, hnum.1 hk0 h1 h3]
    unfold setsK wtd
    simp only [Bool.or_eq_true, decide_eq_true_eq]
    omega
  rw [hmv]
  have hwz : v.ws.length * 8 ≤ 70368744177664 := by omega
  have hwy : v.ws.length ≤ 70368744177664 := by omega
  rw [evCall_body C0 (C0_ext _ (by decide)) (by rw [C0_P]; exact Tryz.func42) rfl (by rw [C0_ann]; rfl) (by rw [C0_ann]; rfl) (by decide) (by simp [Tryz.f42])]
  by_cases hw0 : v.ws.length = 0
  case' pos =>
    simp [hw0] at hp
    simp [Tryz.f42, a42, reg42, loop42, draw42, dok42, hk0, hp, hw0]
  case' neg => simp [Tryz.f42, a42, reg42, loop42, draw42, dok42, hk0, hp, hw0, show ¬ v.ws = [] from fun h => hw0 (by rw [h]; rfl), hwz, hwy, flat_mem_ints]
  all_goals
    refine loop_in (fun x : Nat × List Val => ⟨[(2, .isl fl to.length (ints to)), (3, .ptr m.bx.length 0), (6, .ptr (m.bx.length + 2) 0), (7, .isl false P.length (Fun.cellsL P)), (9, .ptr (m.bx.length + 3) 0), (34, .isl false v.args.length (Val.cellsL v.args)), (35, .int .i64 v.args.length), (36, .int .i64 x.1)],
        ⟨m.bx ++ [f.cells, v.cells, [.int .i64 0, .nils, .nils], [.int .i64 v.num, xA (m.rw.length + (wR v.ws).length) x.2, wA m.rw.length v.ws]], m.rw ++ (wR v.ws ++ xR x.2)⟩⟩)
      (fun x => some (.ret (.agg (if setsK f.kind = true then mergeV f.kind v.num (mapL (toV to) v.args (argF f v.num) 0) v.ws else .mk v.num (mapL (toV to) v.args (argF f v.num) 0) v.ws).cells), m)) (fun x => v.args.length - x.1)
      (fun x => x.1 ≤ v.args.length ∧ x.2.length = x.1 ∧ mapL (toV to) v.args (argF f v.num) 0 = x.2 ++ mapL (toV to) (v.args.drop x.1) (argF f v.num) x.1) (0, []) ?_ ?_ ?_ ?_ ?_
    · simp [xA, wA, wR, xR, hw0]
    · simp
    · simp
    · intro x; simp [Tryz.f42, a42, reg42, loop42, draw42, dok42]
    · rintro ⟨i, xs⟩ ⟨hi, hxl, hnl⟩ hrec
      simp only at hi hxl hnl ⊢
      have hcl := wxR_closed v.ws xs
      have hwc := wA_closed m.rw.length v.ws xs
      by_cases hlt : i < v.args.length
      · have w2 : IntKind.i64.wrap (i + 1) = i + 1 := wrap_id _ (by omega)
        have h3 : (i + 1) * 3 ≤ v.args.length * 3 := by omega
        have hiP : i < P.length := by omega
        have hgi := hPa i hiP
        have hk01 : ¬ f.kind = 0 ∧ ¬ f.kind = 1 := by
          refine ⟨fun h => ?_, fun h => ?_⟩
          · have := hnum.2.2 (.inl h); omega
          · have := hnum.2.2 (.inr h); omega
        have hgs := argF_shaped hf hk01.1 hk01.2 hh i hlt
        have o0 := okL_mem hokl i hlt
        rw [Nat.zero_add] at hgs o0
        have he := H v.args[i] (List.getElem_mem hlt) (argF f v.num i) hgs o0
        have hin := mapL_snoc hlt hnl
        have hwc2 : ∀ nb x, closed nb (m.rw.length + ((wR v.ws).length + x)) (wA m.rw.length v.ws) = true := fun nb x => wA_closed2 _ _ _ _
        have hwR := wR_closed v.ws
        simp at he
        cases xs with
        | nil =>
          have hi0 : i = 0 := by simpa using hxl.symm
          subst hi0
          have b3 := Val.at_cellsL v.args 0 hlt
          have b1 := Fun.at_cellsL P 0 hiP
          rw [hgi] at b1
          simp at b1 b3
          simp [round, Tryz.f42, a42, reg42, loop42, draw42, dok42, hlt, w2, h3, hiP, show 3 ≤ P.length * 3 by omega, show 3 ≤ v.args.length * 3 by omega, hgi, b1, b3, he, xA, xR, app_at, app_set, endRound_J, hwR, hwc2]
          refine hrec (1, [mapV (toV to) v.args[0] (argF f v.num 0)]) _ _ ?_ ?_ ?_ ?_
          · simp; omega
          · exact ⟨by simp only; omega, rfl, by rw [hin]; rfl⟩
          · simp [xA, xR, Val.cellsL]
          · simp
        | cons a r =>
          have hr : r.length + 1 = i := by simpa using hxl
          simp [round, Tryz.f42, a42, reg42, loop42, draw42, dok42, hlt, w2, h3, hiP, show (i + 1) * 3 ≤ P.length * 3 by omega, hgi, he, xA, xR, app_at, app_set, endRound_J, hwR, hwc2, show (r.length + 1 + 1) * 56 ≤ 70368744177664 by omega, show r.length + 1 + 1 ≤ 70368744177664 by omega]
          refine hrec (i + 1, a :: r ++ [mapV (toV to) v.args[i] (argF f v.num i)]) _ _ ?_ ?_ ?_ ?_
          · simp; omega
          · exact ⟨by simp only; omega, by simp; omega, by rw [hin]⟩
          · simp [xA, xR, Val.cellsL, Val.cellsL_append]
          · simp
      · clear hrec
        have hie : i = v.args.length := by omega
        subst hie
        rw [List.drop_eq_nil_of_le (Nat.le_refl _), mapL, List.append_nil] at hnl
        rw [hnl] at hmn hml ⊢
        cases hset : setsK f.kind
        · have hwt : wtd f.kind = false := by
            cases h : wtd f.kind
            · rfl
            · unfold setsK at hset
              rw [h, Bool.or_true] at hset
              cases hset
          have hwe := hnum.2.1 hwt
          rw [hset] at hst
          by_cases hx0 : xs.length = 0
          · have hx1 : v.args.length = 0 := by omega
            have hxe : xs = [] := List.eq_nil_of_length_eq_zero hx0
            subst hxe
            simp [round, Tryz.f42, a42, reg42, loop42, draw42, dok42, hst, xA, wA, xR, wR, hwe, hx1]
          · have hx1 : ¬ v.args.length = 0 := by omega
            have hall : List.take (xs.length * 3) (Val.cellsL xs) = Val.cellsL xs := List.take_of_length_le (by simp)
            simp [round, Tryz.f42, a42, reg42, loop42, draw42, dok42, hst, xA, wA, xR, wR, hwe, hx0, hx1, hxl, hall]
            try (rw [← hxl]; exact hall)
        · rw [hset] at hst
          have hss := (head_sets hset).1 hh
          have hwk3 : wtd f.kind = true → v.ws.length = xs.length ∧ (∀ w, w ∈ v.ws → 1 ≤ w) ∧ v.ws.sum ≤ 1048576 := fun h => by
            rw [if_pos h] at hss
            have h2 := (weighI_iff v.ws 0 (by omega)).1 hss.2.1
            exact ⟨by omega, h2.1, by omega⟩
          have hk7 : f.kind = 7 → 0 < xs.length := fun h => by
            have hw7 : wtd f.kind = true := by rw [h]; rfl
            rw [if_pos hw7] at hss
            have := hss.2.2.2
            omega
          by_cases hx0 : xs.length = 0
          · have hx1 : v.args.length = 0 := by omega
            have hxe : xs = [] := List.eq_nil_of_length_eq_zero hx0
            subst hxe
            have hwe : v.ws = [] := by
              cases h : wtd f.kind
              · exact hnum.2.1 h
              · exact List.eq_nil_of_length_eq_zero (by rw [(hwk3 h).1]; rfl)
            have hk56 : f.kind = 5 ∨ f.kind = 6 := by
              rcases setsK_kind hset with h | h | h
              · exact .inl h
              · exact .inr h
              · have := hk7 h; simp at this
            have he0 := ev_Merged0 f.kind v.num hk56
            simp at he0
            have hmv : mergeV f.kind v.num [] v.ws = .mk v.num [] [] := by
              unfold mergeV mergeP
              rw [hwe]
              rcases hk56 with h | h <;> rw [h] <;> rfl
            simp [hmv]
            simp [round, Tryz.f42, a42, reg42, loop42, draw42, dok42, hst, xA, wA, xR, wR, hwe, hx1, he0]
          · have hx1 : 0 < xs.length := by omega
            have hmw : mwA f.kind m.rw.length (.mk v.num xs v.ws) = wA m.rw.length v.ws := by
              unfold mwA wA
              cases h : wtd f.kind
              · rw [hnum.2.1 h]; simp
              · have := (hwk3 h).1
                rw [if_neg (by simp), if_neg (by omega)]
                rfl
            have he := ev_MergedR f.kind (.mk v.num xs v.ws) (m.rw.length + (wR v.ws).length) m.rw.length hset (by rw [Val.nodes_eq, Val.args_mk]; omega) (by rw [slimV_eq]; exact ⟨hs'.1, hmn.2⟩) hwk3 hk7
              ⟨m.bx ++ [f.cells, v.cells, [.int .i64 0, .nils, .nils], [.int .i64 v.num, xA (m.rw.length + (wR v.ws).length) xs, wA m.rw.length v.ws]], m.rw ++ (wR v.ws ++ xR xs)⟩
              (by simp [app_at, xR, show ¬ xs = [] from fun h => hx0 (by rw [h]; rfl)])
              (fun h => by
                have h1 : ¬ v.ws.length = 0 := by rw [(hwk3 h).1]; omega
                have := app_at m.rw (wR v.ws ++ xR xs) 0
                rw [Nat.add_zero] at this
                simp only [this]
                unfold wR
                rw [if_neg h1]
                rfl)
            rw [hmw] at he
            have hxx : xA (m.rw.length + (wR v.ws).length) xs = .sl (m.rw.length + (wR v.ws).length) (xs.length * 3) 0 xs.length := by unfold xA; rw [if_neg hx0]
            simp [hxx, hxl] at he
            simp [round, Tryz.f42, a42, reg42, loop42, draw42, dok42, hst, hxx, he, hxl]
theorem ev_RMap (to : List Int) (fl : Bool) (n : Int) (hto : n ≤ to.length) (N : Nat) : ∀ (v : Val), v.nodes ≤ N → v.nodes ≤ 1000000 → slimV v → RMapAt to fl n v := by
  induction N with
  | zero => intro v hN; have := v.nodes_pos; omega
  | succ N ih =>
  intro v hN hb hs
  have hs' := (slimV_eq v ▸ hs).2
  exact ev_RMap1 to fl n hto v hb hs fun u hu => ih u (by have := Val.nodes_arg hu; omega) (by have := Val.nodes_arg hu; omega) (slimL_mem hs' hu)
section
variable (C : Cfg) (f nt : Nat) (all rest : List Oper) (d : Option Tmp) (tm : List (Nat × A)) (m : Mem)
@[simp] theorem opD_makeSlice (t : TypeId) (l c : Operand) : opD C f nt all rest d (.makeSlice t l c) ⟨tm, m⟩ = stepD C f nt all rest d .eff m tm (makeSliceA C.P t (opd C.gl tm l) (opd C.gl tm c) m) := _root_.id rfl
end
@[simp] theorem makeSliceA_eq (P : Program) (t : TypeId) (k k' : IntKind) (l c : Int) (m : Mem) : makeSliceA P t (.int k l) (.int k' c) m = (elemT P t).bind fun e => (zeroOf P e).bind fun z => (bytesOf P e).bind fun by_ =>
    if l = c ∧ 0 ≤ l ∧ l * by_ ≤ 70368744177664 ∧ l ≤ 70368744177664 ∧ z.length = szOf P e ∧ 0 < szOf P e then
      some (.sl m.rw.length (l.toNat * szOf P e) 0 l.toNat, { m with rw := m.rw ++ [⟨e, (List.replicate l.toNat z).flatten⟩] })
    else none := _root_.id rfl
def boolsL (bs : List Bool) : List A := bs.map .bool
@[simp] theorem boolsL_length (bs : List Bool) : (boolsL bs).length = bs.length := by simp [boolsL]
theorem boolsL_at {bs : List Bool} {k : Nat} (h : k < bs.length) : ((boolsL bs).drop k).take 1 = [.bool bs[k]] := by
  unfold boolsL
  rw [← List.map_drop, ← List.map_take, List.drop_eq_getElem_cons h]
  rfl
theorem boolsL_set {bs : List Bool} {k : Nat} (h : k < bs.length) (b : Bool) : (boolsL bs).take k ++ .bool b :: (boolsL bs).drop (k + 1) = boolsL (bs.set k b) := by
  unfold boolsL
  rw [List.map_set, List.set_eq_take_append_cons_drop, if_pos (by simpa using h)]
@[simp] theorem boolsL_closed (nb nr : Nat) : ∀ bs : List Bool, (boolsL bs).all (closed nb nr) = true
  | [] => rfl
  | x :: r => by rw [show boolsL (x :: r) = .bool x :: boolsL r from rfl, List.all_cons, boolsL_closed nb nr r]; rfl
theorem boolsL_none : ∀ n : Nat, (List.replicate n [A.bool false]).flatten = boolsL (List.replicate n false)
  | 0 => rfl
  | n + 1 => by rw [List.replicate_succ, List.flatten_cons, boolsL_none n]; rfl
@[simp] theorem boolsL_er (nb nr : Nat) (g) : ∀ bs : List Bool, (boolsL bs).map (er1 nb nr g) = boolsL bs
  | [] => rfl
  | x :: r => by rw [show boolsL (x :: r) = .bool x :: boolsL r from rfl, List.map_cons, boolsL_er nb nr g r]; rfl
@[simp] theorem boolsL_flat : ∀ bs : List Bool, (boolsL bs).all flat = true
  | [] => rfl
  | x :: r => by rw [show boolsL (x :: r) = .bool x :: boolsL r from rfl, List.all_cons, boolsL_flat r]; rfl
theorem boolsL_rep (n : Nat) : List.replicate n (A.bool false) = boolsL (List.replicate n false) := by simp [boolsL]
set_option maxHeartbeats 2000000 in
theorem ev_FCopied (N : Nat) : ∀ (f : Fun), f.nodes ≤ N → f.nodes ≤ 1000000000 → ∀ (m : Mem), evCall C0 76 [.agg f.cells] m = some (.ret (.agg f.cells), m) := by
  induction N with
  | zero => intro f hN; have := f.nodes_pos; omega
  | succ N ih =>
  intro f hN hb m
  rw [evCall_body C0 (C0_ext _ (by decide)) (by rw [C0_P]; exact Tryz.func76) rfl (by rw [C0_ann]; rfl) (by rw [C0_ann]; rfl) (by decide) (by simp [Tryz.f76])]
  have hlen := f.length_args
  simp [Tryz.f76, a76, reg76, loop76, draw76, dok76]
  by_cases h0 : 0 < f.args.length
  case neg =>
    have : f.args = [] := List.eq_nil_of_length_eq_zero (by omega)
    rw [evCode_loop]
    simp [round, Tryz.f76, a76, reg76, loop76, draw76, dok76, this]
  have he0 := ih f.args[0] (by have := Fun.nodes_arg (List.getElem_mem h0); omega) (by have := Fun.nodes_arg (List.getElem_mem h0); omega)
  simp at he0
  rw [evCode_loop]
  have h3 : 3 ≤ f.args.length * 3 := by omega
  have g3 := Fun.at_cellsL f.args 0 h0
  simp at g3
  simp [round, Tryz.f76, a76, reg76, loop76, draw76, dok76, h0, he0, h3, g3, endRound_R0]
  refine loop_in (fun i : Nat => ⟨[(1, .ptr m.bx.length 0), (2, .ptr (m.bx.length + 1) 0), (9, .isl false f.args.length (Fun.cellsL f.args)), (10, .int .i64 f.args.length), (11, .int .i64 i)],
    ⟨m.bx ++ [[.int .i64 f.kind, .int .i64 f.num, .sl (m.rw.length + 0) (i * 3) 0 i], [.int .i64 0, .int .i64 0, .nils]], m.rw ++ [⟨24, Fun.cellsL (f.args.take i)⟩]⟩⟩)
    (fun i => some (.ret (.agg f.cells), m)) (fun i => f.args.length - i) (fun i => 0 < i ∧ i ≤ f.args.length) 1 ?_ ?_ ?_ ?_ ?_
  · have : f.args.take 1 = [f.args[0]] := by rw [List.take_succ_eq_append_getElem h0]; simp
    simp [this, Fun.cellsL]
  · simp
  · omega
  · intro x; simp [Tryz.f76, a76, reg76, loop76, draw76, dok76]
  · rintro i ⟨hi0, hi⟩ hrec
    have hmin : min i f.args.length = i := by omega
    by_cases hlt : i < f.args.length
    · have w2 : IntKind.i64.wrap (i + 1) = i + 1 := wrap_id _ (by omega)
      have hmem := Fun.nodes_arg (List.getElem_mem hlt)
      have he := ih f.args[i] (by omega) (by omega)
      simp at he
      clear ih
      have h3 : (i + 1) * 3 ≤ f.args.length * 3 := by omega
      have h4 : (i + 1) * 40 ≤ 70368744177664 := by omega
      have h5 : i + 1 ≤ 70368744177664 := by omega
      simp [round, Tryz.f76, a76, reg76, loop76, draw76, dok76, hlt, w2, h3, h4, h5, he, hmin, endRound_R]
      refine hrec (i + 1) _ _ ?_ ?_ ?_ ?_
      · omega
      · omega
      · simp [Fun.cellsL_snoc hlt]
      · simp
    · clear hrec ih
      have : f.args.take i = f.args := List.take_of_length_le (by omega)
      have hl : i = f.args.length := by omega
      subst hl
      simp [round, Tryz.f76, a76, reg76, loop76, draw76, dok76, this]
      try rw [List.take_of_length_le (by simp)]
def bothE (f g : Fun) (vs ws : List Val) : Int := if okS f vs && okS g ws then (if sameF f g then 0 else 1) else 30
theorem sameF_comm (f g : Fun) : sameF g f = sameF f g := by
  rw [Bool.eq_iff_iff, sameF_iff, sameF_iff]
  exact ⟨fun h => h.symm, fun h => h.symm⟩
theorem ev_Both (f g : Fun) (vs ws : List Val) (hf : f.nodes ≤ 1000000) (hg : g.nodes ≤ 1000000) (hb : Val.nodesL vs ≤ 1000000) (hb2 : Val.nodesL ws ≤ 1000000) (hs : ∀ v ∈ vs, slimV v) (hs2 : ∀ v ∈ ws, slimV v) (m : Mem) :
    evCall C0 35 [.agg (sysX f (.isl false vs.length (Val.cellsL vs))), .agg (sysX g (.isl false ws.length (Val.cellsL ws)))] m = some (.ret (.int .i64 (bothE f g vs ws)), m) := by
  rw [evCall_body C0 (C0_ext _ (by decide)) (by rw [C0_P]; exact Tryz.func35) rfl (by rw [C0_ann]; rfl) (by rw [C0_ann]; rfl) (by decide) (by simp [Tryz.f35])]
  have h1 := ev_SValid f vs hf hb hs
  have h2 := ev_SValid g ws hg hb2 hs2
  have h3 := ev_Same f.nodes f g (Nat.le_refl _) (by omega)
  simp at h1 h2 h3
  unfold bothE
  cases c1 : okS f vs
  · simp [Tryz.f35, a35, reg35, h1, c1]
  cases c2 : okS g ws
  · simp [Tryz.f35, a35, reg35, h1, h2, c1, c2]
  cases c3 : sameF f g <;> simp [Tryz.f35, a35, reg35, h1, h2, h3, c1, c2, c3]
theorem ev_fault2 (f g : Fun) (vs ws : List Val) (hf : f.nodes ≤ 1000000) (hg : g.nodes ≤ 1000000) (hb : Val.nodesL vs ≤ 1000000) (hb2 : Val.nodesL ws ≤ 1000000) (hs : ∀ v ∈ vs, slimV v) (hs2 : ∀ v ∈ ws, slimV v) (m : Mem) (fl : Bool) :
    evCall C0 12 [.isl fl 2 (sysX f (.isl false vs.length (Val.cellsL vs)) ++ sysX g (.isl false ws.length (Val.cellsL ws)))] m = some (.ret (.int .i64 (bothE f g vs ws)), m) := by
  rw [evCall_body C0 (C0_ext _ (by decide)) (by rw [C0_P]; exact Tryz.func12) rfl (by rw [C0_ann]; rfl) (by rw [C0_ann]; rfl) (by decide) (by simp [Tryz.f12])]
  have he := ev_SRIs f vs hf hb hs
  have he2 := ev_SRIs g ws hg hb2 hs2
  have hsm := ev_RSame f.nodes f f (Nat.le_refl _) (by omega)
  have hsm2 := ev_RSame g.nodes g f (Nat.le_refl _) (by omega)
  rw [sameF_comm] at hsm2
  have w2 : IntKind.i64.wrap 2 = 2 := wrap_id _ (by omega)
  simp at he he2 hsm hsm2
  unfold bothE
  simp [Tryz.f12, a12, reg12, loop12, draw12, dok12]
  rw [evCode_loop]
  cases hc : okS f vs
  · simp [round, Tryz.f12, a12, reg12, loop12, draw12, dok12, he, hc]
  simp [round, Tryz.f12, a12, reg12, loop12, draw12, dok12, he, hc, endRound_M0, endRound_M]
  rw [evCode_loop]
  cases hc2 : okS g ws
  · simp [round, Tryz.f12, a12, reg12, loop12, draw12, dok12, he2, hc2]
  simp [round, Tryz.f12, a12, reg12, loop12, draw12, dok12, he2, hc2, endRound_M0, endRound_M, w2]
  rw [evCode_loop]
  simp [round, Tryz.f12, a12, reg12, loop12, draw12, dok12]
  rw [evCode_loop]
  simp [round, Tryz.f12, a12, reg12, loop12, draw12, dok12, hsm, sameF_refl, endRound_M0, endRound_M]
  rw [evCode_loop]
  cases hc3 : sameF f g
  · simp [round, Tryz.f12, a12, reg12, loop12, draw12, dok12, hsm2, hc3]
  simp [round, Tryz.f12, a12, reg12, loop12, draw12, dok12, hsm2, hc3, endRound_M0, endRound_M, w2]
  rw [evCode_loop]
  simp [round, Tryz.f12, a12, reg12, loop12, draw12, dok12]
theorem ev_SRSame00 (m : Mem) : evCall C0 16 [.agg [.int .i64 0, .int .i64 0, .isl false 0 [], .isl false 0 []], .agg [.int .i64 0, .int .i64 0, .nils, .nils]] m = some (.ret (.bool true), m) := by
  have h1 : ∀ m, evCall C0 40 [.agg [.int .i64 0, .int .i64 0, .isl false 0 []], .agg [.int .i64 0, .int .i64 0, .nils]] m = some (.ret (.bool true), m) := fun m => by
    rw [evCall_body C0 (C0_ext _ (by decide)) (by rw [C0_P]; exact Tryz.func40) rfl (by rw [C0_ann]; rfl) (by rw [C0_ann]; rfl) (by decide) (by simp [Tryz.f40])]
    simp [Tryz.f40, a40, reg40, loop40, draw40, dok40]
    rw [evCode_loop]
    simp [round, Tryz.f40, a40, reg40, loop40, draw40, dok40]
  rw [evCall_body C0 (C0_ext _ (by decide)) (by rw [C0_P]; exact Tryz.func16) rfl (by rw [C0_ann]; rfl) (by rw [C0_ann]; rfl) (by decide) (by simp [Tryz.f16])]
  simp [Tryz.f16, a16, reg16, loop16, draw16, dok16, h1]
  rw [evCode_loop]
  simp [round, Tryz.f16, a16, reg16, loop16, draw16, dok16]
@[simp] theorem flat_xA (id : Nat) (xs : List Val) : flat (xA id xs) = true := by unfold xA; split <;> rfl
section
variable (C : Cfg) (f nt : Nat) (all rest : List Oper) (d : Option Tmp) (tm : List (Nat × A)) (m : Mem)
@[simp] theorem opD_makeFunc (g : FuncId) (first caps : Array Operand) : opD C f nt all rest d (.makeFunc (.func g) first caps) ⟨tm, m⟩ = stepD C f nt all rest d .pure m tm (if first.size = 0 then some (.fn g (caps.toList.map (opd C.gl tm)), m) else none) := _root_.id rfl
end
set_option maxHeartbeats 4000000 in
theorem ev_VCopied (N : Nat) : ∀ (f : Val), f.nodes ≤ N → f.nodes ≤ 1000000000 → slimV f → ∀ (m : Mem), evCall C0 161 [.agg f.cells] m = some (.ret (.agg f.cells), m) := by
  induction N with
  | zero => intro f hN; have := f.nodes_pos; omega
  | succ N ih =>
  intro f hN hb hs m
  rw [slimV_eq] at hs
  rw [evCall_body C0 (C0_ext _ (by decide)) (by rw [C0_P]; exact Tryz.func161) rfl (by rw [C0_ann]; rfl) (by rw [C0_ann]; rfl) (by decide) (by simp [Tryz.f161])]
  have hlen := f.length_args
  by_cases hw : f.ws = []
  · have hcl : ∀ m, evCall C0 118 [.isl false f.ws.length (ints f.ws)] m = some (.ret (.isl false 0 []), m) := fun m => by rw [ev_CloneI, hw]; simp [cloneG]
    simp [hw] at hcl
    simp [Tryz.f161, a161, reg161, loop161, draw161, dok161, hw, hcl]
    by_cases h0 : 0 < f.args.length
    case neg =>
      have : f.args = [] := List.eq_nil_of_length_eq_zero (by omega)
      rw [evCode_loop]
      simp [round, Tryz.f161, a161, reg161, loop161, draw161, dok161, this, hw]
    have he0 := ih f.args[0] (by have := Val.nodes_arg (List.getElem_mem h0); omega) (by have := Val.nodes_arg (List.getElem_mem h0); omega) (slimL_mem hs.2 (List.getElem_mem h0))
    simp at he0
    rw [evCode_loop]
    have h3 : 3 ≤ f.args.length * 3 := by omega
    have g3 := Val.at_cellsL f.args 0 h0
    simp at g3
    simp [round, Tryz.f161, a161, reg161, loop161, draw161, dok161, h0, he0, h3, g3, endRound_R0, hw]
    refine loop_in (fun i : Nat => ⟨[(2, .ptr (m.bx.length + 1) 0), (3, .ptr (m.bx.length + 2) 0), (13, .isl false f.args.length (Val.cellsL f.args)), (14, .int .i64 f.args.length), (15, .int .i64 i)],
      ⟨m.bx ++ [f.cells, [.int .i64 0, .nils, .nils], [.int .i64 f.num, .sl (m.rw.length + 0) (i * 3) 0 i, .isl false 0 []]], m.rw ++ [⟨47, Val.cellsL (f.args.take i)⟩]⟩⟩)
      (fun i => some (.ret (.agg f.cells), m)) (fun i => f.args.length - i) (fun i => 0 < i ∧ i ≤ f.args.length) 1 ?_ ?_ ?_ ?_ ?_
    · have : f.args.take 1 = [f.args[0]] := by rw [List.take_succ_eq_append_getElem h0]; simp
      simp [this, Val.cellsL, hw]
    · simp [hw]
    · omega
    · intro x; simp [Tryz.f161, a161, reg161, loop161, draw161, dok161]
    · rintro i ⟨hi0, hi⟩ hrec
      have hmin : min i f.args.length = i := by omega
      by_cases hlt : i < f.args.length
      · have w2 : IntKind.i64.wrap (i + 1) = i + 1 := wrap_id _ (by omega)
        have hmem := Val.nodes_arg (List.getElem_mem hlt)
        have he := ih f.args[i] (by omega) (by omega) (slimL_mem hs.2 (List.getElem_mem hlt))
        simp at he
        clear ih
        have h3 : (i + 1) * 3 ≤ f.args.length * 3 := by omega
        have h4 : (i + 1) * 56 ≤ 70368744177664 := by omega
        have h5 : i + 1 ≤ 70368744177664 := by omega
        simp [round, Tryz.f161, a161, reg161, loop161, draw161, dok161, hlt, w2, h3, h4, h5, he, hmin, endRound_R, hw]
        refine hrec (i + 1) _ _ ?_ ?_ ?_ ?_
        · omega
        · omega
        · simp [Val.cellsL_snoc hlt, hw]
        · simp [hw]
      · clear hrec ih
        have : f.args.take i = f.args := List.take_of_length_le (by omega)
        have hl : i = f.args.length := by omega
        subst hl
        simp [round, Tryz.f161, a161, reg161, loop161, draw161, dok161, this, endRound_R, hw]
        try rw [List.take_of_length_le (by simp)]
        try rw [if_neg (by omega)]
  · have hw1 : 0 < f.ws.length := List.length_pos_iff.2 hw
    have hw2 : ¬ f.ws.length = 0 := by omega
    have hw3 : f.ws.length * 8 ≤ 70368744177664 := by omega
    have hw4 : f.ws.length ≤ 70368744177664 := by omega
    have hcl : ∀ m, evCall C0 118 [.isl false f.ws.length (ints f.ws)] m = some (.ret (.sl m.rw.length f.ws.length 0 f.ws.length), ⟨m.bx, m.rw ++ [⟨3, ints f.ws⟩]⟩) := fun m => by
      rw [ev_CloneI]
      simp only [cloneG]
      rw [if_neg (by omega), if_pos hw1]
      unfold cloneRow
      rw [unInts_ints]
      dsimp only
      rw [if_pos ⟨rfl, by omega⟩]
    simp [Tryz.f161, a161, reg161, loop161, draw161, dok161, hw, hw1, hw2, hw3, hw4, hcl, flat_mem_ints]
    by_cases h0 : 0 < f.args.length
    case neg =>
      have : f.args = [] := List.eq_nil_of_length_eq_zero (by omega)
      rw [evCode_loop]
      simp [round, Tryz.f161, a161, reg161, loop161, draw161, dok161, this, hw, hw1, hw2, hw3, hw4, flat_mem_ints]
    have he0 := ih f.args[0] (by have := Val.nodes_arg (List.getElem_mem h0); omega) (by have := Val.nodes_arg (List.getElem_mem h0); omega) (slimL_mem hs.2 (List.getElem_mem h0))
    simp at he0
    rw [evCode_loop]
    have h3 : 3 ≤ f.args.length * 3 := by omega
    have g3 := Val.at_cellsL f.args 0 h0
    simp at g3
    simp [round, Tryz.f161, a161, reg161, loop161, draw161, dok161, h0, he0, h3, g3, endRound_R, hw, hw1, hw2, hw3, hw4, flat_mem_ints]
    refine loop_in (fun i : Nat => ⟨[(2, .ptr (m.bx.length + 1) 0), (3, .ptr (m.bx.length + 2) 0), (13, .isl false f.args.length (Val.cellsL f.args)), (14, .int .i64 f.args.length), (15, .int .i64 i)],
      ⟨m.bx ++ [f.cells, [.int .i64 0, .nils, .nils], [.int .i64 f.num, .sl (m.rw.length + 1) (i * 3) 0 i, .sl m.rw.length f.ws.length 0 f.ws.length]], m.rw ++ [⟨3, ints f.ws⟩, ⟨47, Val.cellsL (f.args.take i)⟩]⟩⟩)
      (fun i => some (.ret (.agg f.cells), m)) (fun i => f.args.length - i) (fun i => 0 < i ∧ i ≤ f.args.length) 1 ?_ ?_ ?_ ?_ ?_
    · have : f.args.take 1 = [f.args[0]] := by rw [List.take_succ_eq_append_getElem h0]; simp
      simp [this, Val.cellsL, hw, hw1, hw2, hw3, hw4, flat_mem_ints]
    · simp [hw, hw1, hw2, hw3, hw4, flat_mem_ints]
    · omega
    · intro x; simp [Tryz.f161, a161, reg161, loop161, draw161, dok161]
    · rintro i ⟨hi0, hi⟩ hrec
      have hmin : min i f.args.length = i := by omega
      by_cases hlt : i < f.args.length
      · have w2 : IntKind.i64.wrap (i + 1) = i + 1 := wrap_id _ (by omega)
        have hmem := Val.nodes_arg (List.getElem_mem hlt)
        have he := ih f.args[i] (by omega) (by omega) (slimL_mem hs.2 (List.getElem_mem hlt))
        simp at he
        clear ih
        have h3 : (i + 1) * 3 ≤ f.args.length * 3 := by omega
        have h4 : (i + 1) * 56 ≤ 70368744177664 := by omega
        have h5 : i + 1 ≤ 70368744177664 := by omega
        simp [round, Tryz.f161, a161, reg161, loop161, draw161, dok161, hlt, w2, h3, h4, h5, he, hmin, endRound_R, hw, hw1, hw2, hw3, hw4, flat_mem_ints]
        refine hrec (i + 1) _ _ ?_ ?_ ?_ ?_
        · omega
        · omega
        · simp [Val.cellsL_snoc hlt, hw, hw1, hw2, hw3, hw4, flat_mem_ints]
        · simp [hw, hw1, hw2, hw3, hw4, flat_mem_ints]
      · clear hrec ih
        have : f.args.take i = f.args := List.take_of_length_le (by omega)
        have hl : i = f.args.length := by omega
        subst hl
        simp [round, Tryz.f161, a161, reg161, loop161, draw161, dok161, this, endRound_R, hw, hw1, hw2, hw3, hw4, flat_mem_ints]
        try rw [List.take_of_length_le (by simp)]
        try rw [if_neg (by omega)]
set_option maxHeartbeats 2000000 in
theorem ev_SCopied (f : Fun) (vs : List Val) (hf : f.nodes ≤ 1000000) (hb : Val.nodesL vs ≤ 1000000) (hs : ∀ v ∈ vs, slimV v) (m : Mem) : evCall C0 114 [.agg (sysX f (.isl false vs.length (Val.cellsL vs)))] m = some (.ret (.agg (sysX f (xA m.rw.length vs))), ⟨m.bx, m.rw ++ xR vs⟩) := by
  rw [evCall_body C0 (C0_ext _ (by decide)) (by rw [C0_P]; exact Tryz.func114) rfl (by rw [C0_ann]; rfl) (by rw [C0_ann]; rfl) (by decide) (by simp [Tryz.f114])]
  have hlen := Val.length_nodesL vs
  have hcf := ev_FCopied f.nodes f (Nat.le_refl _) (by omega)
  simp at hcf
  simp [Tryz.f114, a114, reg114, loop114, draw114, dok114, hcf]
  by_cases h0 : 0 < vs.length
  case neg =>
    have : vs = [] := List.eq_nil_of_length_eq_zero (by omega)
    subst this
    have hk : ∀ b, leave Tryz.prog true m (.ret (.agg (sysX f .nils))) ⟨m.bx ++ b, m.rw⟩ = some (.ret (.agg (sysX f .nils)), m) := fun b => leave_keep0 _ m b m.rw _ (RowsOk.refl _ _) (by simp [Res.val, sysX])
    simp [sysX] at hk
    rw [evCode_loop]
    simp [round, Tryz.f114, a114, reg114, loop114, draw114, dok114, hk, xA, xR, sysX]
  have hne : vs ≠ [] := by rintro rfl; simp at h0
  have hm0 := List.getElem_mem h0
  have he0 := ev_VCopied vs[0].nodes vs[0] (Nat.le_refl _) (by have := Val.nodes_mem hm0; omega) (hs _ hm0)
  simp at he0
  rw [evCode_loop]
  have h3 : 3 ≤ vs.length * 3 := by omega
  have g3 := Val.at_cellsL vs 0 h0
  simp at g3
  simp [round, Tryz.f114, a114, reg114, loop114, draw114, dok114, h0, he0, h3, g3, endRound_R0]
  refine loop_in (fun i : Nat => ⟨[(2, .ptr (m.bx.length + 1) 0), (3, .ptr (m.bx.length + 2) 0), (11, .isl false vs.length (Val.cellsL vs)), (12, .int .i64 vs.length), (13, .int .i64 i)],
    ⟨m.bx ++ [sysX f (.isl false vs.length (Val.cellsL vs)), [.int .i64 0, .int .i64 0, .nils, .nils], sysX f (.sl (m.rw.length + 0) (i * 3) 0 i)], m.rw ++ [⟨47, Val.cellsL (vs.take i)⟩]⟩⟩)
    (fun i => some (.ret (.agg (sysX f (xA m.rw.length vs))), ⟨m.bx, m.rw ++ xR vs⟩)) (fun i => vs.length - i) (fun i => 0 < i ∧ i ≤ vs.length) 1 ?_ ?_ ?_ ?_ ?_
  · have : vs.take 1 = [vs[0]] := by rw [List.take_succ_eq_append_getElem h0]; simp
    simp [this, Val.cellsL]
  · simp
  · omega
  · intro x; simp [Tryz.f114, a114, reg114, loop114, draw114, dok114]
  · rintro i ⟨hi0, hi⟩ hrec
    have hmin : min i vs.length = i := by omega
    by_cases hlt : i < vs.length
    · have w2 : IntKind.i64.wrap (i + 1) = i + 1 := wrap_id _ (by omega)
      have hmem := List.getElem_mem hlt
      have he := ev_VCopied vs[i].nodes vs[i] (Nat.le_refl _) (by have := Val.nodes_mem hmem; omega) (hs _ hmem)
      simp at he
      have h3 : (i + 1) * 3 ≤ vs.length * 3 := by omega
      have h4 : (i + 1) * 56 ≤ 70368744177664 := by omega
      have h5 : i + 1 ≤ 70368744177664 := by omega
      simp [round, Tryz.f114, a114, reg114, loop114, draw114, dok114, hlt, w2, h3, h4, h5, he, hmin, endRound_R]
      refine hrec (i + 1) _ _ ?_ ?_ ?_ ?_
      · omega
      · omega
      · simp [Val.cellsL_snoc hlt]
      · simp
    · clear hrec
      have : vs.take i = vs := List.take_of_length_le (by omega)
      have hl : i = vs.length := by omega
      subst hl
      have hk : ∀ b, leave Tryz.prog true m (.ret (.agg (sysX f (.sl m.rw.length (vs.length * 3) 0 vs.length)))) ⟨m.bx ++ b, m.rw ++ [⟨47, Val.cellsL vs⟩]⟩ = some (.ret (.agg (sysX f (.sl m.rw.length (vs.length * 3) 0 vs.length))), ⟨m.bx, m.rw ++ [⟨47, Val.cellsL vs⟩]⟩) := fun b => leave_keep0 _ m b _ _ (RowsOk.more (by simp)) (by simp [Res.val, sysX])
      simp [sysX] at hk
      simp [round, Tryz.f114, a114, reg114, loop114, draw114, dok114, this, hk, xA, xR, hne, sysX]
structure Vis {σ : Type} (h : FuncId) (caps : List A) (n : Int) (st : σ → Int → σ) (Rm : σ → Nat → Prop) (RW : σ → List Row) (BM : σ → List (List A)) : Prop where
  len : ∀ s s', (BM s).length = (BM s').length
  ev : ∀ s x k, 0 ≤ x → x < n → Rm s (k + 1) → ∀ L, evCall C0 h (.int .i64 x :: caps) ⟨BM s ++ L, RW s⟩ = some (.ret (.tup []), ⟨BM (st s x) ++ L, RW (st s x)⟩)
  room : ∀ s x k, 0 ≤ x → x < n → Rm s (k + 1) → Rm (st s x) k
  less : ∀ s k k', Rm s k → k' ≤ k → Rm s k'
  bxs : ∀ s s' nb, (BM s).length ≤ nb → ∀ i, i < (BM s).length → (BM s')[i]? = (BM s)[i]? ∨ ∃ cs, (BM s')[i]? = some cs ∧ cs.all (closed nb (RW s').length) = true
  rws : ∀ s s' nb, (BM s).length ≤ nb → RowsOk nb (RW s) (RW s')
section
variable {σ : Type} {h : FuncId} {caps : List A} {n : Int} {st : σ → Int → σ} {Rm : σ → Nat → Prop} {RW : σ → List Row} {BM : σ → List (List A)}
theorem Vis.more (V : Vis h caps n st Rm RW BM) (L : List (List A)) : Vis h caps n st Rm RW (fun s => BM s ++ L) where
  len s s' := by rw [List.length_append, List.length_append, V.len s s']
  ev s x k h0 h1 hr L' := by have := V.ev s x k h0 h1 hr (L ++ L'); rwa [← List.append_assoc, ← List.append_assoc] at this
  room := V.room
  less := V.less
  bxs s s' nb hnb i hi := by
    rw [List.length_append] at hnb hi
    by_cases hlt : i < (BM s).length
    · have hlt' : i < (BM s').length := by rw [V.len s' s]; exact hlt
      rw [List.getElem?_append_left hlt, List.getElem?_append_left hlt']
      exact V.bxs s s' nb (by omega) i hlt
    · rw [List.getElem?_append_right (by rw [V.len s' s]; omega), List.getElem?_append_right (by omega), V.len s' s]
      exact .inl rfl
  rws s s' nb hnb := by rw [List.length_append] at hnb; exact V.rws s s' nb (by omega)
theorem Vis.keep (V : Vis h caps n st Rm RW BM) (s s' : σ) (b : List (List A)) : leave Tryz.prog true ⟨BM s, RW s⟩ (.ret (.tup [])) ⟨BM s' ++ b, RW s'⟩ = some (.ret (.tup []), ⟨BM s', RW s'⟩) :=
  leave_keep _ _ _ _ _ _ (V.len s' s) (fun i hi => V.bxs s s' _ (Nat.le_refl _) i hi) (V.rws s s' _ (Nat.le_refl _)) (by simp [Res.val])
theorem Vis.keep0 (V : Vis h caps n st Rm RW BM) (s s' : σ) : leave Tryz.prog true ⟨BM s, RW s⟩ (.ret (.tup [])) ⟨BM s', RW s'⟩ = some (.ret (.tup []), ⟨BM s', RW s'⟩) := by
  have := V.keep s s' []
  rwa [List.append_nil] at this
theorem Vis.round (V : Vis h caps n st Rm RW BM) (s s' : σ) {l : List Nat} {L L' : List (List A)} {tm : List (Nat × A)} (hL : L.length ≤ L'.length) (hl : l.all (fun t => closed ((BM s).length + L.length) (RW s').length (lk t tm)) = true) (hc : (L'.take L.length).all (fun cs => cs.all (closed ((BM s).length + L.length) (RW s').length)) = true) :
    endRound (some l) ⟨BM s ++ L, RW s⟩ ⟨tm, ⟨BM s' ++ L', RW s'⟩⟩ = some ⟨prune (some l) tm, ⟨BM s' ++ L'.take L.length, RW s'⟩⟩ := by
  refine endRound_eq (B := BM s' ++ L'.take L.length) (J := L'.drop L.length) (by simp) (by simp [V.len s' s]; omega) (by simpa using List.all_eq_true.1 hl) (fun i hi => ?_) (fun i hi => by simpa using V.rws s s' (BM s ++ L).length (by simp) i hi)
  simp only [List.length_append] at hi ⊢
  by_cases hlt : i < (BM s).length
  · rw [List.getElem?_append_left (by rw [V.len s' s]; exact hlt), List.getElem?_append_left hlt]
    exact V.bxs s s' _ (by omega) i hlt
  · right
    have h1 : i - (BM s).length < (L'.take L.length).length := by rw [List.length_take]; omega
    refine ⟨(L'.take L.length)[i - (BM s).length], ?_, List.all_eq_true.1 hc _ (List.getElem_mem _)⟩
    rw [List.getElem?_append_right (by rw [V.len s' s]; omega), V.len s' s, List.getElem?_eq_getElem h1]
theorem vis_fold (V : Vis h caps n st Rm RW BM) : ∀ (l : List Int) (s : σ) (k : Nat), (∀ x, x ∈ l → 0 ≤ x ∧ x < n) → Rm s (l.length + k) → Rm (l.foldl st s) k
  | [], s, k, _, hr => by simpa using hr
  | x :: r, s, k, hx, hr => by
    rw [List.foldl_cons]
    have h1 := hx x List.mem_cons_self
    refine vis_fold V r _ k (fun y hy => hx y (List.mem_cons_of_mem _ hy)) (V.room s x _ h1.1 h1.2 ?_)
    rw [List.length_cons] at hr
    exact V.less _ _ _ hr (by omega)
end
mutual
theorem leaves_bd {ex : Fun → List Val → List Int → Bool} {n : Int} : ∀ (v : Val) (f : Fun), okV ex n v f = true → ∀ x, x ∈ leavesV v f → 0 ≤ x ∧ x < n
  | .mk k l w, f, hok, x, hx => by
    rw [okV_eq, Bool.and_eq_true, Bool.and_eq_true] at hok
    obtain ⟨⟨hh, _⟩, hokl⟩ := hok
    rw [leavesV] at hx
    split at hx
    · rename_i h0
      unfold headL at hh
      simp [h0] at hh
      simp at hx
      subst hx
      omega
    · exact leavesL_bd l (argF f k) 0 (by simpa using hokl) x hx
theorem leavesL_bd {ex : Fun → List Val → List Int → Bool} {n : Int} : ∀ (l : List Val) (g : Nat → Fun) (i : Nat), okL ex n l g i = true → ∀ x, x ∈ leavesL l g i → 0 ≤ x ∧ x < n
  | [], g, i, _, x, hx => by rw [leavesL] at hx; cases hx
  | v :: r, g, i, hok, x, hx => by
    rw [okL, Bool.and_eq_true] at hok
    rw [leavesL] at hx
    rcases List.mem_append.1 hx with h | h
    · exact leaves_bd v (g i) hok.1 x h
    · exact leavesL_bd r g (i + 1) hok.2 x h
end
def WalkG {σ : Type} (h : FuncId) (caps : List A) (n : Int) (st : σ → Int → σ) (Rm : σ → Nat → Prop) (RW : σ → List Row) (v : Val) (f : Fun) : Prop :=
  ∀ (BM : σ → List (List A)), Vis h caps n st Rm RW BM → ∀ iv iw : Nat, (∀ s, (BM s)[iv]? = some [.fn h caps]) → (∀ s, (BM s)[iw]? = some [.fn 164 [.ptr iv 0, .ptr iw 0]]) → ∀ s, Rm s v.nodes →
    evCall C0 164 [.agg f.cells, .agg v.cells, .ptr iv 0, .ptr iw 0] ⟨BM s, RW s⟩ = some (.ret (.tup []), ⟨BM ((leavesV v f).foldl st s), RW ((leavesV v f).foldl st s)⟩)
section
variable {σ : Type} {h : FuncId} {caps : List A} {n : Int} {st : σ → Int → σ} {Rm : σ → Nat → Prop} {RW : σ → List Row}
set_option maxHeartbeats 4000000 in
theorem ev_walkG (ex : Fun → List Val → List Int → Bool) (N : Nat) : ∀ (v : Val), v.nodes ≤ N → v.nodes ≤ 1000000 → ∀ (f : Fun), shapedF f = true → okV ex n v f = true → WalkG h caps n st Rm RW v f := by
  induction N with
  | zero => intro v hN; have := v.nodes_pos; omega
  | succ N ih =>
  intro v hN hb f hf hok BM V iv iw hgv hgw s hrm
  obtain ⟨L0, hL0⟩ : ∃ k, (BM s).length = k := ⟨_, rfl⟩
  have hlen : ∀ s', (BM s').length = L0 := fun s' => by rw [V.len s' s, hL0]
  have hivl : iv < L0 := by rw [← hL0]; exact (List.getElem?_eq_some_iff.1 (hgv s)).1
  have hiwl : iw < L0 := by rw [← hL0]; exact (List.getElem?_eq_some_iff.1 (hgw s)).1
  have hgv' : ∀ s' L, (BM s' ++ L)[iv]? = some [.fn h caps] := fun s' L => by rw [List.getElem?_append_left (by rw [hlen]; exact hivl)]; exact hgv s'
  have hgw' : ∀ s' L, (BM s' ++ L)[iw]? = some [.fn 164 [.ptr iv 0, .ptr iw 0]] := fun s' L => by rw [List.getElem?_append_left (by rw [hlen]; exact hiwl)]; exact hgw s'
  have hA : ∀ s' L k, (BM s' ++ L)[L0 + k]? = L[k]? := fun s' L k => by rw [List.getElem?_append_right (by rw [hlen]; omega), hlen]; congr 1; omega
  have hA0 : ∀ s' L, (BM s' ++ L)[L0]? = L[0]? := fun s' L => hA s' L 0
  have hk1 := V.keep
  have hk0 := V.keep0
  have hlenA := v.length_args
  rw [okV_eq, Bool.and_eq_true, Bool.and_eq_true] at hok
  obtain ⟨⟨hh, _⟩, hokl⟩ := hok
  obtain ⟨n1, n2, n3⟩ := head_num hh
  have hM : ∀ L, (∀ s', (BM s' ++ L)[iv]? = some [.fn h caps]) := fun L s' => hgv' s' L
  have hMw : ∀ L, (∀ s', (BM s' ++ L)[iw]? = some [.fn 164 [.ptr iv 0, .ptr iw 0]]) := fun L s' => hgw' s' L
  have hpos := v.nodes_pos
  rw [evCall_body C0 (C0_ext _ (by decide)) (by rw [C0_P]; exact Tryz.func164) rfl (by rw [C0_ann]; rfl) (by rw [C0_ann]; rfl) (by decide) (by simp [Tryz.f164])]
  rw [leavesV_eq]
  rcases shaped_kind hf with ⟨hk, hfl⟩ | ⟨hk, hfl⟩ | ⟨hk, hfl⟩ | ⟨hk, hfl⟩ | ⟨hk, hfl⟩ | ⟨hk, hfl⟩ | ⟨hk, hfl⟩ | ⟨hk, hfl⟩
  · have hx : 0 ≤ v.num ∧ v.num < n := by
      unfold headL at hh
      simp [hk] at hh
      omega
    have he := V.ev s v.num 0 hx.1 hx.2 (V.less _ _ _ hrm (by omega)) [f.cells, v.cells]
    simp [hk] at he
    simp [Tryz.f164, a164, reg164, loop164, draw164, dok164, hk, hlen, hL0, hgv', hgw', hA, hA0, he, hk1, hk0]
  · have ha : v.args = [] := List.eq_nil_of_length_eq_zero (n3 (.inr hk))
    simp [Tryz.f164, a164, reg164, loop164, draw164, dok164, hk, ha, leavesL, hlen, hL0, hgv', hgw', hA, hA0, hk1, hk0]
  · have ca : v.args.length = 2 := by
      unfold headL at hh
      simp [hk] at hh
      omega
    have a0 : 0 < v.args.length := by omega
    have a1 : 1 < v.args.length := by omega
    have f0 : 0 < f.args.length := by omega
    have f1 : 1 < f.args.length := by omega
    have g0 : argF f v.num 0 = f.args[0] := by unfold argF; rw [if_pos hk, List.getD_eq_getElem?_getD, List.getElem?_eq_getElem f0]; rfl
    have g1 : argF f v.num 1 = f.args[1] := by unfold argF; rw [if_pos hk, List.getD_eq_getElem?_getD, List.getElem?_eq_getElem f1]; rfl
    have b1 := Fun.at_cellsL f.args 0 f0
    have b2 := Fun.at_cellsL f.args 1 f1
    have b3 := Val.at_cellsL v.args 0 a0
    have b4 := Val.at_cellsL v.args 1 a1
    simp at b1 b2 b3 b4
    have m0 := Val.nodes_arg (List.getElem_mem a0)
    have m1 := Val.nodes_arg (List.getElem_mem a1)
    have o0 := okL_mem hokl 0 a0
    have o1 := okL_mem hokl 1 a1
    simp only [Nat.zero_add] at o0 o1
    rw [g0] at o0
    rw [g1] at o1
    have e0 := leavesL_drop a0 (argF f v.num)
    have e1 := leavesL_drop a1 (argF f v.num)
    rw [List.drop_zero] at e0
    rw [if_neg (by omega : ¬ f.kind = 0), e0, g0, e1, g1, List.drop_eq_nil_of_le (show v.args.length ≤ 1 + 1 by omega), leavesL, List.append_nil, List.foldl_append]
    have l0 := leaves_len v.args[0] f.args[0]
    have hsum : v.args[0].nodes + v.args[1].nodes < v.nodes := by
      have h1 := Val.nodes_eq v
      have h2 := Val.nodesL_drop a0
      have h3 := Val.nodesL_drop a1
      rw [List.drop_zero, Nat.zero_add] at h2
      omega
    have he0 := ih v.args[0] (by omega) (by omega) f.args[0] (shaped_arg hf f0) o0 (fun s => BM s ++ [f.cells, v.cells]) (V.more _) iv iw (hM _) (hMw _) s (V.less _ _ _ hrm (by omega))
    have hr1 : Rm ((leavesV v.args[0] f.args[0]).foldl st s) v.args[1].nodes := vis_fold V _ _ _ (leaves_bd _ _ o0) (V.less _ _ _ hrm (by omega))
    have he1 := ih v.args[1] (by omega) (by omega) f.args[1] (shaped_arg hf f1) o1 (fun s => BM s ++ [f.cells, v.cells]) (V.more _) iv iw (hM _) (hMw _) _ hr1
    generalize (leavesV v.args[0] f.args[0]).foldl st s = s1 at he0 he1 hr1 ⊢
    generalize (leavesV v.args[1] f.args[1]).foldl st s1 = s2 at he1 ⊢
    simp [hk, hfl, ca] at he0 he1
    simp [Tryz.f164, a164, reg164, loop164, draw164, dok164, hk, hfl, ca, hlen, hL0, hgv', hgw', hA, hA0, b1, b2, b3, b4, he0, he1, hk1, hk0]
  · have ca : v.args.length = 1 ∧ 0 ≤ v.num ∧ v.num ≤ 1 := by
      unfold headL at hh
      simp [hk] at hh
      omega
    have a0 : 0 < v.args.length := by omega
    have b3 := Val.at_cellsL v.args 0 a0
    have m0 := Val.nodes_arg (List.getElem_mem a0)
    have o0 := okL_mem hokl 0 a0
    simp only [Nat.zero_add] at o0
    have e0 := leavesL_drop a0 (argF f v.num)
    rw [List.drop_zero] at e0
    rw [if_neg (by omega : ¬ f.kind = 0), e0, List.drop_eq_nil_of_le (show v.args.length ≤ 0 + 1 by omega), leavesL, List.append_nil]
    rcases (show v.num = 0 ∨ v.num = 1 by omega) with cn | cn
    · have f0 : 0 < f.args.length := by omega
      have g0 : argF f v.num 0 = f.args[0] := by unfold argF; rw [if_neg (by omega), if_pos hk, cn, List.getD_eq_getElem?_getD, List.getElem?_eq_getElem (by simpa using f0)]; rfl
      have b1 := Fun.at_cellsL f.args 0 f0
      simp at b1 b3
      rw [g0] at o0 ⊢
      have he0 := ih v.args[0] (by omega) (by omega) f.args[0] (shaped_arg hf f0) o0 (fun s => BM s ++ [f.cells, v.cells]) (V.more _) iv iw (hM _) (hMw _) s (V.less _ _ _ hrm (by omega))
      generalize (leavesV v.args[0] f.args[0]).foldl st s = s1 at he0 ⊢
      simp [hk, hfl, ca.1, cn] at he0
      simp [Tryz.f164, a164, reg164, loop164, draw164, dok164, hk, hfl, ca.1, cn, hlen, hL0, hgv', hgw', hA, hA0, b1, b3, he0, hk1, hk0]
    · have f0 : 1 < f.args.length := by omega
      have g0 : argF f v.num 0 = f.args[1] := by unfold argF; rw [if_neg (by omega), if_pos hk, cn, List.getD_eq_getElem?_getD, List.getElem?_eq_getElem (by simpa using f0)]; rfl
      have b1 := Fun.at_cellsL f.args 1 f0
      simp at b1 b3
      rw [g0] at o0 ⊢
      have he0 := ih v.args[0] (by omega) (by omega) f.args[1] (shaped_arg hf f0) o0 (fun s => BM s ++ [f.cells, v.cells]) (V.more _) iv iw (hM _) (hMw _) s (V.less _ _ _ hrm (by omega))
      generalize (leavesV v.args[0] f.args[1]).foldl st s = s1 at he0 ⊢
      simp [hk, hfl, ca.1, cn] at he0
      simp [Tryz.f164, a164, reg164, loop164, draw164, dok164, hk, hfl, ca.1, cn, hlen, hL0, hgv', hgw', hA, hA0, b1, b3, he0, hk1, hk0]
  all_goals
    have f0 : 0 < f.args.length := by omega
    have b1 := Fun.at_cellsL f.args 0 f0
    simp at b1
    have g0 : ∀ i, argF f v.num i = f.args[0] := fun i => by unfold argF; rw [if_neg (by omega), if_neg (by omega), List.getD_eq_getElem?_getD, List.getElem?_eq_getElem f0]; rfl
    rw [if_neg (by omega : ¬ f.kind = 0)]
    have hrd := V.round
    simp [Tryz.f164, a164, reg164, loop164, draw164, dok164, hk, hlen, hL0]
    rw [loop_mp (fun x : Nat × σ => ⟨[(3, .ptr iw 0), (4, .ptr L0 0), (11, .isl false v.args.length (Val.cellsL v.args)), (12, .int .i64 v.args.length), (13, .int .i64 x.1)], ⟨BM x.2 ++ [f.cells, v.cells], RW x.2⟩⟩)
      (fun x => some (.normal, ⟨[(3, .ptr iw 0), (4, .ptr L0 0), (11, .isl false v.args.length (Val.cellsL v.args)), (12, .int .i64 v.args.length), (13, .int .i64 v.args.length), (14, .bool false)], ⟨BM ((leavesL (v.args.drop x.1) (argF f v.num) x.1).foldl st x.2) ++ [f.cells, v.cells], RW ((leavesL (v.args.drop x.1) (argF f v.num) x.1).foldl st x.2)⟩⟩)) (fun x => v.args.length - x.1) (fun x => x.1 ≤ v.args.length ∧ Rm x.2 (Val.nodesL (v.args.drop x.1))) (0, s) ?_ rfl ?_ ?_ ?_]
    · simp [hk1, hk0]
    · simp [Tryz.f164, a164, reg164, loop164, draw164, dok164, hk]
    · refine ⟨by simp, V.less _ _ _ hrm ?_⟩
      have := Val.nodes_eq v
      simp; omega
    · intro x; simp [Tryz.f164, a164, reg164, loop164, draw164, dok164]
    · rintro ⟨i, s⟩ hI hrec
      simp only at hI
      obtain ⟨hi, hsl⟩ := hI
      by_cases hlt : i < v.args.length
      · have w2 : IntKind.i64.wrap (i + 1) = i + 1 := wrap_id _ (by omega)
        have h3 : (i + 1) * 3 ≤ v.args.length * 3 := by omega
        have m0 := Val.nodes_arg (List.getElem_mem hlt)
        have o0 := okL_mem hokl i hlt
        rw [g0] at o0
        rw [Val.nodesL_drop hlt] at hsl
        have l0 := leaves_len v.args[i] f.args[0]
        have he0 := ih v.args[i] (by omega) (by omega) f.args[0] (shaped_arg hf f0) o0 (fun s => BM s ++ [f.cells, v.cells, v.args[i].cells]) (V.more _) iv iw (hM _) (hMw _) s (V.less _ _ _ hsl (by omega))
        have hr1 : Rm ((leavesV v.args[i] f.args[0]).foldl st s) (Val.nodesL (v.args.drop (i + 1))) := vis_fold V _ _ _ (leaves_bd _ _ o0) (V.less _ _ _ hsl (by omega))
        simp only
        rw [leavesL_drop hlt, g0, List.foldl_append]
        generalize (leavesV v.args[i] f.args[0]).foldl st s = s1 at he0 hr1 ⊢
        have her := fun (tm : List (Nat × A)) (hl : [3, 4, 11, 12, 13].all (fun t => closed ((BM s).length + [f.cells, v.cells].length) (RW s1).length (lk t tm)) = true) => V.round s s1 (L := [f.cells, v.cells]) (L' := [f.cells, v.cells, v.args[i].cells]) (by simp) hl (by simp)
        simp [hlen] at her
        simp at he0
        simp [round, Tryz.f164, a164, reg164, loop164, draw164, dok164, hlt, w2, h3, f0, show 3 ≤ f.args.length * 3 by omega, b1, hlen, hL0, hgv', hgw', hA, hA0, he0, her, show iw < L0 + 2 by omega]
        refine hrec (i + 1, s1) _ _ ?_ ?_ ?_ ?_
        · simp; omega
        · exact ⟨by simp; omega, hr1⟩
        · simp
        · simp
      · clear hrec
        have : i = v.args.length := by omega
        subst this
        simp [round, Tryz.f164, a164, reg164, loop164, draw164, dok164]
        rw [leavesL]
        simp
theorem ev_LeavesG (ex : Fun → List Val → List Int → Bool) (v : Val) (hb : v.nodes ≤ 1000000) (f : Fun) (hf : shapedF f = true) (hok : okV ex n v f = true) {BM : σ → List (List A)} (V : Vis h caps n st Rm RW BM) (s : σ) (hrm : Rm s v.nodes) (hcl : ∀ s, closed (BM s).length (RW s).length (.fn h caps) = true) :
    evCall C0 119 [.agg f.cells, .agg v.cells, .fn h caps] ⟨BM s, RW s⟩ = some (.ret (.tup []), ⟨BM ((leavesV v f).foldl st s), RW ((leavesV v f).foldl st s)⟩) := by
  rw [evCall_body C0 (C0_ext _ (by decide)) (by rw [C0_P]; exact Tryz.func119) rfl (by rw [C0_ann]; rfl) (by rw [C0_ann]; rfl) (by decide) (by simp [Tryz.f119])]
  obtain ⟨L0, hL0⟩ : ∃ k, (BM s).length = k := ⟨_, rfl⟩
  have hlen : ∀ s', (BM s').length = L0 := fun s' => by rw [V.len s' s, hL0]
  have hA : ∀ s' L k, (BM s' ++ L)[L0 + k]? = L[k]? := fun s' L k => by rw [List.getElem?_append_right (by rw [hlen]; omega), hlen]; congr 1; omega
  have hA0 : ∀ s' L, (BM s' ++ L)[L0]? = L[0]? := fun s' L => hA s' L 0
  have hk1 := V.keep
  have he := ev_walkG (h := h) (caps := caps) (st := st) (Rm := Rm) (RW := RW) ex v.nodes v (Nat.le_refl _) hb f hf hok (fun s => BM s ++ [f.cells, v.cells, [.fn h caps], [.fn 164 [.ptr (L0 + 2) 0, .ptr (L0 + 3) 0]]]) (V.more _) (L0 + 2) (L0 + 3) (fun s' => by rw [hA]; rfl) (fun s' => by rw [hA]; rfl) s hrm
  generalize (leavesV v f).foldl st s = s1 at he ⊢
  have hSet : ∀ s' a b c d x, (BM s' ++ [a, b, c, d]).set (L0 + 3) x = BM s' ++ [a, b, c, x] := fun s' a b c d x => by rw [List.set_append_right _ _ (by rw [hlen]; omega), hlen, show L0 + 3 - L0 = 3 by omega]; rfl
  simp at he
  simp [Tryz.f119, a119, reg119, hlen, hL0, hA, hA0, hSet, he, hk1]
end
inductive Rch (S : Int → List Int) (fr : List Int) : Int → Prop
  | start (x : Int) : x ∈ fr → Rch S fr x
  | step (x y : Int) : Rch S fr x → y ∈ S x → Rch S fr y
theorem Rch.bound {S : Int → List Int} {fr : List Int} {n : Nat} (hS : ∀ x : Int, 0 ≤ x → x < n → ∀ y, y ∈ S x → 0 ≤ y ∧ y < n) (hf : ∀ x, x ∈ fr → 0 ≤ x ∧ x < n) {x : Int} (h : Rch S fr x) : 0 ≤ x ∧ x < n := by
  induction h with
  | start x hx => exact hf x hx
  | step x y _ hy ih => exact hS x ih.1 ih.2 y hy
open Classical in
noncomputable def rchL (S : Int → List Int) (fr : List Int) (n : Nat) : List Bool := (List.range n).map fun i : Nat => decide (Rch S fr i)
theorem rchL_length (S : Int → List Int) (fr : List Int) (n : Nat) : (rchL S fr n).length = n := by simp [rchL]
theorem rchL_at (S : Int → List Int) (fr : List Int) (n i : Nat) (h : i < n) : (rchL S fr n)[i]'(by rw [rchL_length]; exact h) = true ↔ Rch S fr i := by simp [rchL]
theorem bools_eq {T U : List Bool} (hl : T.length = U.length) (h : ∀ i (h1 : i < T.length) (h2 : i < U.length), T[i] = true ↔ U[i] = true) : T = U := by
  apply List.ext_getElem hl
  intro i h1 h2
  rw [Bool.eq_iff_iff]
  exact h i h1 h2
structure RInv (S : Int → List Int) (fr : List Int) (n : Nat) (V : Int → Prop) (qs : List Int) : Prop where
  q : ∀ x, x ∈ qs → 0 ≤ x ∧ x < n
  a : ∀ x, x ∈ fr → V x ∨ x ∈ qs
  b : ∀ x, V x → ∀ y, y ∈ S x → V y ∨ y ∈ qs
  c : ∀ x, V x ∨ x ∈ qs → Rch S fr x
theorem RInv.done {S : Int → List Int} {fr : List Int} {n : Nat} {V : Int → Prop} (h : RInv S fr n V []) (x : Int) : V x ↔ Rch S fr x := by
  refine ⟨fun hv => h.c x (.inl hv), fun hr => ?_⟩
  induction hr with
  | start x hx => rcases h.a x hx with h | h; exact h; cases h
  | step x y _ hy ih => rcases h.b x ih y hy with h | h; exact h; cases h
theorem RInv.skip {S : Int → List Int} {fr : List Int} {n : Nat} {V : Int → Prop} {x : Int} {q q' : List Int} (h : RInv S fr n V q) (hx : V x) (hq : ∀ y, y ∈ q ↔ y = x ∨ y ∈ q') : RInv S fr n V q' where
  q := fun y hy => h.q y ((hq y).2 (.inr hy))
  a := fun y hy => by
    rcases h.a y hy with h1 | h1
    · exact .inl h1
    · rcases (hq y).1 h1 with rfl | h2
      · exact .inl hx
      · exact .inr h2
  b := fun z hz y hy => by
    rcases h.b z hz y hy with h1 | h1
    · exact .inl h1
    · rcases (hq y).1 h1 with rfl | h2
      · exact .inl hx
      · exact .inr h2
  c := fun y hy => h.c y (hy.elim .inl fun h1 => .inr ((hq y).2 (.inr h1)))
theorem RInv.visit {S : Int → List Int} {fr : List Int} {n : Nat} {V V' : Int → Prop} {x : Int} {q q' q2 : List Int} (hS : ∀ x : Int, 0 ≤ x → x < n → ∀ y, y ∈ S x → 0 ≤ y ∧ y < n) (h : RInv S fr n V q) (hV : ∀ y, V' y ↔ V y ∨ y = x) (hq : ∀ y, y ∈ q ↔ y = x ∨ y ∈ q') (hq2 : ∀ y, y ∈ q2 ↔ y ∈ q' ∨ y ∈ S x) : RInv S fr n V' q2 := by
  have hx := h.q x ((hq x).2 (.inl rfl))
  have hrx := h.c x (.inr ((hq x).2 (.inl rfl)))
  refine ⟨fun y hy => ?_, fun y hy => ?_, fun z hz y hy => ?_, fun y hy => ?_⟩
  · rcases (hq2 y).1 hy with h1 | h1
    · exact h.q y ((hq y).2 (.inr h1))
    · exact hS x hx.1 hx.2 y h1
  · rcases h.a y hy with h1 | h1
    · exact .inl ((hV y).2 (.inl h1))
    · rcases (hq y).1 h1 with h2 | h2
      · exact .inl ((hV y).2 (.inr h2))
      · exact .inr ((hq2 y).2 (.inl h2))
  · rcases (hV z).1 hz with h1 | h1
    · rcases h.b z h1 y hy with h2 | h2
      · exact .inl ((hV y).2 (.inl h2))
      · rcases (hq y).1 h2 with h3 | h3
        · exact .inl ((hV y).2 (.inr h3))
        · exact .inr ((hq2 y).2 (.inl h3))
    · subst h1
      exact .inr ((hq2 y).2 (.inr hy))
  · rcases hy with h1 | h1
    · rcases (hV y).1 h1 with h2 | h2
      · exact h.c y (.inl h2)
      · rw [h2]; exact hrx
    · rcases (hq2 y).1 h1 with h2 | h2
      · exact h.c y (.inr ((hq y).2 (.inr h2)))
      · exact .step x y hrx h2
theorem RInv.begin {S : Int → List Int} {fr : List Int} {n : Nat} (hf : ∀ x, x ∈ fr → 0 ≤ x ∧ x < n) : RInv S fr n (fun _ => False) fr :=
  ⟨hf, fun x hx => .inr hx, fun x h => h.elim, fun x h => h.elim (fun h => h.elim) fun h => .start x h⟩
def keptA (T : List Bool) (i : Nat) : List Int := (((List.range i).filter fun k => T.getD k false)).map Int.ofNat
theorem keptA_succ (T : List Bool) (i : Nat) : keptA T (i + 1) = keptA T i ++ (if T.getD i false then [(i : Int)] else []) := by
  unfold keptA
  rw [List.range_succ, List.filter_append, List.map_append]
  congr 1
  cases h : T.getD i false
  · rw [List.filter_cons_of_neg (by rw [h]; simp)]; rfl
  · rw [List.filter_cons_of_pos (by rw [h])]; rfl
theorem keptA_mem (T : List Bool) (i : Nat) (x : Int) : x ∈ keptA T i ↔ ∃ k : Nat, k < i ∧ T.getD k false = true ∧ x = k := by
  simp [keptA]
  constructor
  · rintro ⟨k, ⟨h1, h2⟩, rfl⟩; exact ⟨k, h1, h2, rfl⟩
  · rintro ⟨k, h1, h2, rfl⟩; exact ⟨k, ⟨h1, h2⟩, rfl⟩
theorem keptA_sorted (T : List Bool) : ∀ i, (keptA T i).Pairwise (· < ·)
  | 0 => by simp [keptA]
  | i + 1 => by
    rw [keptA_succ]
    rw [List.pairwise_append]
    refine ⟨keptA_sorted T i, by split <;> simp, fun a ha b hb => ?_⟩
    obtain ⟨k, h1, _, rfl⟩ := (keptA_mem T i a).1 ha
    split at hb
    · simp at hb; subst hb; omega
    · cases hb
theorem keptA_len (T : List Bool) : ∀ i, (keptA T i).length ≤ i
  | 0 => by simp [keptA]
  | i + 1 => by
    have := keptA_len T i
    rw [keptA_succ, List.length_append]
    split <;> simp <;> omega
def toA (T : List Bool) (n : Nat) : List Int := (List.range n).map fun k => if T.getD k false then ((keptA T k).length : Int) else 0
def toI (T : List Bool) (n i : Nat) : List Int := (List.range n).map fun k => if k < i ∧ T.getD k false = true then ((keptA T k).length : Int) else 0
theorem toI_zero (T : List Bool) (n : Nat) : toI T n 0 = List.replicate n 0 := by
  apply List.ext_getElem (by simp [toI])
  intro k h1 h2
  simp [toI]
theorem toI_len (T : List Bool) (n i : Nat) : (toI T n i).length = n := by simp [toI]
theorem toI_all (T : List Bool) (n : Nat) : toI T n n = toA T n := by
  apply List.ext_getElem (by simp [toI, toA])
  intro k h1 h2
  have hk : k < n := by simpa [toI] using h1
  simp [toI, toA, hk]
theorem toI_set (T : List Bool) (n i : Nat) (hi : i < n) (h : T.getD i false = true) : (toI T n i).set i ((keptA T i).length : Int) = toI T n (i + 1) := by
  apply List.ext_getElem (by simp [toI])
  intro k h1 h2
  rw [List.getElem_set]
  by_cases hk : i = k
  · subst hk
    have : i < i + 1 := by omega
    rw [if_pos rfl]
    simp only [toI, List.getElem_map, List.getElem_range]
    rw [if_pos ⟨this, h⟩]
  · rw [if_neg hk]
    simp only [toI, List.getElem_map, List.getElem_range]
    have : (k < i ∧ T.getD k false = true) ↔ (k < i + 1 ∧ T.getD k false = true) := by
      constructor
      · intro h; exact ⟨by omega, h.2⟩
      · intro h; exact ⟨by omega, h.2⟩
    simp only [this]
theorem toI_no (T : List Bool) (n i : Nat) (h : T.getD i false = false) : toI T n i = toI T n (i + 1) := by
  apply List.ext_getElem (by simp [toI])
  intro k h1 h2
  simp only [toI, List.getElem_map, List.getElem_range]
  have : (k < i ∧ T.getD k false = true) ↔ (k < i + 1 ∧ T.getD k false = true) := by
    constructor
    · intro h; exact ⟨by omega, h.2⟩
    · rintro ⟨h4, h5⟩
      refine ⟨?_, h5⟩
      rcases Nat.lt_or_ge k i with h3 | h3
      · exact h3
      · have : k = i := by omega
        subst this
        rw [h] at h5; cases h5
  simp only [this]
def toW (n : Nat) (l : List Int) (i : Nat) : List Int := (List.range n).map fun k : Nat => if (k : Int) ∈ l.take i then (((l.take i).idxOf (k : Int) : Nat) : Int) else 0
theorem toW_len (n : Nat) (l : List Int) (i : Nat) : (toW n l i).length = n := by simp [toW]
theorem toW_zero (n : Nat) (l : List Int) : toW n l 0 = List.replicate n 0 := by
  apply List.ext_getElem (by simp [toW])
  intro k h1 h2
  simp [toW]
theorem toW_set {n : Nat} {l : List Int} (hl : l.Pairwise (· < ·)) {i : Nat} (hi : i < l.length) (hx : 0 ≤ l[i]) : (toW n l i).set l[i].toNat (i : Int) = toW n l (i + 1) := by
  have hnot : l[i] ∉ l.take i := by
    intro hm
    obtain ⟨j, hj, e⟩ := List.mem_take_iff_getElem.1 hm
    have := (List.pairwise_iff_getElem.1 hl) j i (by omega) hi (by omega)
    omega
  have ht : l.take (i + 1) = l.take i ++ [l[i]] := by rw [List.take_succ_eq_append_getElem hi]
  apply List.ext_getElem (by simp [toW])
  intro k h1 h2
  rw [List.getElem_set]
  by_cases hk : l[i].toNat = k
  · rw [if_pos hk]
    have hk' : (k : Int) = l[i] := by omega
    simp only [toW, List.getElem_map, List.getElem_range]
    rw [hk', ht, if_pos (List.mem_append_right _ (List.mem_singleton.2 rfl)), List.idxOf_append, if_neg hnot]
    simp
    omega
  · rw [if_neg hk]
    have hk' : ¬ (k : Int) = l[i] := by omega
    simp only [toW, List.getElem_map, List.getElem_range]
    rw [ht]
    by_cases hm : (k : Int) ∈ l.take i
    · rw [if_pos hm, if_pos (List.mem_append_left _ hm), List.idxOf_append, if_pos hm]
    · rw [if_neg hm, if_neg (fun h => (List.mem_append.1 h).elim hm fun h => hk' (List.mem_singleton.1 h))]
theorem keptA_split (T : List Bool) (k : Nat) (h : T.getD k false = true) : ∀ n, k < n → ∃ r, keptA T n = keptA T k ++ (k : Int) :: r
  | 0, hn => by omega
  | n + 1, hn => by
    by_cases hk : k = n
    · subst hk
      exact ⟨[], by rw [keptA_succ, h]; rfl⟩
    · obtain ⟨r, hr⟩ := keptA_split T k h n (by omega)
      exact ⟨r ++ (if T.getD n false then [(n : Int)] else []), by rw [keptA_succ, hr]; simp⟩
theorem toW_all (T : List Bool) (n : Nat) (i : Nat) (hi : (keptA T n).length ≤ i) : toW n (keptA T n) i = toA T n := by
  apply List.ext_getElem (by simp [toW, toA])
  intro k h1 h2
  have hk : k < n := by simpa [toW] using h1
  simp only [toW, toA, List.getElem_map, List.getElem_range, List.take_of_length_le hi]
  cases h : T.getD k false with
  | true =>
    obtain ⟨r, hr⟩ := keptA_split T k h n hk
    have hn : (k : Int) ∉ keptA T k := by
      intro hm
      obtain ⟨j, h1, _, h3⟩ := (keptA_mem T k k).1 hm
      omega
    rw [hr, if_pos (by simp), List.idxOf_append, if_neg hn]
    simp
  | false =>
    rw [if_neg ?_]
    · simp
    · intro hm
      obtain ⟨j, h1, h2, h3⟩ := (keptA_mem T n k).1 hm
      have : k = j := by omega
      subst this
      rw [h] at h2; cases h2
end AE
end Go.Proofs.YtmfdpijmholedaaGreatDoor
/- Reached states by the program; evaluated. -/
set_option linter.unusedVariables false
set_option linter.unusedSimpArgs false
namespace Go.Proofs.YtmfdpijmholedaaGreatDoor
namespace AE
open Go
def quA (id : Nat) (d q : List Int) : A := .sl id (d.length + q.length) d.length q.length
def qRow (d q : List Int) : Row := ⟨3, ints (d ++ q)⟩
def sucS (f : Fun) (vs : List Val) (x : Int) : List Int := leavesV (vs.getD x.toNat zeroV) f
theorem sucS_bd {ex : Fun → List Val → List Int → Bool} {f : Fun} {vs : List Val} (hok : ∀ v ∈ vs, okV ex vs.length v f = true) : ∀ x : Int, 0 ≤ x → x < vs.length → ∀ y, y ∈ sucS f vs x → 0 ≤ y ∧ y < vs.length := fun x h0 h1 y hy => by
  have hx : x.toNat < vs.length := by omega
  unfold sucS at hy
  rw [List.getD_eq_getElem?_getD, List.getElem?_eq_getElem hx] at hy
  exact leaves_bd _ f (hok _ (List.getElem_mem hx)) y hy
theorem visitQ (io : Nat) (n : Int) (M : List (List A)) (R : List Row) (d : List Int) (X : List (List A)) (hio : io = M.length) :
    Vis 120 [.ptr io 0] n (fun q x => q ++ [x]) (fun q k => d.length + q.length + k ≤ 1000000000) (fun q => R ++ [qRow d q]) (fun q => M ++ [[quA R.length d q]] ++ X) where
  len s s' := by simp
  ev q x k h0 h1 hr L := by
    subst hio
    rw [evCall_body C0 (C0_ext _ (by decide)) (by rw [C0_P]; exact Tryz.func120) rfl (by rw [C0_ann]; rfl) (by rw [C0_ann]; rfl) (by decide) (by simp [Tryz.f120])]
    have h5 : (d.length + (q.length + 1)) * 8 ≤ 70368744177664 := by omega
    have h6 : d.length + (q.length + 1) ≤ 70368744177664 := by omega
    have h7 : (q.length + 1) * 8 ≤ 70368744177664 := by omega
    have h8 : q.length + 1 ≤ 70368744177664 := by omega
    have hk := leave_keep1 Tryz.prog ⟨M ++ ([quA R.length d q] :: X ++ L), R ++ [qRow d q]⟩ M.length [quA R.length d (q ++ [x])] [] (R ++ [qRow d (q ++ [x])]) (.ret (.tup [])) (by simp [quA]) (fun i hi => by
      simp only [List.length_append, List.length_cons, List.length_nil] at hi
      by_cases h1 : i < R.length
      · exact .inl (by rw [List.getElem?_append_left h1, List.getElem?_append_left h1])
      · have : i = R.length := by omega
        subst this
        exact .inr ⟨qRow d (q ++ [x]), by simp, by simp [qRow]⟩) (by simp [Res.val])
    have hA : ∀ (a : List A) r, (M ++ a :: r)[M.length]? = some a := fun a r => by simp
    have hB : ∀ (a b : List A) r, (M ++ a :: r).set M.length b = M ++ b :: r := fun a b r => by simp
    have e1 : ints (d ++ (q ++ [x])) = ints (d ++ q) ++ [.int .i64 x] := by rw [← List.append_assoc, ints_append]; rfl
    have e2 : d.length + (q ++ [x]).length = d.length + (q.length + 1) := by simp
    simp only [quA, qRow, hB, e1, e2] at hk
    simp only [quA, qRow, e1, e2]
    simp at hk
    simp [Tryz.f120, a120, reg120, hA, hB, h5, h6, h7, h8, Nat.add_assoc, hk]
  room q x k _ _ hr := by simp; omega
  less q k k' hr hk := by omega
  bxs s s' nb hnb i hi := by
    simp only [List.length_append, List.length_cons, List.length_nil] at hi hnb
    by_cases h1 : i < M.length
    · left
      rw [List.append_assoc, List.append_assoc, List.getElem?_append_left h1, List.getElem?_append_left h1]
    · by_cases h2 : i = M.length
      · subst h2
        right
        exact ⟨[quA R.length d s'], by simp, by simp [quA]⟩
      · left
        rw [List.getElem?_append_right (by simp; omega), List.getElem?_append_right (by simp; omega)]
        simp
  rws s s' nb hnb i hi := by
    simp only [List.length_append, List.length_cons, List.length_nil] at hi
    by_cases h1 : i < R.length
    · exact .inl (by rw [List.getElem?_append_left h1, List.getElem?_append_left h1])
    · have : i = R.length := by omega
      subst this
      exact .inr ⟨qRow d s', by simp, by simp [qRow]⟩
theorem fold_snoc : ∀ (l q : List Int), l.foldl (fun q x => q ++ [x]) q = q ++ l
  | [], q => by simp
  | x :: r, q => by rw [List.foldl_cons, fold_snoc r]; simp
theorem q_at (d : List Int) (x : Int) (q : List Int) : ((ints (d ++ x :: q)).drop d.length).take 1 = [.int .i64 x] := by
  have h : d.length < (d ++ x :: q).length := by simp
  have := ints_at h
  rw [this]
  simp
def unv (V : List Bool) : Nat := (V.filter (!·)).length
theorem unv_set : ∀ {V : List Bool} {k : Nat} (h : k < V.length), V[k] = false → unv (V.set k true) + 1 = unv V
  | b :: r, 0, _, hb => by simp at hb; subst hb; simp [unv]
  | b :: r, k + 1, h, hb => by
    have := unv_set (V := r) (k := k) (by simpa using h) (by simpa using hb)
    unfold unv at this ⊢
    rw [List.set_cons_succ, List.filter_cons, List.filter_cons]
    split
    · simp at *; omega
    · exact this
theorem rch_nil (S : Int → List Int) (n : Nat) : rchL S [] n = List.replicate n false := by
  apply List.ext_getElem (by simp [rchL])
  intro k h1 h2
  have hno : ¬ Rch S [] (k : Int) := by
    intro h
    have : ∀ x, Rch S [] x → False := fun x hx => by
      induction hx with
      | start x hx => cases hx
      | step x y _ _ ih => exact ih
    exact this _ h
  simp [rchL, hno]
set_option maxHeartbeats 8000000 in
theorem ev_Reached (ex : Fun → List Val → List Int → Bool) (f : Fun) (vs : List Val) (fr : List Int) (fl : Bool) (hsh : shapedF f = true) (hok : ∀ v ∈ vs, okV ex vs.length v f = true) (hb : Val.nodesL vs ≤ 100000) (hn : vs.length ≤ 1000) (hl : fr.length ≤ 1000000) (hfr : ∀ x, x ∈ fr → 0 ≤ x ∧ x < vs.length) (m : Mem) :
    evCall C0 75 [.agg (sysX f (.isl false vs.length (Val.cellsL vs))), .isl fl fr.length (ints fr)] m = some (.ret (.isl false vs.length (boolsL (rchL (sucS f vs) fr vs.length))), m) := by
  rw [evCall_body C0 (C0_ext _ (by decide)) (by rw [C0_P]; exact Tryz.func75) rfl (by rw [C0_ann]; rfl) (by rw [C0_ann]; rfl) (by decide) (by simp [Tryz.f75])]
  have hlen := Val.length_nodesL vs
  have n1 : (vs.length : Int) * 1 ≤ 70368744177664 := by omega
  have n2 : (vs.length : Int) ≤ 70368744177664 := by omega
  by_cases h0 : fr = []
  · subst h0
    have hcl : ∀ m, evCall C0 118 [.isl fl 0 []] m = some (.ret (.isl false 0 []), m) := fun m => by rw [ev_CloneI]; simp [cloneG]
    rw [rch_nil]
    simp [Tryz.f75, a75, reg75, loop75, draw75, dok75, hcl, n1, n2, boolsL_none]
    rw [evCode_loop]
    simp [round, Tryz.f75, a75, reg75, loop75, draw75, dok75, boolsL_rep]
    try (rw [List.take_of_length_le (by simp)])
  have hw1 : 0 < fr.length := List.length_pos_iff.2 h0
  have hcl : ∀ m, evCall C0 118 [.isl fl fr.length (ints fr)] m = some (.ret (.sl m.rw.length fr.length 0 fr.length), ⟨m.bx, m.rw ++ [⟨3, ints fr⟩]⟩) := fun m => by
    rw [ev_CloneI]
    simp only [cloneG]
    rw [if_neg (by omega), if_pos hw1]
    unfold cloneRow
    rw [unInts_ints]
    dsimp only
    rw [if_pos ⟨rfl, by omega⟩]
  have hS := sucS_bd (f := f) hok
  simp [Tryz.f75, a75, reg75, loop75, draw75, dok75, hcl, n1, n2, boolsL_none]
  refine loop_in (fun x : List Bool × List Int × List Int => ⟨[(2, .ptr m.bx.length 0), (5, .sl m.rw.length vs.length 0 vs.length), (6, .ptr (m.bx.length + 1) 0)], ⟨m.bx ++ [sysX f (.isl false vs.length (Val.cellsL vs)), [quA (m.rw.length + 1) x.2.1 x.2.2]], m.rw ++ [⟨4, boolsL x.1⟩, qRow x.2.1 x.2.2]⟩⟩)
    (fun _ => some (.ret (.isl false vs.length (boolsL (rchL (sucS f vs) fr vs.length))), m)) (fun x => unv x.1 * 100001 + x.2.2.length)
    (fun x => x.1.length = vs.length ∧ x.2.1.length + x.2.2.length + unv x.1 * 100000 ≤ 1000000000 ∧ RInv (sucS f vs) fr vs.length (fun y => ∃ k : Nat, y = k ∧ x.1.getD k false = true) x.2.2) (List.replicate vs.length false, [], fr) ?_ ?_ ?_ ?_ ?_
  · simp [quA, qRow, boolsL_rep]
  · rfl
  · refine ⟨by simp, by simp [unv]; omega, ?_⟩
    have h := RInv.begin (S := sucS f vs) (n := vs.length) hfr
    have hr0 : ∀ k, (List.replicate vs.length false).getD k false = false := fun k => by rw [List.getD_eq_getElem?_getD, List.getElem?_replicate]; split <;> rfl
    refine ⟨h.q, fun x hx => .inr hx, fun x hx => ?_, fun x hx => ?_⟩
    · obtain ⟨k, _, hk⟩ := hx
      rw [hr0] at hk; cases hk
    · rcases hx with ⟨k, _, hk⟩ | hx
      · rw [hr0] at hk; cases hk
      · exact .start x hx
  · intro x; simp [Tryz.f75, a75, reg75, loop75, draw75, dok75]
  · rintro ⟨V, d, q⟩ ⟨hV, hroom, hI⟩ hrec
    simp only at hV hroom hI
    cases q with
    | nil =>
      clear hrec
      have hT : V = rchL (sucS f vs) fr vs.length := by
        refine bools_eq (by rw [hV, rchL_length]) fun i h1 h2 => ?_
        rw [rchL_at _ _ _ i (by omega), ← hI.done]
        constructor
        · intro h; exact ⟨i, rfl, by rw [List.getD_eq_getElem?_getD, List.getElem?_eq_getElem h1]; exact h⟩
        · rintro ⟨k, hk, h⟩
          have : k = i := by omega
          subst this
          rw [List.getD_eq_getElem?_getD, List.getElem?_eq_getElem h1] at h
          exact h
      rw [← hT]
      simp [round, Tryz.f75, a75, reg75, loop75, draw75, dok75, quA, qRow, hV]
      rw [List.take_of_length_le (by simp [hV])]
    | cons x q =>
      have hx := hI.q x List.mem_cons_self
      obtain ⟨k, rfl⟩ : ∃ k : Nat, x = k := ⟨x.toNat, by omega⟩
      have hk : k < vs.length := by omega
      have hkV : k < V.length := by omega
      have hat := q_at d k q
      have hbt := boolsL_at hkV
      have hp1 : (0 : Int) < q.length + 1 := by omega
      have hp2 : (1 : Int) ≤ q.length + 1 := by omega
      cases hvk : V[k] with
      | true =>
        have hI' := hI.skip (x := k) (q' := q) ⟨k, rfl, by rw [List.getD_eq_getElem?_getD, List.getElem?_eq_getElem hkV]; exact hvk⟩ (fun y => by simp)
        simp [round, Tryz.f75, a75, reg75, loop75, draw75, dok75, quA, qRow, hat, hbt, hvk, hk, hp1, hp2, hV, show k + 1 ≤ vs.length by omega, endRound_R]
        refine hrec (V, d ++ [(k : Int)], q) _ _ ?_ ?_ ?_ ?_
        · simp
        · exact ⟨hV, by simp at hroom ⊢; omega, hI'⟩
        · simp [quA, qRow]
          omega
        · rfl
      | false =>
        have hI' := hI.visit (x := k) (q' := q) (q2 := q ++ sucS f vs k) (V' := fun y => ∃ j : Nat, y = j ∧ (V.set k true).getD j false = true) hS (fun y => by
          constructor
          · rintro ⟨j, rfl, hj⟩
            by_cases hjk : j = k
            · subst hjk; exact .inr rfl
            · left
              refine ⟨j, rfl, ?_⟩
              rw [List.getD_eq_getElem?_getD] at hj ⊢
              rwa [List.getElem?_set_ne (by omega)] at hj
          · rintro (⟨j, rfl, hj⟩ | rfl)
            · refine ⟨j, rfl, ?_⟩
              rw [List.getD_eq_getElem?_getD] at hj ⊢
              by_cases hjk : k = j
              · subst hjk; simp [hkV]
              · rwa [List.getElem?_set_ne hjk]
            · exact ⟨k, rfl, by simp [hkV]⟩) (fun y => by simp) (fun y => by simp)
        have hset := boolsL_set hkV true
        have hun := unv_set hkV hvk
        have hlv := leaves_len vs[k] f
        have hnd := Val.nodes_mem (List.getElem_mem hk)
        have hsu : sucS f vs k = leavesV vs[k] f := by unfold sucS; rw [List.getD_eq_getElem?_getD]; simp [hk]
        have h3 : (k + 1) * 3 ≤ vs.length * 3 := by omega
        have hlv2 := fun (M : List (List A)) (X : List (List A)) (R : List Row) => ev_LeavesG ex vs[k] (by omega) f hsh (hok _ (List.getElem_mem hk)) (visitQ M.length vs.length M R (d ++ [(k : Int)]) X rfl) q (by simp at hroom ⊢; omega) (fun s => by simp)
        rw [fold_snoc] at hlv2
        have hlv3 := hlv2 (m.bx ++ [sysX f (.isl false vs.length (Val.cellsL vs))]) [] (m.rw ++ [⟨4, boolsL (V.set k true)⟩])
        simp [quA, qRow, sysX, ← hsu] at hlv3
        rw [show d.length + 1 + q.length = d.length + (q.length + 1) by omega] at hlv3
        simp [round, Tryz.f75, a75, reg75, loop75, draw75, dok75, quA, qRow, hat, hbt, hvk, hk, hp1, hp2, hV, show k + 1 ≤ vs.length by omega, h3, hset, setCells, hlv3, endRound_R]
        refine hrec (V.set k true, d ++ [(k : Int)], q ++ sucS f vs k) _ _ ?_ ?_ ?_ ?_
        · simp; rw [hsu]; omega
        · refine ⟨by simp [hV], ?_, hI'⟩
          simp at hroom ⊢
          rw [hsu]
          omega
        · simp [quA, qRow]
          try omega
        · rfl
def RMapAtR (rid : Nat) (to : List Int) (n : Int) (v : Val) : Prop :=
  ∀ f, shapedF f = true → okV exL n v f = true → ∀ m : Mem, m.rw[rid]? = some ⟨3, ints to⟩ → evCall C0 42 [.agg f.cells, .agg v.cells, .sl rid to.length 0 to.length] m = some (.ret (.agg (mapV (toV to) v f).cells), m)
set_option maxHeartbeats 8000000 in
theorem ev_RMap1R (rid : Nat) (to : List Int) (n : Int) (hto : n ≤ to.length) (v : Val) (hb : v.nodes ≤ 1000000) (hs : slimV v) (H : ∀ u, u ∈ v.args → RMapAtR rid to n u) : RMapAtR rid to n v := by
  intro f hf hok m hR
  have hrl : rid < m.rw.length := (List.getElem?_eq_some_iff.1 hR).1
  have hRg : m.rw[rid] = ⟨3, ints to⟩ := (List.getElem?_eq_some_iff.1 hR).2
  have hRa : ∀ R, (m.rw ++ R)[rid]? = some ⟨3, ints to⟩ := fun R => by rw [List.getElem?_append_left hrl]; exact hR
  have hrl2 : ∀ k, rid < m.rw.length + k := fun k => by omega
  have hs' := hs
  rw [slimV_eq] at hs'
  rw [okV_eq, Bool.and_eq_true, Bool.and_eq_true] at hok
  obtain ⟨⟨hh, _⟩, hokl⟩ := hok
  have hlen := v.length_args
  have hvn := v.nodes_eq
  have hnum := head_num hh
  have hpb : partsB f v = true := by
    rw [head_split hf, Bool.and_eq_true, Bool.and_eq_true] at hh
    exact hh.1.1
  have hp := ev_Parts f v hf (by omega)
  obtain ⟨hPl, hPa⟩ := parts_at hf hpb
  have hst := ev_Sets f.kind
  simp [hpb] at hp
  generalize partsL f v = P at hp hPl hPa
  by_cases hk0 : f.kind = 0
  · have hh' := hh
    unfold headL at hh'
    simp [hk0] at hh'
    obtain ⟨x, hx⟩ : ∃ x : Nat, v.num = x := ⟨v.num.toNat, by omega⟩
    have hxl : x < to.length := by omega
    have hat := ints_at hxl
    rw [mapV_eq, if_pos hk0, hx]
    rw [evCall_body C0 (C0_ext _ (by decide)) (by rw [C0_P]; exact Tryz.func42) rfl (by rw [C0_ann]; rfl) (by rw [C0_ann]; rfl) (by decide) (by simp [Tryz.f42])]
    simp [Tryz.f42, a42, reg42, loop42, draw42, dok42, hk0, hx, hxl, hrl, hRg, show x + 1 ≤ to.length by omega, hat, toV, idV]
  have hmn := mapL_nodes (toV_sm to) v.args (argF f v.num) 0 hs'.2 (by omega)
  have hml := mapL_length (toV to) v.args (argF f v.num) 0
  have hmv : mapV (toV to) v f = if setsK f.kind = true then mergeV f.kind v.num (mapL (toV to) v.args (argF f v.num) 0) v.ws else .mk v.num (mapL (toV to) v.args (argF f v.num) 0) v.ws := by
    rw [mapV_eq, if_neg hk0]
    have hk := shaped_kind hf
    by_cases h1 : f.kind = 1
    · have ha : v.args = [] := List.eq_nil_of_length_eq_zero (hnum.2.2 (.inr h1))
      rw [if_pos h1, ha, mapL, hnum.2.1 (by rw [h1]; rfl)]
      simp [h1, setsK, wtd]
    rw [if_neg h1]
    by_cases h2 : f.kind = 2
    · rw [hnum.1 hk0 h1 (by omega), hnum.2.1 (by rw [h2]; rfl)]
      simp [h2, setsK, wtd]
    by_cases h3 : f.kind = 3
    · rw [hnum.2.1 (by rw [h3]; rfl)]
      simp [h3, setsK, wtd]
    by_cases h4 : f.kind = 4
    · rw [hnum.1 hk0 h1 h3, hnum.2.1 (by rw [h4]; rfl)]
      simp [h4, setsK, wtd]
    rw [if_neg h2, if_neg h3, if_neg h4, if_pos, hnum.1 hk0 h1 h3]
    unfold setsK wtd
    simp only [Bool.or_eq_true, decide_eq_true_eq]
    omega
  rw [hmv]
  have hwz : v.ws.length * 8 ≤ 70368744177664 := by omega
  have hwy : v.ws.length ≤ 70368744177664 := by omega
  rw [evCall_body C0 (C0_ext _ (by decide)) (by rw [C0_P]; exact Tryz.func42) rfl (by rw [C0_ann]; rfl) (by rw [C0_ann]; rfl) (by decide) (by simp [Tryz.f42])]
  by_cases hw0 : v.ws.length = 0
  case' pos =>
    simp [hw0] at hp
    simp [Tryz.f42, a42, reg42, loop42, draw42, dok42, hk0, hp, hw0]
  case' neg => simp [Tryz.f42, a42, reg42, loop42, draw42, dok42, hk0, hp, hw0, show ¬ v.ws = [] from fun h => hw0 (by rw [h]; rfl), hwz, hwy, flat_mem_ints]
  all_goals
    refine loop_in (fun x : Nat × List Val => ⟨[(2, .sl rid to.length 0 to.length), (3, .ptr m.bx.length 0), (6, .ptr (m.bx.length + 2) 0), (7, .isl false P.length (Fun.cellsL P)), (9, .ptr (m.bx.length + 3) 0), (34, .isl false v.args.length (Val.cellsL v.args)), (35, .int .i64 v.args.length), (36, .int .i64 x.1)],
        ⟨m.bx ++ [f.cells, v.cells, [.int .i64 0, .nils, .nils], [.int .i64 v.num, xA (m.rw.length + (wR v.ws).length) x.2, wA m.rw.length v.ws]], m.rw ++ (wR v.ws ++ xR x.2)⟩⟩)
      (fun x => some (.ret (.agg (if setsK f.kind = true then mergeV f.kind v.num (mapL (toV to) v.args (argF f v.num) 0) v.ws else .mk v.num (mapL (toV to) v.args (argF f v.num) 0) v.ws).cells), m)) (fun x => v.args.length - x.1)
      (fun x => x.1 ≤ v.args.length ∧ x.2.length = x.1 ∧ mapL (toV to) v.args (argF f v.num) 0 = x.2 ++ mapL (toV to) (v.args.drop x.1) (argF f v.num) x.1) (0, []) ?_ ?_ ?_ ?_ ?_
    · simp [xA, wA, wR, xR, hw0]
    · simp
    · simp
    · intro x; simp [Tryz.f42, a42, reg42, loop42, draw42, dok42]
    · rintro ⟨i, xs⟩ ⟨hi, hxl, hnl⟩ hrec
      simp only at hi hxl hnl ⊢
      have hcl := wxR_closed v.ws xs
      have hwc := wA_closed m.rw.length v.ws xs
      by_cases hlt : i < v.args.length
      · have w2 : IntKind.i64.wrap (i + 1) = i + 1 := wrap_id _ (by omega)
        have h3 : (i + 1) * 3 ≤ v.args.length * 3 := by omega
        have hiP : i < P.length := by omega
        have hgi := hPa i hiP
        have hk01 : ¬ f.kind = 0 ∧ ¬ f.kind = 1 := by
          refine ⟨fun h => ?_, fun h => ?_⟩
          · have := hnum.2.2 (.inl h); omega
          · have := hnum.2.2 (.inr h); omega
        have hgs := argF_shaped hf hk01.1 hk01.2 hh i hlt
        have o0 := okL_mem hokl i hlt
        rw [Nat.zero_add] at hgs o0
        have he := fun bx R => H v.args[i] (List.getElem_mem hlt) (argF f v.num i) hgs o0 ⟨bx, m.rw ++ R⟩ (hRa R)
        have hin := mapL_snoc hlt hnl
        have hwc2 : ∀ nb x, closed nb (m.rw.length + ((wR v.ws).length + x)) (wA m.rw.length v.ws) = true := fun nb x => wA_closed2 _ _ _ _
        have hwR := wR_closed v.ws
        simp at he
        cases xs with
        | nil =>
          have hi0 : i = 0 := by simpa using hxl.symm
          subst hi0
          have b3 := Val.at_cellsL v.args 0 hlt
          have b1 := Fun.at_cellsL P 0 hiP
          rw [hgi] at b1
          simp at b1 b3
          simp [round, Tryz.f42, a42, reg42, loop42, draw42, dok42, hlt, w2, h3, hiP, show 3 ≤ P.length * 3 by omega, show 3 ≤ v.args.length * 3 by omega, hgi, b1, b3, he, xA, xR, app_at, app_set, endRound_J, hwR, hwc2, hrl2, hrl]
          refine hrec (1, [mapV (toV to) v.args[0] (argF f v.num 0)]) _ _ ?_ ?_ ?_ ?_
          · simp; omega
          · exact ⟨by simp only; omega, rfl, by rw [hin]; rfl⟩
          · simp [xA, xR, Val.cellsL]
          · simp
        | cons a r =>
          have hr : r.length + 1 = i := by simpa using hxl
          simp [round, Tryz.f42, a42, reg42, loop42, draw42, dok42, hlt, w2, h3, hiP, show (i + 1) * 3 ≤ P.length * 3 by omega, hgi, he, xA, xR, app_at, app_set, endRound_J, hwR, hwc2, hrl2, hrl, show (r.length + 1 + 1) * 56 ≤ 70368744177664 by omega, show r.length + 1 + 1 ≤ 70368744177664 by omega]
          refine hrec (i + 1, a :: r ++ [mapV (toV to) v.args[i] (argF f v.num i)]) _ _ ?_ ?_ ?_ ?_
          · simp; omega
          · exact ⟨by simp only; omega, by simp; omega, by rw [hin]⟩
          · simp [xA, xR, Val.cellsL, Val.cellsL_append]
          · simp
      · clear hrec
        have hie : i = v.args.length := by omega
        subst hie
        rw [List.drop_eq_nil_of_le (Nat.le_refl _), mapL, List.append_nil] at hnl
        rw [hnl] at hmn hml ⊢
        cases hset : setsK f.kind
        · have hwt : wtd f.kind = false := by
            cases h : wtd f.kind
            · rfl
            · unfold setsK at hset
              rw [h, Bool.or_true] at hset
              cases hset
          have hwe := hnum.2.1 hwt
          rw [hset] at hst
          by_cases hx0 : xs.length = 0
          · have hx1 : v.args.length = 0 := by omega
            have hxe : xs = [] := List.eq_nil_of_length_eq_zero hx0
            subst hxe
            simp [round, Tryz.f42, a42, reg42, loop42, draw42, dok42, hst, xA, wA, xR, wR, hwe, hx1]
          · have hx1 : ¬ v.args.length = 0 := by omega
            have hall : List.take (xs.length * 3) (Val.cellsL xs) = Val.cellsL xs := List.take_of_length_le (by simp)
            simp [round, Tryz.f42, a42, reg42, loop42, draw42, dok42, hst, xA, wA, xR, wR, hwe, hx0, hx1, hxl, hall]
            try (rw [← hxl]; exact hall)
        · rw [hset] at hst
          have hss := (head_sets hset).1 hh
          have hwk3 : wtd f.kind = true → v.ws.length = xs.length ∧ (∀ w, w ∈ v.ws → 1 ≤ w) ∧ v.ws.sum ≤ 1048576 := fun h => by
            rw [if_pos h] at hss
            have h2 := (weighI_iff v.ws 0 (by omega)).1 hss.2.1
            exact ⟨by omega, h2.1, by omega⟩
          have hk7 : f.kind = 7 → 0 < xs.length := fun h => by
            have hw7 : wtd f.kind = true := by rw [h]; rfl
            rw [if_pos hw7] at hss
            have := hss.2.2.2
            omega
          by_cases hx0 : xs.length = 0
          · have hx1 : v.args.length = 0 := by omega
            have hxe : xs = [] := List.eq_nil_of_length_eq_zero hx0
            subst hxe
            have hwe : v.ws = [] := by
              cases h : wtd f.kind
              · exact hnum.2.1 h
              · exact List.eq_nil_of_length_eq_zero (by rw [(hwk3 h).1]; rfl)
            have hk56 : f.kind = 5 ∨ f.kind = 6 := by
              rcases setsK_kind hset with h | h | h
              · exact .inl h
              · exact .inr h
              · have := hk7 h; simp at this
            have he0 := ev_Merged0 f.kind v.num hk56
            simp at he0
            have hmv : mergeV f.kind v.num [] v.ws = .mk v.num [] [] := by
              unfold mergeV mergeP
              rw [hwe]
              rcases hk56 with h | h <;> rw [h] <;> rfl
            simp [hmv]
            simp [round, Tryz.f42, a42, reg42, loop42, draw42, dok42, hst, xA, wA, xR, wR, hwe, hx1, he0]
          · have hx1 : 0 < xs.length := by omega
            have hmw : mwA f.kind m.rw.length (.mk v.num xs v.ws) = wA m.rw.length v.ws := by
              unfold mwA wA
              cases h : wtd f.kind
              · rw [hnum.2.1 h]; simp
              · have := (hwk3 h).1
                rw [if_neg (by simp), if_neg (by omega)]
                rfl
            have he := ev_MergedR f.kind (.mk v.num xs v.ws) (m.rw.length + (wR v.ws).length) m.rw.length hset (by rw [Val.nodes_eq, Val.args_mk]; omega) (by rw [slimV_eq]; exact ⟨hs'.1, hmn.2⟩) hwk3 hk7
              ⟨m.bx ++ [f.cells, v.cells, [.int .i64 0, .nils, .nils], [.int .i64 v.num, xA (m.rw.length + (wR v.ws).length) xs, wA m.rw.length v.ws]], m.rw ++ (wR v.ws ++ xR xs)⟩
              (by simp [app_at, xR, show ¬ xs = [] from fun h => hx0 (by rw [h]; rfl)])
              (fun h => by
                have h1 : ¬ v.ws.length = 0 := by rw [(hwk3 h).1]; omega
                have := app_at m.rw (wR v.ws ++ xR xs) 0
                rw [Nat.add_zero] at this
                simp only [this]
                unfold wR
                rw [if_neg h1]
                rfl)
            rw [hmw] at he
            have hxx : xA (m.rw.length + (wR v.ws).length) xs = .sl (m.rw.length + (wR v.ws).length) (xs.length * 3) 0 xs.length := by unfold xA; rw [if_neg hx0]
            simp [hxx, hxl] at he
            simp [round, Tryz.f42, a42, reg42, loop42, draw42, dok42, hst, hxx, he, hxl]
theorem ev_RMapR (rid : Nat) (to : List Int) (n : Int) (hto : n ≤ to.length) (N : Nat) : ∀ (v : Val), v.nodes ≤ N → v.nodes ≤ 1000000 → slimV v → RMapAtR rid to n v := by
  induction N with
  | zero => intro v hN; have := v.nodes_pos; omega
  | succ N ih =>
  intro v hN hb hs
  have hs' := (slimV_eq v ▸ hs).2
  exact ev_RMap1R rid to n hto v hb hs fun u hu => ih u (by have := Val.nodes_arg hu; omega) (by have := Val.nodes_arg hu; omega) (slimL_mem hs' hu)
theorem along_okR (rid : Nat) (to : List Int) (n : Int) (hto : n ≤ to.length) (id : Nat) : MapOk (toV to) 85 [.ptr id 0] n (fun m => m.bx[id]? = some [.sl rid to.length 0 to.length] ∧ m.rw[rid]? = some ⟨3, ints to⟩) where
  ev x h0 h1 m hm := by
    have hid : id < m.bx.length := (List.getElem?_eq_some_iff.1 hm.1).1
    have hg := (List.getElem?_eq_some_iff.1 hm.1).2
    have hrl : rid < m.rw.length := (List.getElem?_eq_some_iff.1 hm.2).1
    have hRg : m.rw[rid] = ⟨3, ints to⟩ := (List.getElem?_eq_some_iff.1 hm.2).2
    obtain ⟨k, rfl⟩ : ∃ k : Nat, x = k := ⟨x.toNat, by omega⟩
    have hxl : k < to.length := by omega
    have hat := ints_at hxl
    rw [evCall_body C0 (C0_ext _ (by decide)) (by rw [C0_P]; exact Tryz.func85) rfl (by rw [C0_ann]; rfl) (by rw [C0_ann]; rfl) (by decide) (by simp [Tryz.f85])]
    simp [Tryz.f85, a85, reg85, at_lt, hid, hg, hrl, hRg, hxl, show k + 1 ≤ to.length by omega, hat, toV, idV]
  up m b r h := by
    have hid : id < m.bx.length := (List.getElem?_eq_some_iff.1 h.1).1
    have hrl : rid < m.rw.length := (List.getElem?_eq_some_iff.1 h.2).1
    simp only
    rw [List.getElem?_append_left hid, List.getElem?_append_left hrl]
    exact h
  cl m h := by
    have hid : id < m.bx.length := (List.getElem?_eq_some_iff.1 h.1).1
    simp [hid]
  sm := toV_sm to
theorem ev_AlongR (rid : Nat) (to : List Int) (n : Int) (hto : n ≤ to.length) (f : Fun) (v : Val) (hf : shapedF f = true) (hok : okV exL n v f = true) (hb : v.nodes ≤ 1000000) (hs : slimV v) (m : Mem) (hR : m.rw[rid]? = some ⟨3, ints to⟩) :
    evCall C0 39 [.agg f.cells, .agg v.cells, .sl rid to.length 0 to.length] m = some (.ret (.agg (mapV (toV to) v f).cells), m) := by
  rw [evCall_body C0 (C0_ext _ (by decide)) (by rw [C0_P]; exact Tryz.func39) rfl (by rw [C0_ann]; rfl) (by rw [C0_ann]; rfl) (by decide) (by simp [Tryz.f39])]
  have he := ev_Mapped (along_okR rid to n hto (m.bx.length + 2)) v.nodes v (Nat.le_refl _) hb hs f hf hok ⟨m.bx ++ [f.cells, v.cells, [.sl rid to.length 0 to.length], [.int .i64 0, .nils, .nils]], m.rw⟩ ⟨by simp, hR⟩
  simp at he
  simp [Tryz.f39, a39, reg39, he]
def plc (to : List Int) (k : Int) : Int := idxA (fun x => decide (x = k)) to 0
def qL (f : Fun) (vs : List Val) (to : List Int) (n : Nat) : List Val := (List.range n).map fun k : Nat => mapV (toV to) (vs.getD (plc to k).toNat zeroV) f
theorem qL_length (f : Fun) (vs : List Val) (to : List Int) (n : Nat) : (qL f vs to n).length = n := by simp [qL]
theorem okS_spec {f : Fun} {vs : List Val} (h : okS f vs = true) : shapedF f = true ∧ vs.length ≤ 100 ∧ ∀ v ∈ vs, okV exL vs.length v f = true := by
  unfold okS at h
  simp only [Bool.and_eq_true, decide_eq_true_eq] at h
  obtain ⟨⟨⟨h1, h2⟩, h3⟩, _⟩ := h
  refine ⟨okF_shapedS h1, h2, fun v hv => ?_⟩
  have := List.all_eq_true.1 h3 v hv
  exact ok_loose _ v f (((chkV_spec exS vs.length v f 2000 (by omega)).1).1 this).2
theorem any_bound {l : List Int} {n : Nat} (h : (l.any fun y => decide (y < 0) || decide ((n : Int) ≤ y)) = false) : ∀ y, y ∈ l → 0 ≤ y ∧ y < n := fun y hy => by
  rw [List.any_eq_false] at h
  have := h y hy
  simp only [Bool.or_eq_true, decide_eq_true_eq] at this
  omega
set_option maxHeartbeats 1000000 in
theorem ev_SRSt (f : Fun) (ws : List Val) (l : List Int) (fl : Bool) (hl : l.length ≤ 1000000000) (m : Mem) : evCall C0 28 [.agg (sysX f (.isl false ws.length (Val.cellsL ws))), .isl fl l.length (ints l)] m = some (.ret (.bool (!(l.any fun y => decide (y < 0) || decide ((ws.length : Int) ≤ y)))), m) := by
  rw [evCall_body C0 (C0_ext _ (by decide)) (by rw [C0_P]; exact Tryz.func28) rfl (by rw [C0_ann]; rfl) (by rw [C0_ann]; rfl) (by decide) (by simp [Tryz.f28])]
  simp [Tryz.f28, a28, reg28, loop28]
  refine loop_in (fun i : Nat => ⟨[(2, .ptr m.bx.length 0), (7, .isl fl l.length (ints l)), (8, .int .i64 l.length), (9, .int .i64 i)], ⟨m.bx ++ [sysX f (.isl false ws.length (Val.cellsL ws))], m.rw⟩⟩)
    (fun i => some (.ret (.bool (!((l.drop i).any fun y => decide (y < 0) || decide ((ws.length : Int) ≤ y)))), m)) (fun i => l.length - i) (fun i => i ≤ l.length) 0 ?_ ?_ ?_ ?_ ?_
  · simp
  · simp
  · simp
  · intro x; simp [Tryz.f28, a28, reg28, loop28]
  · intro i hi hrec
    by_cases hlt : i < l.length
    · have w2 : IntKind.i64.wrap (i + 1) = i + 1 := wrap_id _ (by omega)
      have h3 : i + 1 ≤ l.length := by omega
      have hat := ints_at hlt
      rw [List.drop_eq_getElem_cons hlt, List.any_cons]
      by_cases h1 : l[i] < 0
      · simp [round, Tryz.f28, a28, reg28, loop28, hlt, w2, h3, hat, h1]
      · by_cases h2 : (ws.length : Int) ≤ l[i]
        · simp [round, Tryz.f28, a28, reg28, loop28, hlt, w2, h3, hat, h1, h2]
        · simp [round, Tryz.f28, a28, reg28, loop28, hlt, w2, h3, hat, h1, h2, endRound_M0]
          refine hrec (i + 1) _ _ ?_ ?_ ?_ ?_
          · omega
          · omega
          · simp
          · simp [h1, h2]
    · clear hrec
      rw [List.drop_eq_nil_of_le (by omega)]
      simp [round, Tryz.f28, a28, reg28, loop28, hlt]
def oc : Option Val → List A
  | none => [.int .i64 0, .nils, .nils]
  | some v => v.cells
def oe : Option Val → List A
  | none => [.int .i64 0, .isl false 0 [], .isl false 0 []]
  | some v => v.cells
def ocL (o : List (Option Val)) : List A := o.flatMap oc
def oeL (o : List (Option Val)) : List A := o.flatMap oe
theorem oc_length : ∀ x, (oc x).length = 3
  | none => rfl
  | some v => by rw [oc]; simp
@[simp] theorem ocL_length : ∀ o : List (Option Val), (ocL o).length = o.length * 3
  | [] => rfl
  | x :: r => by rw [show ocL (x :: r) = oc x ++ ocL r from rfl, List.length_append, oc_length, ocL_length r, List.length_cons]; omega
@[simp] theorem oeL_length : ∀ o : List (Option Val), (oeL o).length = o.length * 3
  | [] => rfl
  | none :: r => by rw [show oeL (none :: r) = oe none ++ oeL r from rfl, List.length_append, oeL_length r, List.length_cons]; simp [oe]; omega
  | some v :: r => by rw [show oeL (some v :: r) = oe (some v) ++ oeL r from rfl, List.length_append, oeL_length r, List.length_cons]; simp [oe]; omega
theorem oc_er (nb nr : Nat) (g) : ∀ x, (oc x).map (er1 nb nr g) = oe x
  | none => by simp [oc, oe]
  | some v => by rw [oc, oe, Val.er_cells]
@[simp] theorem ocL_er (nb nr : Nat) (g) : ∀ o : List (Option Val), (ocL o).map (er1 nb nr g) = oeL o
  | [] => rfl
  | x :: r => by rw [show ocL (x :: r) = oc x ++ ocL r from rfl, List.map_append, oc_er, ocL_er nb nr g r]; rfl
@[simp] theorem ocL_closed (nb nr : Nat) : ∀ o : List (Option Val), (ocL o).all (closed nb nr) = true
  | [] => rfl
  | none :: r => by rw [show ocL (none :: r) = oc none ++ ocL r from rfl, List.all_append, ocL_closed nb nr r]; simp [oc]
  | some v :: r => by rw [show ocL (some v :: r) = oc (some v) ++ ocL r from rfl, List.all_append, ocL_closed nb nr r, oc, Val.closed_cells]; rfl
def zeroS : List A := [.int .i64 0, .int .i64 0, .isl false 0 [], .isl false 0 []]
def sysO (f : Fun) : Option (List Val) → List A
  | some ws => sysX f (.isl false ws.length (Val.cellsL ws))
  | none => zeroS
attribute [simp] qL_length
end AE
end Go.Proofs.YtmfdpijmholedaaGreatDoor
