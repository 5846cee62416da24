/- Sums of systems by the program; evaluated. -/
import Derived.Test.YtmfdpijmholedaaGreatDoorGI
import Derived.Test.YtmfdpijmholedaaGreatDoorGH
import Derived.Test.YtmfdpijmholedaaGreatDoorGF
import Derived.Lay
import Derived.Stop.Joined
import Derived.Carry
import Derived.Test.YtmfdpijmholedaaGreatDoorCards
import Derived.Test.YtmfdpijmholedaaGreatDoorTie
import Derived.SevenTiedAt
set_option linter.unusedVariables false
set_option linter.unusedSimpArgs false
namespace Go.Proofs.YtmfdpijmholedaaGreatDoor
namespace AE
open Go
def shV (n x : Int) : Val := idV (x + n)
theorem shV_sm (n x : Int) : (shV n x).nodes ≤ 1 ∧ slimV (shV n x) := by
  unfold shV idV
  rw [Val.nodes_eq, slimV_eq]
  simp [Val.nodesL, slimL]
theorem shift_ok (n N : Int) (h0 : 0 ≤ n) (h1 : n ≤ 1000000) (hN : N ≤ 1000000) (id : Nat) : MapOk (shV n) 115 [.ptr id 0] N (fun m => m.bx[id]? = some [.int .i64 n]) where
  ev x h2 h3 m hm := by
    have hid : id < m.bx.length := (List.getElem?_eq_some_iff.1 hm).1
    have hg := (List.getElem?_eq_some_iff.1 hm).2
    have w1 : IntKind.i64.wrap (x + n) = x + n := wrap_id _ (by omega)
    rw [evCall_body C0 (C0_ext _ (by decide)) (by rw [C0_P]; exact Tryz.func115) rfl (by rw [C0_ann]; rfl) (by rw [C0_ann]; rfl) (by decide) (by simp [Tryz.f115])]
    simp [Tryz.f115, a115, reg115, at_lt, hid, hg, w1, shV, idV]
  up m b r h := by
    have hid : id < m.bx.length := (List.getElem?_eq_some_iff.1 h).1
    simp only
    rw [List.getElem?_append_left hid]
    exact h
  cl m h := by
    have hid : id < m.bx.length := (List.getElem?_eq_some_iff.1 h).1
    simp [hid]
  sm := shV_sm n
def sumL (g : Fun) (vs ws : List Val) : List Val := vs ++ ws.map fun v => mapV (shV vs.length) v g
set_option maxHeartbeats 4000000 in
theorem ev_Added (f g : Fun) (vs ws : List Val) (hf : f.nodes ≤ 1000000) (hb : Val.nodesL vs ≤ 1000000) (hs : ∀ v ∈ vs, slimV v) (hsh : shapedF g = true) (hok : ∀ v ∈ ws, okV exL ws.length v g = true) (hb2 : Val.nodesL ws ≤ 1000000) (hs2 : ∀ v ∈ ws, slimV v) (m : Mem) :
    evCall C0 70 [.agg (sysX f (.isl false vs.length (Val.cellsL vs))), .agg (sysX g (.isl false ws.length (Val.cellsL ws)))] m = some (.ret (.agg (sysX f (.isl false (sumL g vs ws).length (Val.cellsL (sumL g vs ws))))), m) := by
  rw [evCall_body C0 (C0_ext _ (by decide)) (by rw [C0_P]; exact Tryz.func70) rfl (by rw [C0_ann]; rfl) (by rw [C0_ann]; rfl) (by decide) (by simp [Tryz.f70])]
  have hlen := Val.length_nodesL vs
  have hlen2 := Val.length_nodesL ws
  have hcp := ev_SCopied f vs hf hb hs
  simp [sysX] at hcp
  simp [Tryz.f70, a70, reg70, loop70, draw70, dok70, sysX, hcp]
  refine loop_in (fun x : Nat × List Val => ⟨[(3, .ptr (m.bx.length + 1) 0), (4, .ptr (m.bx.length + 2) 0), (5, .ptr (m.bx.length + 3) 0), (6, .ptr (m.bx.length + 4) 0), (15, .isl false ws.length (Val.cellsL ws)), (16, .int .i64 ws.length), (17, .int .i64 x.1)],
      ⟨m.bx ++ [sysX f (.isl false vs.length (Val.cellsL vs)), sysX g (.isl false ws.length (Val.cellsL ws)), [.int .i64 0, .int .i64 0, .nils, .nils], sysX f (xA m.rw.length x.2), [.int .i64 vs.length]], m.rw ++ xR x.2⟩⟩)
    (fun x => some (.ret (.agg (sysX f (.isl false (sumL g vs ws).length (Val.cellsL (sumL g vs ws))))), m)) (fun x => ws.length - x.1)
    (fun x => x.1 ≤ ws.length ∧ x.2.length = vs.length + x.1 ∧ sumL g vs ws = x.2 ++ (ws.drop x.1).map fun v => mapV (shV vs.length) v g) (0, vs) ?_ ?_ ?_ ?_ ?_
  · simp [sysX]
  · simp [sysX]
  · exact ⟨by simp, by simp, by simp [sumL]⟩
  · intro x; simp [Tryz.f70, a70, reg70, loop70, draw70, dok70]
  · rintro ⟨i, xs⟩ ⟨hi, hxl, htot⟩ hrec
    simp only at hi hxl htot
    by_cases hlt : i < ws.length
    · have w2 : IntKind.i64.wrap (i + 1) = i + 1 := wrap_id _ (by omega)
      have h3 : (i + 1) * 3 ≤ ws.length * 3 := by omega
      have hmem := List.getElem_mem hlt
      have hnd := Val.nodes_mem hmem
      have he := ev_Mapped (shift_ok vs.length ws.length (by omega) (by omega) (by omega) (m.bx.length + 4)) ws[i].nodes ws[i] (Nat.le_refl _) (by omega) (hs2 _ hmem) g hsh (hok _ hmem)
      have hin : sumL g vs ws = (xs ++ [mapV (shV vs.length) ws[i] g]) ++ (ws.drop (i + 1)).map fun v => mapV (shV vs.length) v g := by
        rw [htot, List.drop_eq_getElem_cons hlt, List.map_cons, List.append_assoc]; rfl
      simp at he
      cases xs with
      | nil =>
        simp [round, Tryz.f70, a70, reg70, loop70, draw70, dok70, hlt, w2, h3, he, xA, xR, sysX, endRound_R0]
        refine hrec (i + 1, [mapV (shV vs.length) ws[i] g]) _ _ ?_ ?_ ?_ ?_
        · simp; omega
        · exact ⟨by simp only; omega, by simp at hxl ⊢; omega, by rw [hin]; rfl⟩
        · simp [xA, xR, sysX, Val.cellsL]
        · simp [sysX]
      | cons a r =>
        have hr : r.length + 1 = vs.length + i := by simpa using hxl
        simp [round, Tryz.f70, a70, reg70, loop70, draw70, dok70, hlt, w2, h3, he, xA, xR, sysX, endRound_R, show (r.length + 1 + 1) * 56 ≤ 70368744177664 by omega, show r.length + 1 + 1 ≤ 70368744177664 by omega]
        refine hrec (i + 1, a :: r ++ [mapV (shV vs.length) ws[i] g]) _ _ ?_ ?_ ?_ ?_
        · simp; omega
        · exact ⟨by simp only; omega, by simp; omega, by rw [hin]⟩
        · simp [xA, xR, sysX, Val.cellsL, Val.cellsL_append]
        · simp [sysX]
    · clear hrec
      rw [List.drop_eq_nil_of_le (by omega), List.map_nil, List.append_nil] at htot
      rw [htot]
      cases xs with
      | nil => simp [round, Tryz.f70, a70, reg70, loop70, draw70, dok70, hlt, xA, xR, sysX, Val.cellsL]
      | cons a r =>
        have hall : List.take ((r.length + 1) * 3) (Val.cellsL (a :: r)) = Val.cellsL (a :: r) := List.take_of_length_le (by simp)
        simp [round, Tryz.f70, a70, reg70, loop70, draw70, dok70, hlt, xA, xR, sysX, hall]
theorem ev_small (f : Fun) (vs : List Val) (hf : f.nodes ≤ 1000000) (hb : Val.nodesL vs ≤ 1000000) (hs : ∀ v ∈ vs, slimV v) (m : Mem) :
    evCall C0 69 [.agg (sysX f (.isl false vs.length (Val.cellsL vs)))] m = some (.ret (.tup [.agg (sysO f (if okS f vs then some vs else none)), .int .i64 (if okS f vs then 0 else 2)]), m) := by
  rw [evCall_body C0 (C0_ext _ (by decide)) (by rw [C0_P]; exact Tryz.func69) rfl (by rw [C0_ann]; rfl) (by rw [C0_ann]; rfl) (by decide) (by simp [Tryz.f69])]
  have he := ev_SValid f vs hf hb hs
  simp [sysX] at he
  cases hc : okS f vs
  · simp [hc] at he
    simp [Tryz.f69, a69, reg69, sysX, he, sysO, zeroS]
  · simp [hc] at he
    simp [Tryz.f69, a69, reg69, sysX, he, sysO]
theorem map_list_nodes {t : Int → Val} (ht : ∀ x, (t x).nodes ≤ 1 ∧ slimV (t x)) (g : Fun) : ∀ {ws : List Val}, (∀ v ∈ ws, slimV v) → Val.nodesL ws ≤ 1000000 → Val.nodesL (ws.map fun v => mapV t v g) ≤ Val.nodesL ws ∧ ∀ u ∈ ws.map (fun v => mapV t v g), slimV u
  | [], _, _ => by simp [Val.nodesL]
  | v :: r, hs, hb => by
    rw [Val.nodesL] at hb
    obtain ⟨h1, h2⟩ := map_list_nodes ht g (ws := r) (fun u hu => hs u (List.mem_cons_of_mem _ hu)) (by omega)
    obtain ⟨h3, h4⟩ := map_nodes ht v g (hs v List.mem_cons_self) (by omega)
    rw [List.map_cons, Val.nodesL, Val.nodesL]
    refine ⟨by omega, fun u hu => ?_⟩
    rcases List.mem_cons.1 hu with rfl | hu
    · exact h4
    · exact h2 u hu
theorem nodesL_append : ∀ (a b : List Val), Val.nodesL (a ++ b) = Val.nodesL a + Val.nodesL b
  | [], b => by simp [Val.nodesL]
  | v :: r, b => by rw [List.cons_append, Val.nodesL, Val.nodesL, nodesL_append r b]; omega
theorem sumL_small {g : Fun} {vs ws : List Val} {k l : Nat} (hk : Val.nodesL vs ≤ k) (hl : Val.nodesL ws ≤ l) (hl2 : l ≤ 1000000) (hs : ∀ v ∈ vs, slimV v) (hs2 : ∀ v ∈ ws, slimV v) : Val.nodesL (sumL g vs ws) ≤ k + l ∧ ∀ u ∈ sumL g vs ws, slimV u := by
  obtain ⟨h1, h2⟩ := map_list_nodes (shV_sm vs.length) g hs2 (by omega)
  unfold sumL
  rw [nodesL_append]
  refine ⟨by omega, fun u hu => ?_⟩
  rcases List.mem_append.1 hu with h | h
  · exact hs u h
  · exact h2 u h
def pSum (f g : Fun) (vs ws : List Val) : Option (List Val) × Int :=
  if bothE f g vs ws = 0 then (if okS f (sumL g vs ws) then (some (sumL g vs ws), 0) else (none, 2)) else (none, bothE f g vs ws)
theorem ev_Sum (f g : Fun) (vs ws : List Val) (hf : f.nodes ≤ 1000000) (hg : g.nodes ≤ 1000000) (hb : Val.nodesL vs ≤ 100000) (hb2 : Val.nodesL ws ≤ 100000) (hs : ∀ v ∈ vs, slimV v) (hs2 : ∀ v ∈ ws, slimV v) (m : Mem) :
    evCall C0 24 [.agg (sysX f (.isl false vs.length (Val.cellsL vs))), .agg (sysX g (.isl false ws.length (Val.cellsL ws)))] m = some (.ret (.tup [.agg (sysO f (pSum f g vs ws).1), .int .i64 (pSum f g vs ws).2]), m) := by
  rw [evCall_body C0 (C0_ext _ (by decide)) (by rw [C0_P]; exact Tryz.func24) rfl (by rw [C0_ann]; rfl) (by rw [C0_ann]; rfl) (by decide) (by simp [Tryz.f24])]
  have hB := ev_Both f g vs ws hf hg (by omega) (by omega) hs hs2
  simp [sysX] at hB
  unfold pSum
  by_cases h0 : bothE f g vs ws = 0
  case neg => simp [Tryz.f24, a24, reg24, sysX, hB, h0, sysO, zeroS]
  have hgs : okS g ws = true := by
    unfold bothE at h0
    split at h0
    · rename_i h; rw [Bool.and_eq_true] at h; exact h.2
    · cases h0
  have hsp := okS_spec hgs
  have hA := ev_Added f g vs ws hf (by omega) hs hsp.1 hsp.2.2 (by omega) hs2
  have hsm := sumL_small (g := g) hb hb2 (by omega) hs hs2
  have hS := ev_small f (sumL g vs ws) hf (by omega) hsm.2
  rw [if_pos h0]
  generalize sumL g vs ws = L at hA hS ⊢
  simp [sysX] at hA hS
  simp [h0] at hB
  cases hc : okS f L
  · simp [hc, sysO, zeroS] at hS
    simp [Tryz.f24, a24, reg24, sysX, hB, hA, hS, sysO, zeroS]
  · simp [hc, sysO, sysX] at hS
    simp [Tryz.f24, a24, reg24, sysX, hB, hA, hS, sysO]
theorem ints_set {l : List Int} {k : Nat} (h : k < l.length) (x : Int) : (ints l).take k ++ .int .i64 x :: (ints l).drop (k + 1) = ints (l.set k x) := by
  unfold ints
  rw [List.map_set, List.set_eq_take_append_cons_drop, if_pos (by simpa using h)]
theorem ints_zero (n : Nat) : (List.replicate n [A.int .i64 0]).flatten = ints (List.replicate n 0) := by
  induction n with
  | zero => rfl
  | succ n ih => rw [List.replicate_succ, List.flatten_cons, ih]; rfl
theorem ints_rep (n : Nat) (x : Int) : ints (List.replicate n x) = List.replicate n (.int .i64 x) := by simp [ints]
theorem ev_Part1 (g : Fun) (ws : List Val) (y : Int) (m : Mem) (id : Nat) (hi : m.bx[id]? = some (sysX g (.isl false ws.length (Val.cellsL ws)))) : evCall C0 74 [.int .i64 y, .ptr id 0] m = some (.ret (.bool (decide (y < 0) || decide ((ws.length : Int) ≤ y))), m) := by
  have hid : id < m.bx.length := (List.getElem?_eq_some_iff.1 hi).1
  have hR2 := (List.getElem?_eq_some_iff.1 hi).2
  rw [evCall_body C0 (C0_ext _ (by decide)) (by rw [C0_P]; exact Tryz.func74) rfl (by rw [C0_ann]; rfl) (by rw [C0_ann]; rfl) (by decide) (by simp [Tryz.f74])]
  by_cases h : y < 0
  · simp [Tryz.f74, a74, reg74, h]
  · simp [Tryz.f74, a74, reg74, h, hid, hR2, at_lt]
noncomputable def rchT (f : Fun) (vs : List Val) (fr : List Int) : List Bool := rchL (sucS f vs) fr vs.length
noncomputable def rchK (f : Fun) (vs : List Val) (fr : List Int) : List Int := keptA (rchT f vs fr) vs.length
def partL (f : Fun) (vs : List Val) (to l : List Int) : List Val := l.map fun x => mapV (toV to) (vs.getD x.toNat zeroV) f
theorem partL_succ {f : Fun} {vs : List Val} {to l : List Int} {i : Nat} (h : i < l.length) : partL f vs to (l.take (i + 1)) = partL f vs to (l.take i) ++ [mapV (toV to) (vs.getD l[i].toNat zeroV) f] := by
  unfold partL
  rw [List.take_succ_eq_append_getElem h, List.map_append]
  rfl
noncomputable def pPart (f : Fun) (vs : List Val) (fr : List Int) : Option (List Val) × List Int × Int :=
  if okS f vs then (if fr.any (fun y => decide (y < 0) || decide ((vs.length : Int) ≤ y)) then (none, [], 1)
    else (some (partL f vs (toA (rchT f vs fr) vs.length) (rchK f vs fr)), rchK f vs fr, 0)) else (none, [], 30)
set_option maxHeartbeats 8000000 in
theorem ev_Part (f : Fun) (vs : List Val) (fr : List Int) (fl : Bool) (hf : f.nodes ≤ 1000000) (hb : Val.nodesL vs ≤ 100000) (hs : ∀ v ∈ vs, slimV v) (hl : fr.length ≤ 1000000) (m : Mem) :
    evCall C0 27 [.agg (sysX f (.isl false vs.length (Val.cellsL vs))), .isl fl fr.length (ints fr)] m = some (.ret (.tup [.agg (sysO f (pPart f vs fr).1), .isl false (pPart f vs fr).2.1.length (ints (pPart f vs fr).2.1), .int .i64 (pPart f vs fr).2.2]), m) := by
  rw [evCall_body C0 (C0_ext _ (by decide)) (by rw [C0_P]; exact Tryz.func27) rfl (by rw [C0_ann]; rfl) (by rw [C0_ann]; rfl) (by decide) (by simp [Tryz.f27])]
  have hV := ev_SValid f vs hf (by omega) hs
  simp [sysX] at hV
  unfold pPart
  cases hc : okS f vs
  case false =>
    simp [hc] at hV
    simp [Tryz.f27, a27, reg27, loop27, draw27, dok27, sysX, hV, sysO, zeroS]
  simp [hc] at hV
  obtain ⟨hsh, hn, hok⟩ := okS_spec hc
  have hst := ev_ContainsI (g := 74) (caps := [.ptr m.bx.length 0]) (fun y => decide (y < 0) || decide ((vs.length : Int) ≤ y)) fr fl (by omega) ⟨m.bx ++ [sysX f (.isl false vs.length (Val.cellsL vs)), [.int .i64 0, .int .i64 0, .nils, .nils]], m.rw⟩ (by simp) (fun u hu => ev_Part1 f vs u _ _ (by simp))
  simp [sysX] at hst
  cases hany : fr.any (fun y => decide (y < 0) || decide ((vs.length : Int) ≤ y))
  case true =>
    simp only [hany] at hst
    simp [Tryz.f27, a27, reg27, loop27, draw27, dok27, sysX, hV, hst, sysO, zeroS]
  simp only [hany] at hst
  have hfr := any_bound hany
  have hR := ev_Reached exL f vs fr fl hsh hok hb (by omega) hl hfr
  have hT : rchL (sucS f vs) fr vs.length = rchT f vs fr := rfl
  rw [hT] at hR
  have hTl : (rchT f vs fr).length = vs.length := rchL_length _ _ _
  have hKd : keptA (rchT f vs fr) vs.length = rchK f vs fr := rfl
  have hK : ∀ x, x ∈ rchK f vs fr → 0 ≤ x ∧ x < vs.length := fun x hx => by
    obtain ⟨k, h1, _, rfl⟩ := (keptA_mem _ _ _).1 hx
    omega
  have hKl : (rchK f vs fr).length ≤ vs.length := keptA_len _ _
  generalize rchT f vs fr = T at hR hTl hKd ⊢
  generalize rchK f vs fr = K at hKd hK hKl ⊢
  have n1 : (vs.length : Int) * 8 ≤ 70368744177664 := by omega
  have n2 : (vs.length : Int) ≤ 70368744177664 := by omega
  have hfc := ev_FCopied f.nodes f (Nat.le_refl _) (by omega)
  have hlenN := Val.length_nodesL vs
  simp [sysX] at hR hfc
  simp [Tryz.f27, a27, reg27, loop27, draw27, dok27, sysX, hV, hst, n1, n2, ints_zero, hR]
  refine loop_in (fun i : Nat => ⟨[(2, .ptr m.bx.length 0), (4, .ptr (m.bx.length + 1) 0), (7, lsA (m.rw.length + 1) (keptA T i)), (8, .sl m.rw.length vs.length 0 vs.length), (28, .isl false vs.length (boolsL T)), (29, .int .i64 vs.length), (30, .int .i64 i)],
      ⟨m.bx ++ [sysX f (.isl false vs.length (Val.cellsL vs)), [.int .i64 0, .int .i64 0, .nils, .nils]], m.rw ++ (⟨3, ints (toI T vs.length i)⟩ :: lsRow (keptA T i))⟩⟩)
    (fun _ => some (.ret (.tup [.agg (sysX f (.isl false (partL f vs (toA T vs.length) K).length (Val.cellsL (partL f vs (toA T vs.length) K)))), .isl false K.length (ints K), .int .i64 0]), m)) (fun i => vs.length - i) (fun i => i ≤ vs.length) 0 ?_ ?_ ?_ ?_ ?_
  · simp [keptA, lsA, lsRow, toI_zero, sysX, ints_rep]
  · simp [sysO, sysX]
  · omega
  · intro x; simp [Tryz.f27, a27, reg27, loop27, draw27, dok27]
  · intro i hi hrec
    have htl := toI_len T vs.length i
    by_cases hlt : i < vs.length
    · have w2 : IntKind.i64.wrap (i + 1) = i + 1 := wrap_id _ (by omega)
      have hiT : i < T.length := by omega
      have hbt := boolsL_at hiT
      have hgd : T.getD i false = T[i] := by rw [List.getD_eq_getElem?_getD, List.getElem?_eq_getElem hiT]; rfl
      have hks := keptA_succ T i
      have hkl := keptA_len T i
      have hit : i < (toI T vs.length i).length := by omega
      cases hv : T[i] with
      | false =>
        rw [hgd, hv] at hks
        have hti := toI_no T vs.length i (by rw [hgd, hv])
        simp at hks
        cases hc2 : keptA T i with
        | nil =>
          simp [round, Tryz.f27, a27, reg27, loop27, draw27, dok27, hlt, w2, hbt, hv, lsA, lsRow, show i + 1 ≤ T.length by omega, show i + 1 ≤ vs.length by omega, hTl, endRound_R]
          refine hrec (i + 1) _ _ ?_ ?_ ?_ ?_
          · omega
          · omega
          · rw [hks, hc2, ← hti]; simp [lsA, lsRow, sysX]
          · simp [sysX]
        | cons a r =>
          simp [round, Tryz.f27, a27, reg27, loop27, draw27, dok27, hlt, w2, hbt, hv, lsA, lsRow, show i + 1 ≤ T.length by omega, show i + 1 ≤ vs.length by omega, hTl, endRound_R]
          refine hrec (i + 1) _ _ ?_ ?_ ?_ ?_
          · omega
          · omega
          · rw [hks, hc2, ← hti]; simp [lsA, lsRow, sysX]
          · simp [sysX]
      | true =>
        rw [hgd, hv] at hks
        have hti := toI_set T vs.length i hlt (by rw [hgd, hv])
        have hse := ints_set hit ((keptA T i).length : Int)
        rw [hti] at hse
        simp at hks
        cases hc2 : keptA T i with
        | nil =>
          rw [hc2] at hse hks
          simp at hse
          simp [round, Tryz.f27, a27, reg27, loop27, draw27, dok27, hlt, w2, hbt, hv, lsA, lsRow, show i + 1 ≤ T.length by omega, show i + 1 ≤ vs.length by omega, htl, hTl, setCells, hse, endRound_R]
          refine hrec (i + 1) _ _ ?_ ?_ ?_ ?_
          · omega
          · omega
          · rw [hks]; simp [lsA, lsRow, sysX, ints_cons]
          · simp [sysX]
        | cons a r =>
          rw [hc2] at hse hks hkl
          simp at hse hkl
          simp [round, Tryz.f27, a27, reg27, loop27, draw27, dok27, hlt, w2, hbt, hv, lsA, lsRow, show i + 1 ≤ T.length by omega, show i + 1 ≤ vs.length by omega, htl, hTl, setCells, hse, endRound_R, show (r.length + 1 + 1) * 8 ≤ 70368744177664 by omega, show r.length + 1 + 1 ≤ 70368744177664 by omega]
          refine hrec (i + 1) _ _ ?_ ?_ ?_ ?_
          · omega
          · omega
          · rw [hks]; simp [lsA, lsRow, sysX, ints_cons, ints_append]
          · simp [sysX]
    · clear hrec
      have hie : i = vs.length := by omega
      subst hie
      rw [hKd, toI_all]
      have htA : (toA T vs.length).length = vs.length := by rw [← toI_all, toI_len]
      generalize toA T vs.length = to at htA ⊢
      cases hKc : K with
      | nil =>
        simp [round, Tryz.f27, a27, reg27, loop27, draw27, dok27, lsA, lsRow, hfc]
        rw [evCode_loop]
        simp [round, Tryz.f27, a27, reg27, loop27, draw27, dok27, partL, sysX, Val.cellsL]
      | cons a r =>
        rw [← hKc]
        have hKp : 0 < K.length := by rw [hKc]; simp
        have hK0 : ¬ K.length = 0 := by omega
        have hKn : K ≠ [] := by rw [hKc]; simp
        clear hKc
        simp [round, Tryz.f27, a27, reg27, loop27, draw27, dok27, lsA, lsRow, hK0, hKn, hfc]
        refine loop_in (fun i : Nat => ⟨[(2, .ptr m.bx.length 0), (4, .ptr (m.bx.length + 1) 0), (7, .sl (m.rw.length + 1) K.length 0 K.length), (8, .sl m.rw.length vs.length 0 vs.length), (11, .ptr (m.bx.length + 2) 0), (50, .sl (m.rw.length + 1) K.length 0 K.length), (51, .int .i64 K.length), (52, .int .i64 i)],
            ⟨m.bx ++ [sysX f (.isl false vs.length (Val.cellsL vs)), [.int .i64 0, .int .i64 0, .nils, .nils], sysX f (xA (m.rw.length + 2) (partL f vs to (K.take i)))], m.rw ++ (⟨3, ints to⟩ :: ⟨3, ints K⟩ :: xR (partL f vs to (K.take i)))⟩⟩)
          (fun _ => some (.ret (.tup [.agg (sysX f (.isl false (partL f vs to K).length (Val.cellsL (partL f vs to K)))), .isl false K.length (ints K), .int .i64 0]), m)) (fun i => K.length - i) (fun i => i ≤ K.length) 0 ?_ ?_ ?_ ?_ ?_
        · simp [partL, xA, xR, sysX]
        · simp [sysX]
        · omega
        · intro x; simp [Tryz.f27, a27, reg27, loop27, draw27, dok27]
        · intro i hi hrec
          by_cases hlt : i < K.length
          · have w2 : IntKind.i64.wrap (i + 1) = i + 1 := wrap_id _ (by omega)
            have hat := ints_at hlt
            have hx := hK _ (List.getElem_mem hlt)
            have hps := partL_succ (f := f) (vs := vs) (to := to) hlt
            obtain ⟨k, hk⟩ : ∃ k : Nat, K[i] = k := ⟨K[i].toNat, by omega⟩
            rw [hk] at hat hx hps
            have hkl : k < vs.length := by omega
            have hgv : vs.getD ((k : Int)).toNat zeroV = vs[k] := by rw [List.getD_eq_getElem?_getD]; simp [hkl]
            rw [hgv] at hps
            have h3 : (k + 1) * 3 ≤ vs.length * 3 := by omega
            have hnd := Val.nodes_mem (List.getElem_mem hkl)
            have he := fun (M : List (List A)) (R : List Row) => ev_AlongR m.rw.length to vs.length (by omega) f vs[k] hsh (hok _ (List.getElem_mem hkl)) (by omega) (hs _ (List.getElem_mem hkl)) ⟨M, m.rw ++ ⟨3, ints to⟩ :: R⟩ (by simp)
            rw [htA] at he
            have hpl : (partL f vs to (K.take i)).length = i := by simp [partL]; omega
            simp at he
            generalize partL f vs to (K.take i) = xs at hps hpl ⊢
            cases xs with
            | nil =>
              simp [round, Tryz.f27, a27, reg27, loop27, draw27, dok27, hlt, w2, hat, hkl, h3, he, xA, xR, sysX, endRound_R, show i + 1 ≤ K.length by omega]
              refine hrec (i + 1) _ _ ?_ ?_ ?_ ?_
              · omega
              · omega
              · rw [hps]; simp [xA, xR, sysX, Val.cellsL]
              · simp [sysX]
            | cons b q =>
              have hql : q.length + 1 = i := by simpa using hpl
              simp [round, Tryz.f27, a27, reg27, loop27, draw27, dok27, hlt, w2, hat, hkl, h3, he, xA, xR, sysX, endRound_R, show i + 1 ≤ K.length by omega, show (q.length + 1 + 1) * 56 ≤ 70368744177664 by omega, show q.length + 1 + 1 ≤ 70368744177664 by omega]
              refine hrec (i + 1) _ _ ?_ ?_ ?_ ?_
              · omega
              · omega
              · rw [hps]; simp [xA, xR, sysX, Val.cellsL, Val.cellsL_append]
              · simp [sysX]
          · clear hrec
            have hie : i = K.length := by omega
            subst hie
            rw [List.take_of_length_le (Nat.le_refl _)]
            have hpl : (partL f vs to K).length = K.length := by simp [partL]
            generalize partL f vs to K = xs at hpl ⊢
            have hx0 : ¬ xs.length = 0 := by omega
            have hxn : xs ≠ [] := by rintro rfl; simp at hx0
            have hall : List.take (xs.length * 3) (Val.cellsL xs) = Val.cellsL xs := List.take_of_length_le (by simp)
            have hall2 : List.take K.length (ints K) = ints K := List.take_of_length_le (by simp)
            simp [round, Tryz.f27, a27, reg27, loop27, draw27, dok27, xA, xR, sysX, hx0, hxn, hall, hall2]
theorem ev_RIndexL (id : Nat) (l : List Int) (k : Int) (hl : l.length ≤ 1000000000) (m : Mem) (hR : OkL m.rw id l) : evCall C0 46 [lsA id l, .int .i64 k] m = some (.ret (.int .i64 (idxA (fun x => decide (x = k)) l 0)), m) := by
  rw [evCall_body C0 (C0_ext _ (by decide)) (by rw [C0_P]; exact Tryz.func46) rfl (by rw [C0_ann]; rfl) (by rw [C0_ann]; rfl) (by decide) (by simp [Tryz.f46])]
  by_cases h0 : l.length = 0
  · have : l = [] := List.eq_nil_of_length_eq_zero h0
    subst this
    simp [Tryz.f46, a46, reg46, loop46, lsA]
    rw [evCode_loop]
    simp [round, Tryz.f46, a46, reg46, loop46, idxA]
  have hrow := hR h0
  have hrl : id < m.rw.length := (List.getElem?_eq_some_iff.1 hrow).1
  have hRg : m.rw[id] = ⟨3, ints l⟩ := (List.getElem?_eq_some_iff.1 hrow).2
  have hln : l ≠ [] := by rintro rfl; exact h0 rfl
  simp [Tryz.f46, a46, reg46, loop46, lsA, h0, hln]
  refine loop_in (fun i : Nat => ⟨[(1, .int .i64 k), (7, .sl id l.length 0 l.length), (8, .int .i64 l.length), (9, .int .i64 i)], m⟩)
    (fun i => some (.ret (.int .i64 (idxA (fun x => decide (x = k)) (l.drop i) i)), m)) (fun i => l.length - i) (fun i => i ≤ l.length) 0 ?_ ?_ ?_ ?_ ?_
  · simp
  · simp
  · simp
  · intro x; simp [Tryz.f46, a46, reg46, loop46]
  · intro i hi hrec
    by_cases hlt : i < l.length
    · have w2 : IntKind.i64.wrap (i + 1) = i + 1 := wrap_id _ (by omega)
      have h3 : i + 1 ≤ l.length := by omega
      have hat := ints_at hlt
      rw [idxA_drop hlt]
      by_cases hc : l[i] = k
      · simp [round, Tryz.f46, a46, reg46, loop46, hlt, w2, h3, hat, hc, hrl, hRg]
      · simp [round, Tryz.f46, a46, reg46, loop46, hlt, w2, h3, hat, hc, hrl, hRg, endRound_M0]
        refine hrec (i + 1) _ _ ?_ ?_ ?_ ?_
        · omega
        · omega
        · simp
        · simp
    · clear hrec
      rw [List.drop_eq_nil_of_le (by omega), idxA]
      simp [round, Tryz.f46, a46, reg46, loop46, hlt]
theorem insR_keepRow {R : List Row} {id : Nat} {l : List Int} {n : Int} {k : Nat} (hk : k ≤ R.length) (hid : l ≠ [] → k ≤ id) : (∀ i, i < k → (insR R id l n).1[i]? = R[i]?) ∧ k ≤ (insR R id l n).1.length ∧ k ≤ (insR R id l n).2 := by
  unfold insR
  by_cases h0 : fate n l = 0
  · have hl : l ≠ [] := by rintro rfl; cases h0
    rw [if_pos h0]
    exact ⟨fun _ _ => rfl, hk, hid hl⟩
  rw [if_neg h0]
  by_cases h1 : fate n l = 1 ∨ l.length = 0
  · rw [if_pos h1]
    exact ⟨fun i hi => List.getElem?_append_left (by omega), by simp; omega, hk⟩
  · rw [if_neg h1]
    have hl : l ≠ [] := by rintro rfl; exact h1 (.inr rfl)
    have := hid hl
    refine ⟨fun i hi => ?_, by simpa using hk, this⟩
    simp only
    rw [List.getElem?_set_ne (by omega)]
mutual
theorem stV_keepRow : ∀ (v : Val) (f : Fun) (s : StS) (k : Nat), k ≤ s.R.length → (s.l ≠ [] → k ≤ s.id) → (∀ i, i < k → (stV v f s).R[i]? = s.R[i]?) ∧ k ≤ (stV v f s).R.length ∧ ((stV v f s).l ≠ [] → k ≤ (stV v f s).id)
  | .mk n l w, f, s, k, h1, h2 => by
    rw [stV]
    split
    · obtain ⟨a, b, c⟩ := insR_keepRow (n := n) h1 h2
      exact ⟨a, b, fun _ => c⟩
    · exact stL_keepRow l (argF f n) 0 s k h1 h2
theorem stL_keepRow : ∀ (l : List Val) (g : Nat → Fun) (i : Nat) (s : StS) (k : Nat), k ≤ s.R.length → (s.l ≠ [] → k ≤ s.id) → (∀ j, j < k → (stL l g i s).R[j]? = s.R[j]?) ∧ k ≤ (stL l g i s).R.length ∧ ((stL l g i s).l ≠ [] → k ≤ (stL l g i s).id)
  | [], g, i, s, k, h1, h2 => by rw [stL]; exact ⟨fun _ _ => rfl, h1, h2⟩
  | v :: r, g, i, s, k, h1, h2 => by
    rw [stL]
    obtain ⟨a, b, c⟩ := stV_keepRow v (g i) s k h1 h2
    obtain ⟨a', b', c'⟩ := stL_keepRow r g (i + 1) (stV v (g i) s) k b c
    exact ⟨fun j hj => (a' j hj).trans (a j hj), b', c'⟩
end
theorem grow_set (R : List Row) (w : Nat) (l : List Int) : Grow R (R.set w ⟨3, ints l⟩) := by
  refine ⟨by simp, fun i hi => ?_⟩
  by_cases h : w = i
  · subst h
    right
    exact ⟨⟨3, ints l⟩, by rw [List.getElem?_set_self (by simpa using hi)], by simp⟩
  · left
    rw [List.getElem?_set_ne h]
theorem leave_ls {m : Mem} {b : List (List A)} {R : List Row} {id : Nat} {l : List Int} (hk : ∀ i, i < m.rw.length → R[i]? = m.rw[i]?) (hlen : m.rw.length ≤ R.length) (hid : l ≠ [] → m.rw.length ≤ id) (hR : OkL R id l) :
    leave Tryz.prog false m (.ret (lsA id l)) ⟨m.bx ++ b, R⟩ = some (.ret (.isl false l.length (ints l)), m) := by
  obtain ⟨R', rfl⟩ : ∃ R', R = m.rw ++ R' := by
    refine ⟨R.drop m.rw.length, ?_⟩
    have : R.take m.rw.length = m.rw := by
      apply List.ext_getElem?
      intro i
      rw [List.getElem?_take]
      by_cases h : i < m.rw.length
      · rw [if_pos h, hk i h]
      · rw [if_neg h, List.getElem?_eq_none (by omega)]
    conv => lhs; rw [← List.take_append_drop m.rw.length R, this]
  rw [leave_rw]
  congr 2
  by_cases h0 : l.length = 0
  · have : l = [] := List.eq_nil_of_length_eq_zero h0
    subst this
    rfl
  · have hrow := hR h0
    have hln : l ≠ [] := by rintro rfl; exact h0 rfl
    have hge := hid hln
    unfold lsA
    rw [if_neg h0]
    have hmin : ¬ id < m.rw.length := by omega
    simp [erR, er, er1, erG, hmin, hrow]
theorem app_front {bx : List (List A)} {R : List Row} {w ver id : Nat} {q l : List Int} {x : Int} {junk : List Int} (hw : R[w]? = some ⟨3, ints (q ++ x :: junk)⟩) (hv : ver = q.length + (junk.length + 1)) (hR : OkL R id l) (hq : q.length ≤ 1000000000) (hl : l.length ≤ 1000000000) :
    appendA Tryz.prog 28 28 (.sl w ver 0 q.length) (lsA id l) ⟨bx, R⟩ = some (.sl w ((q ++ l).length + ((x :: junk).drop l.length).length) 0 (q ++ l).length, ⟨bx, R.set w ⟨3, ints ((q ++ l) ++ (x :: junk).drop l.length)⟩⟩) := by
  subst hv
  have hwl : w < R.length := (List.getElem?_eq_some_iff.1 hw).1
  have hwg : R[w] = ⟨3, ints (q ++ x :: junk)⟩ := (List.getElem?_eq_some_iff.1 hw).2
  have h1 : (q.length + l.length) * 8 ≤ 70368744177664 := by omega
  have h2 : q.length + l.length ≤ 70368744177664 := by omega
  have e1 : (ints (q ++ x :: junk)).take q.length = ints q := by rw [ints_append, List.take_left' (by simp)]
  have e2 : ∀ k, (ints (q ++ x :: junk)).drop (q.length + k) = ints ((x :: junk).drop k) := fun k => by
    rw [ints_append, ← List.drop_drop, List.drop_left' (by simp)]
    unfold ints
    rw [List.map_drop]
  have e3 : max (q.length + (junk.length + 1)) (q.length + l.length) = q.length + l.length + (junk.length + 1 - l.length) := by omega
  have e4 : ints ((q ++ l) ++ (x :: junk).drop l.length) = ints q ++ (ints l ++ ints ((x :: junk).drop l.length)) := by rw [ints_append, ints_append, List.append_assoc]
  rw [e4]
  by_cases h0 : l.length = 0
  · have : l = [] := List.eq_nil_of_length_eq_zero h0
    subst this
    have e5 := e2 0
    simp at e5
    simp [lsA, hwl, hwg, h1, h2, e1]
    exact ⟨⟨by omega, by omega⟩, by rw [ints_append]⟩
  · have hrow := hR h0
    have hrl : id < R.length := (List.getElem?_eq_some_iff.1 hrow).1
    have hRg : R[id] = ⟨3, ints l⟩ := (List.getElem?_eq_some_iff.1 hrow).2
    have hln : l ≠ [] := by rintro rfl; exact h0 rfl
    have ht : (ints l).take l.length = ints l := List.take_of_length_le (by simp)
    simp [lsA, h0, hln, hwl, hwg, hrl, hRg, h1, h2, e1, e2, e3, ht, flat_mem_ints]
theorem sorted_len : ∀ (l : List Int) (a b : Int), l.Pairwise (· < ·) → (∀ y, y ∈ l → a ≤ y ∧ y < b) → (l.length : Int) ≤ max 0 (b - a)
  | [], a, b, _, _ => by simp; omega
  | x :: r, a, b, hp, hb => by
    have hx := hb x List.mem_cons_self
    rw [List.pairwise_cons] at hp
    have := sorted_len r (x + 1) b hp.2 (fun y hy => ⟨by have := hp.1 y hy; omega, (hb y (List.mem_cons_of_mem _ hy)).2⟩)
    simp
    omega
theorem insI_len_new {n : Int} : ∀ {l : List Int}, n ∉ l → (insI n l).length = l.length + 1
  | [], _ => by rw [insI]; rfl
  | x :: r, h => by
    have h1 : x ≠ n := fun e => h (by rw [e]; exact List.mem_cons_self)
    have h2 : n ∉ r := fun e => h (List.mem_cons_of_mem _ e)
    rw [insI]
    split
    · rename_i e; exact absurd e h1
    · split
      · simp
      · rw [List.length_cons, insI_len_new h2]; rfl
theorem kept_nil (n : Nat) : keptA (List.replicate n false) n = [] := by
  unfold keptA
  rw [List.filter_eq_nil_iff.2]
  · rfl
  · intro k _
    rw [List.getD_eq_getElem?_getD, List.getElem?_replicate]
    split <;> simp
theorem rchK_mem {f : Fun} {vs : List Val} {fr : List Int} (hok : ∀ v ∈ vs, okV exL vs.length v f = true) (hfr : ∀ x, x ∈ fr → 0 ≤ x ∧ x < vs.length) (y : Int) : y ∈ rchK f vs fr ↔ Rch (sucS f vs) fr y := by
  unfold rchK
  rw [keptA_mem]
  have hl : (rchT f vs fr).length = vs.length := rchL_length _ _ _
  constructor
  · rintro ⟨k, h1, h2, rfl⟩
    rw [List.getD_eq_getElem?_getD, List.getElem?_eq_getElem (by omega)] at h2
    exact (rchL_at _ _ _ k h1).1 h2
  · intro h
    have hb := h.bound (sucS_bd hok) hfr
    refine ⟨y.toNat, by omega, ?_, by omega⟩
    rw [List.getD_eq_getElem?_getD, List.getElem?_eq_getElem (by omega)]
    refine (rchL_at _ _ _ y.toNat (by omega)).2 ?_
    rwa [show ((y.toNat : Nat) : Int) = y by omega]
set_option maxHeartbeats 8000000 in
set_option maxRecDepth 4000 in
theorem ev_RReached (f : Fun) (vs : List Val) (fr : List Int) (fl : Bool) (hsh : shapedF f = true) (hok : ∀ v ∈ vs, okV exL vs.length v f = true) (hb : Val.nodesL vs ≤ 100000) (hn : vs.length ≤ 1000) (hl : fr.length ≤ 1000000) (hfr : ∀ x, x ∈ fr → 0 ≤ x ∧ x < vs.length) (m : Mem) :
    evCall C0 77 [.agg (sysX f (.isl false vs.length (Val.cellsL vs))), .isl fl fr.length (ints fr)] m = some (.ret (.isl false (rchK f vs fr).length (ints (rchK f vs fr))), m) := by
  rw [evCall_body C0 (C0_ext _ (by decide)) (by rw [C0_P]; exact Tryz.func77) rfl (by rw [C0_ann]; rfl) (by rw [C0_ann]; rfl) (by decide) (by simp [Tryz.f77])]
  have hlen := Val.length_nodesL vs
  have hKs : (rchK f vs fr).Pairwise (· < ·) := keptA_sorted _ _
  by_cases h0 : fr.length = 0
  · have : fr = [] := List.eq_nil_of_length_eq_zero h0
    subst this
    have hK0 : rchK f vs [] = [] := by unfold rchK rchT; rw [rch_nil, kept_nil]
    rw [hK0]
    simp [Tryz.f77, a77, reg77, loop77, draw77, dok77]
    rw [evCode_loop]
    simp [round, Tryz.f77, a77, reg77, loop77, draw77, dok77]
  have hfn : fr ≠ [] := by rintro rfl; exact h0 rfl
  have h8 : fr.length * 8 ≤ 70368744177664 := by omega
  have h9 : fr.length ≤ 70368744177664 := by omega
  have hall : (ints fr).take fr.length = ints fr := List.take_of_length_le (by simp)
  have hS := sucS_bd (f := f) hok
  have hKm := rchK_mem hok hfr
  simp [Tryz.f77, a77, reg77, loop77, draw77, dok77, h0, hfn, h8, h9, hall, flat_mem_ints]
  refine loop_in (fun x : List Row × List Int × List Int × Nat × List Int × Nat => ⟨[(2, .ptr m.bx.length 0), (5, lsA x.2.2.2.1 x.2.2.2.2.1), (6, .sl m.rw.length x.2.2.2.2.2 0 x.2.1.length)], ⟨m.bx ++ [sysX f (.isl false vs.length (Val.cellsL vs))], x.1⟩⟩)
    (fun _ => some (.ret (.isl false (rchK f vs fr).length (ints (rchK f vs fr))), m)) (fun x => (vs.length - x.2.2.2.2.1.length) * 100001 + x.2.1.length)
    (fun x => (∀ i, i < m.rw.length → x.1[i]? = m.rw[i]?) ∧ x.1[m.rw.length]? = some ⟨3, ints (x.2.1 ++ x.2.2.1)⟩ ∧ OkL x.1 x.2.2.2.1 x.2.2.2.2.1 ∧ (x.2.2.2.2.1 ≠ [] → m.rw.length + 1 ≤ x.2.2.2.1) ∧
      x.2.2.2.2.2 = x.2.1.length + x.2.2.1.length ∧ x.2.2.2.2.1.Pairwise (· < ·) ∧ (∀ y, y ∈ x.2.2.2.2.1 → 0 ≤ y ∧ y < vs.length) ∧ x.2.1.length + x.2.2.1.length + (vs.length - x.2.2.2.2.1.length) * 200000 ≤ 1000000000 ∧
      RInv (sucS f vs) fr vs.length (fun y => y ∈ x.2.2.2.2.1) x.2.1) (m.rw ++ [⟨3, ints fr⟩], fr, [], 0, [], fr.length) ?_ ?_ ?_ ?_ ?_
  · simp [lsA, sysX]
  · rfl
  · refine ⟨fun i hi => List.getElem?_append_left hi, by simp, fun h => absurd rfl h, fun h => absurd rfl h, by simp, by simp, fun y hy => (by cases hy), (by simp; omega), ?_⟩
    have h := RInv.begin (S := sucS f vs) (n := vs.length) hfr
    exact ⟨h.q, fun x hx => .inr hx, fun x hx => (by cases hx), fun x hx => (by rcases hx with hx | hx; cases hx; exact .start x hx)⟩
  · intro x; simp [Tryz.f77, a77, reg77, loop77, draw77, dok77]
  · rintro ⟨R, wait, junk, id, l, ver⟩ ⟨hold, hw, hO, hid, hver, hls, hlb, hroom, hI⟩ hrec
    simp only at hold hw hO hid hver hls hlb hroom hI
    have hll := sorted_len l 0 vs.length hls hlb
    have hwl : m.rw.length < R.length := (List.getElem?_eq_some_iff.1 hw).1
    have hwg : R[m.rw.length] = ⟨3, ints (wait ++ junk)⟩ := (List.getElem?_eq_some_iff.1 hw).2
    rcases List.eq_nil_or_concat wait with hwt | ⟨q, x, hwt⟩
    · clear hrec
      subst hwt
      have hlK : l = rchK f vs fr := strict_ext hls hKs fun y => by rw [hKm]; exact hI.done y
      rw [← hlK]
      have hlv := leave_ls (m := m) (b := [sysX f (.isl false vs.length (Val.cellsL vs))]) hold (by omega) (fun h => by have := hid h; omega) hO
      simp [sysX] at hlv
      simp [round, Tryz.f77, a77, reg77, loop77, draw77, dok77, sysX, hlv]
    · subst hwt
      have hx := hI.q x (by simp)
      obtain ⟨k, rfl⟩ : ∃ k : Nat, x = k := ⟨x.toNat, by omega⟩
      have hk : k < vs.length := by omega
      have hat := q_at q k junk
      have hqj : (q ++ [(k : Int)]) ++ junk = q ++ (k : Int) :: junk := by simp
      rw [List.concat_eq_append, hqj] at hw hwg
      simp only [List.concat_eq_append, List.length_append, List.length_cons, List.length_nil] at hver hroom
      replace hver : ver = q.length + (junk.length + 1) := by omega
      have w1 : IntKind.i64.wrap (q.length : Int) = q.length := wrap_id _ (by omega)
      have w2 : IntKind.i64.wrap ((q.length : Int) + 1 - 1) = q.length := by rw [show (q.length : Int) + 1 - 1 = q.length by omega]; exact w1
      have hix := fun bx => ev_RIndexL id l k (by omega) ⟨bx, R⟩ hO
      have hpos := idxA_pos (fun x => decide (x = (k : Int))) l 0 (by omega)
      have hany : (l.any fun x => decide (x = (k : Int))) = decide ((k : Int) ∈ l) := by
        rw [Bool.eq_iff_iff]; simp
      rw [hany] at hpos
      have hv1 : q.length + 1 ≤ ver := by omega
      have her : ∀ R2, Grow R R2 → ∀ tm, [2, 5, 6].all (fun t => closed (m.bx.length + 1) R2.length (lk t tm)) = true → endRound (some [2, 5, 6]) ⟨m.bx ++ [sysX f (.isl false vs.length (Val.cellsL vs))], R⟩ ⟨tm, ⟨m.bx ++ [sysX f (.isl false vs.length (Val.cellsL vs))], R2⟩⟩ = some ⟨prune (some [2, 5, 6]) tm, ⟨m.bx ++ [sysX f (.isl false vs.length (Val.cellsL vs))], R2⟩⟩ :=
        fun R2 hg tm hl => endRound_K (M := m.bx) (L := [sysX f (.isl false vs.length (Val.cellsL vs))]) (L' := [sysX f (.isl false vs.length (Val.cellsL vs))]) hg (by simp) hl (by simp [sysX])
      by_cases hin : (k : Int) ∈ l
      · rw [decide_eq_true hin, decide_eq_true_eq] at hpos
        have hI' := hI.skip (x := k) (q' := q) hin (fun y => by simp [or_comm])
        generalize idxA (fun x => decide (x = (k : Int))) l 0 = ix at hix hpos
        have her0 := her R (Grow.refl R)
        have hcl := lsA_closed2 hO
        simp [sysX] at her0
        simp [round, Tryz.f77, a77, reg77, loop77, draw77, dok77, hwl, hwg, hat, w1, w2, hv1, hver, hix, show ¬ ix < 0 by omega, sysX, her0, hcl, show (q.length : Int) < q.length + 1 by omega, show (0 : Int) < q.length + 1 by omega, show (q.length : Int) ≤ q.length + 1 by omega]
        refine hrec (R, q, (k : Int) :: junk, id, l, ver) _ _ ?_ ?_ ?_ ?_
        · simp
        · exact ⟨hold, by simpa using hw, hO, hid, by simp; omega, hls, hlb, by simp; omega, hI'⟩
        · simp [sysX, hver]
        · rfl
      · rw [decide_eq_false hin, decide_eq_false_iff_not] at hpos
        generalize idxA (fun x => decide (x = (k : Int))) l 0 = ix at hix hpos
        have hins := fun bx => ev_Insert k bx R id l (by omega) hO
        have hI' := hI.visit (x := k) (q' := q) (q2 := q ++ statesV vs[k] f []) (V' := fun y => y ∈ insI k l) hS (fun y => by rw [insI_mem]; exact or_comm) (fun y => by simp [or_comm]) (fun y => by
          rw [List.mem_append, statesV_eq, insF_mem]
          unfold sucS
          rw [List.getD_eq_getElem?_getD]
          simp [hk])
        have hnl := insI_len_new hin
        have hsrt := insI_sorted (k : Int) hls
        obtain ⟨r1, r2, r3⟩ := insR_keepRow (n := (k : Int)) (k := m.rw.length + 1) (show m.rw.length + 1 ≤ R.length by omega) hid
        have hO1 := insR_ok (k : Int) hO
        have hg1 := insR_grow R id l (k : Int)
        generalize hR1 : (insR R id l k).1 = R1 at hins r1 r2 hO1 hg1
        generalize (insR R id l k).2 = id1 at hins r3 hO1
        have hnd := Val.nodes_mem (List.getElem_mem hk)
        have hst := fun bx => ev_RStates exL vs.length vs[k].nodes vs[k] (Nat.le_refl _) (by omega) f hsh (hok _ (List.getElem_mem hk)) bx ⟨R1, 0, []⟩ (by simp; omega) (fun h => absurd rfl h)
        obtain ⟨s1, s2, s3⟩ := stV_keepRow vs[k] f ⟨R1, 0, []⟩ R1.length (Nat.le_refl _) (fun h => absurd rfl h)
        obtain ⟨e2, hO2, e4⟩ := stV_l vs[k] f ⟨R1, 0, []⟩
        have hR2 := stV_grow vs[k] f ⟨R1, 0, []⟩
        have hO2 := hO2 (fun h => absurd rfl h)
        simp only at e2 hR2 e4 s1 s2
        rw [e2] at hO2 s3 e4
        simp [show lsA 0 ([] : List Int) = A.nils from rfl] at hst e4
        rw [e2] at hst
        generalize (stV vs[k] f ⟨R1, 0, []⟩).R = R2 at hst s1 s2 hR2 hO2
        generalize (stV vs[k] f ⟨R1, 0, []⟩).id = id2 at hst hO2
        clear e2 s3
        generalize statesV vs[k] f [] = l2 at hst hO2 e4 hI'
        have hw2 : R2[m.rw.length]? = some ⟨3, ints (q ++ (k : Int) :: junk)⟩ := by rw [s1 _ (by omega), r1 _ (by omega), hw]
        have happ := fun bx => app_front (bx := bx) hw2 (rfl : q.length + (junk.length + 1) = _) hO2 (by omega) (by omega)
        have hins0 : (insI (k : Int) l).length ≠ 0 := by omega
        have hrow1 := hO1 hins0
        have hid1 : id1 < R1.length := (List.getElem?_eq_some_iff.1 hrow1).1
        have hO3 : OkL (R2.set m.rw.length ⟨3, ints ((q ++ l2) ++ ((k : Int) :: junk).drop l2.length)⟩) id1 (insI k l) := fun _ => by
          rw [List.getElem?_set_ne (by omega), s1 _ hid1]; exact hrow1
        have hold3 : ∀ i, i < m.rw.length → (R2.set m.rw.length ⟨3, ints ((q ++ l2) ++ ((k : Int) :: junk).drop l2.length)⟩)[i]? = m.rw[i]? := fun i hi => by
          rw [List.getElem?_set_ne (by omega), s1 _ (by omega), r1 _ (by omega), hold _ hi]
        have hw3 : (R2.set m.rw.length ⟨3, ints ((q ++ l2) ++ ((k : Int) :: junk).drop l2.length)⟩)[m.rw.length]? = some ⟨3, ints ((q ++ l2) ++ ((k : Int) :: junk).drop l2.length)⟩ := by
          rw [List.getElem?_set_self (by omega)]
        have hg3 := (hg1.trans hR2).trans (grow_set R2 m.rw.length ((q ++ l2) ++ ((k : Int) :: junk).drop l2.length))
        generalize R2.set m.rw.length ⟨3, ints ((q ++ l2) ++ ((k : Int) :: junk).drop l2.length)⟩ = R3 at happ hO3 hold3 hw3 hg3
        have her3 := her R3 hg3
        have hcl := lsA_closed2 hO3
        have hlen3 : m.rw.length < R3.length := (List.getElem?_eq_some_iff.1 hw3).1
        have hb2 : ∀ y, y ∈ insI (k : Int) l → 0 ≤ y ∧ y < vs.length := fun y hy => by
          rcases (insI_mem _ y _).1 hy with h | h
          · subst h; exact hx
          · exact hlb y h
        have hll2 := sorted_len _ 0 vs.length hsrt hb2
        have h3 : (k + 1) * 3 ≤ vs.length * 3 := by omega
        simp [sysX] at her3
        simp [round, Tryz.f77, a77, reg77, loop77, draw77, dok77, hwl, hwg, hat, w1, w2, hv1, hver, hix, show ix < 0 by omega, sysX, her3, hcl, show (q.length : Int) < q.length + 1 by omega, show (0 : Int) < q.length + 1 by omega, show (q.length : Int) ≤ q.length + 1 by omega, hins, hk, h3, hst, happ, hlen3, -appendA_eq]
        refine hrec (R3, q ++ l2, ((k : Int) :: junk).drop l2.length, id1, insI k l, (q ++ l2).length + (((k : Int) :: junk).drop l2.length).length) _ _ ?_ ?_ ?_ ?_
        · simp [hnl]; omega
        · exact ⟨hold3, hw3, hO3, fun _ => r3, rfl, hsrt, hb2, by simp [hnl]; omega, hI'⟩
        · simp [sysX]
        · rfl
set_option maxHeartbeats 8000000 in
theorem ev_ROrdered (f : Fun) (vs : List Val) (T : List Bool) (fl : Bool) (hTl : T.length = vs.length) (hsh : shapedF f = true) (hf : f.nodes ≤ 1000000) (hok : ∀ v ∈ vs, okV exL vs.length v f = true) (hb : Val.nodesL vs ≤ 100000) (hn : vs.length ≤ 1000) (hs : ∀ v ∈ vs, slimV v) (m : Mem) :
    evCall C0 78 [.agg (sysX f (.isl false vs.length (Val.cellsL vs))), .isl fl (keptA T vs.length).length (ints (keptA T vs.length))] m =
      some (.ret (.agg (sysX f (.isl false (partL f vs (toA T vs.length) (keptA T vs.length)).length (Val.cellsL (partL f vs (toA T vs.length) (keptA T vs.length)))))), m) := by
  rw [evCall_body C0 (C0_ext _ (by decide)) (by rw [C0_P]; exact Tryz.func78) rfl (by rw [C0_ann]; rfl) (by rw [C0_ann]; rfl) (by decide) (by simp [Tryz.f78])]
  have hK : ∀ x, x ∈ keptA T vs.length → 0 ≤ x ∧ x < vs.length := fun x hx => by
    obtain ⟨k, h1, _, rfl⟩ := (keptA_mem _ _ _).1 hx
    omega
  have hKl : (keptA T vs.length).length ≤ vs.length := keptA_len _ _
  have hKs : (keptA T vs.length).Pairwise (· < ·) := keptA_sorted _ _
  have hall := toW_all T vs.length
  generalize keptA T vs.length = K at hK hKl hKs hall ⊢
  have hall := hall K.length (Nat.le_refl _)
  have n1 : (vs.length : Int) * 8 ≤ 70368744177664 := by omega
  have n2 : (vs.length : Int) ≤ 70368744177664 := by omega
  have hlenN := Val.length_nodesL vs
  simp [Tryz.f78, a78, reg78, loop78, draw78, dok78, sysX, n1, n2, ints_zero]
  refine loop_in (fun i : Nat => ⟨[(1, .isl fl K.length (ints K)), (2, .ptr m.bx.length 0), (4, .ptr (m.bx.length + 1) 0), (5, .sl m.rw.length vs.length 0 vs.length), (15, .isl fl K.length (ints K)), (16, .int .i64 K.length), (17, .int .i64 i)],
      ⟨m.bx ++ [sysX f (.isl false vs.length (Val.cellsL vs)), [.int .i64 0, .int .i64 0, .nils, .nils]], m.rw ++ [⟨3, ints (toW vs.length K i)⟩]⟩⟩)
    (fun _ => some (.ret (.agg (sysX f (.isl false (partL f vs (toA T vs.length) K).length (Val.cellsL (partL f vs (toA T vs.length) K))))), m)) (fun i => K.length - i) (fun i => i ≤ K.length) 0 ?_ ?_ ?_ ?_ ?_
  · simp [toW_zero, sysX, ints_rep]
  · simp [sysX]
  · omega
  · intro x; simp [Tryz.f78, a78, reg78, loop78, draw78, dok78]
  · intro i hi hrec
    have htl := toW_len vs.length K i
    by_cases hlt : i < K.length
    · have w2 : IntKind.i64.wrap (i + 1) = i + 1 := wrap_id _ (by omega)
      have hat := ints_at hlt
      have hx := hK _ (List.getElem_mem hlt)
      have hset := toW_set (n := vs.length) hKs hlt hx.1
      obtain ⟨k, hk⟩ : ∃ k : Nat, K[i] = k := ⟨K[i].toNat, by omega⟩
      rw [hk] at hat hx hset
      have hkl : k < vs.length := by omega
      have hse := ints_set (l := toW vs.length K i) (k := k) (by omega) (i : Int)
      rw [show ((k : Int)).toNat = k by omega] at hset
      rw [hset] at hse
      simp [round, Tryz.f78, a78, reg78, loop78, draw78, dok78, hlt, w2, hat, hkl, htl, setCells, hse, endRound_R, show i + 1 ≤ K.length by omega, show k + 1 ≤ vs.length by omega]
      refine hrec (i + 1) _ _ ?_ ?_ ?_ ?_
      · omega
      · omega
      · simp [sysX]
      · simp [sysX]
    · clear hrec
      have hie : i = K.length := by omega
      subst hie
      rw [hall]
      have htA : (toA T vs.length).length = vs.length := by rw [← toI_all, toI_len]
      generalize toA T vs.length = to at htA ⊢
      simp [round, Tryz.f78, a78, reg78, loop78, draw78, dok78]
      refine loop_in (fun i : Nat => ⟨[(2, .ptr m.bx.length 0), (4, .ptr (m.bx.length + 1) 0), (5, .sl m.rw.length vs.length 0 vs.length), (8, .ptr (m.bx.length + 2) 0), (30, .isl fl K.length (ints K)), (31, .int .i64 K.length), (32, .int .i64 i)],
          ⟨m.bx ++ [sysX f (.isl false vs.length (Val.cellsL vs)), [.int .i64 0, .int .i64 0, .nils, .nils], sysX f (xA (m.rw.length + 1) (partL f vs to (K.take i)))], m.rw ++ (⟨3, ints to⟩ :: xR (partL f vs to (K.take i)))⟩⟩)
        (fun _ => some (.ret (.agg (sysX f (.isl false (partL f vs to K).length (Val.cellsL (partL f vs to K))))), m)) (fun i => K.length - i) (fun i => i ≤ K.length) 0 ?_ ?_ ?_ ?_ ?_
      · simp [partL, xA, xR, sysX]
      · simp [sysX]
      · omega
      · intro x; simp [Tryz.f78, a78, reg78, loop78, draw78, dok78]
      · intro i hi hrec
        by_cases hlt : i < K.length
        · have w2 : IntKind.i64.wrap (i + 1) = i + 1 := wrap_id _ (by omega)
          have hat := ints_at hlt
          have hx := hK _ (List.getElem_mem hlt)
          have hps := partL_succ (f := f) (vs := vs) (to := to) hlt
          obtain ⟨k, hk⟩ : ∃ k : Nat, K[i] = k := ⟨K[i].toNat, by omega⟩
          rw [hk] at hat hx hps
          have hkl : k < vs.length := by omega
          have hgv : vs.getD ((k : Int)).toNat zeroV = vs[k] := by rw [List.getD_eq_getElem?_getD]; simp [hkl]
          rw [hgv] at hps
          have h3 : (k + 1) * 3 ≤ vs.length * 3 := by omega
          have hnd := Val.nodes_mem (List.getElem_mem hkl)
          have he := fun (M : List (List A)) (R : List Row) => ev_RMapR m.rw.length to vs.length (by omega) vs[k].nodes vs[k] (Nat.le_refl _) (by omega) (hs _ (List.getElem_mem hkl)) f hsh (hok _ (List.getElem_mem hkl)) ⟨M, m.rw ++ ⟨3, ints to⟩ :: R⟩ (by simp)
          rw [htA] at he
          have hpl : (partL f vs to (K.take i)).length = i := by simp [partL]; omega
          simp at he
          generalize partL f vs to (K.take i) = xs at hps hpl ⊢
          cases xs with
          | nil =>
            simp [round, Tryz.f78, a78, reg78, loop78, draw78, dok78, hlt, w2, hat, hkl, h3, he, xA, xR, sysX, endRound_R, show i + 1 ≤ K.length by omega]
            refine hrec (i + 1) _ _ ?_ ?_ ?_ ?_
            · omega
            · omega
            · rw [hps]; simp [xA, xR, sysX, Val.cellsL]
            · simp [sysX]
          | cons b q =>
            have hql : q.length + 1 = i := by simpa using hpl
            simp [round, Tryz.f78, a78, reg78, loop78, draw78, dok78, hlt, w2, hat, hkl, h3, he, xA, xR, sysX, endRound_R, show i + 1 ≤ K.length by omega, show (q.length + 1 + 1) * 56 ≤ 70368744177664 by omega, show q.length + 1 + 1 ≤ 70368744177664 by omega]
            refine hrec (i + 1) _ _ ?_ ?_ ?_ ?_
            · omega
            · omega
            · rw [hps]; simp [xA, xR, sysX, Val.cellsL, Val.cellsL_append]
            · simp [sysX]
        · clear hrec
          have hie : i = K.length := by omega
          subst hie
          rw [List.take_of_length_le (Nat.le_refl _)]
          generalize partL f vs to K = xs
          cases xs with
          | nil => simp [round, Tryz.f78, a78, reg78, loop78, draw78, dok78, xA, xR, sysX, Val.cellsL]
          | cons a r =>
            have hall : List.take ((r.length + 1) * 3) (Val.cellsL (a :: r)) = Val.cellsL (a :: r) := List.take_of_length_le (by simp)
            simp [round, Tryz.f78, a78, reg78, loop78, draw78, dok78, xA, xR, sysX, hall]
theorem ev_RPart (f : Fun) (vs : List Val) (fr : List Int) (fl : Bool) (hsh : shapedF f = true) (hf : f.nodes ≤ 1000000) (hok : ∀ v ∈ vs, okV exL vs.length v f = true) (hb : Val.nodesL vs ≤ 100000) (hn : vs.length ≤ 1000) (hs : ∀ v ∈ vs, slimV v) (hl : fr.length ≤ 1000000) (hfr : ∀ x, x ∈ fr → 0 ≤ x ∧ x < vs.length) (m : Mem) :
    evCall C0 29 [.agg (sysX f (.isl false vs.length (Val.cellsL vs))), .isl fl fr.length (ints fr)] m =
      some (.ret (.tup [.agg (sysX f (.isl false (partL f vs (toA (rchT f vs fr) vs.length) (rchK f vs fr)).length (Val.cellsL (partL f vs (toA (rchT f vs fr) vs.length) (rchK f vs fr))))), .isl false (rchK f vs fr).length (ints (rchK f vs fr))]), m) := by
  rw [evCall_body C0 (C0_ext _ (by decide)) (by rw [C0_P]; exact Tryz.func29) rfl (by rw [C0_ann]; rfl) (by rw [C0_ann]; rfl) (by decide) (by simp [Tryz.f29])]
  have h1 := ev_RReached f vs fr fl hsh hok hb hn hl hfr
  have h2 := ev_ROrdered f vs (rchT f vs fr) false (rchL_length _ _ _) hsh hf hok hb hn hs
  rw [show keptA (rchT f vs fr) vs.length = rchK f vs fr from rfl] at h2
  simp [sysX] at h1 h2
  simp [Tryz.f29, a29, reg29, sysX, h1, h2]
mutual
theorem map_congr {ex : Fun → List Val → List Int → Bool} {n : Int} {t t' : Int → Val} (ht : ∀ x, 0 ≤ x → x < n → t x = t' x) : ∀ (v : Val) (f : Fun), okV ex n v f = true → mapV t v f = mapV t' v f
  | .mk k l w, f, h => by
    rw [okV, Bool.and_eq_true, Bool.and_eq_true] at h
    have hl := mapL_congr ht l (argF f k) 0 h.2
    rw [mapV, mapV, hl]
    by_cases h0 : f.kind = 0
    · rw [if_pos h0, if_pos h0]
      have hh := h.1.1
      unfold headL at hh
      simp [h0] at hh
      exact ht k (by omega) (by omega)
    · rw [if_neg h0, if_neg h0]
theorem mapL_congr {ex : Fun → List Val → List Int → Bool} {n : Int} {t t' : Int → Val} (ht : ∀ x, 0 ≤ x → x < n → t x = t' x) : ∀ (l : List Val) (g : Nat → Fun) (i : Nat), okL ex n l g i = true → mapL t l g i = mapL t' l g i
  | [], g, i, _ => by rw [mapL, mapL]
  | v :: r, g, i, h => by
    rw [okL, Bool.and_eq_true] at h
    rw [mapL, mapL, map_congr ht v _ h.1, mapL_congr ht r _ _ h.2]
end
theorem map_id {n : Int} {v : Val} {f : Fun} (hf : shapedF f = true) (h : okV exN n v f = true) : mapV idV v f = v := by
  have h1 := norm_map n v f hf (ok_loose n v f h)
  rw [norm_id n v f h] at h1
  exact (Option.some.inj h1).symm
def fsum (F : Val → Bool) : List (Val × Int) → Int
  | [] => 0
  | p :: r => (if F p.1 then p.2 else 0) + fsum F r
theorem fsum_ins (F : Val → Bool) (a : Val) (w : Int) : ∀ o : List (Val × Int), fsum F (insP a w o) = fsum F o + (if F a then w else 0)
  | [] => by simp [insP, fsum]
  | x :: r => by
    rw [insP]
    split
    · rename_i h
      rw [cmpV_zero] at h
      subst h
      simp only [fsum]
      split <;> omega
    · split
      · simp only [fsum]; omega
      · simp only [fsum, fsum_ins F a w r]; omega
theorem fsum_merge (F : Val → Bool) : ∀ l o : List (Val × Int), fsum F (mergeF o l) = fsum F l + fsum F o
  | [], o => by simp [mergeF, fsum]
  | p :: r, o => by
    rw [show mergeF o (p :: r) = mergeF (insP p.1 p.2 o) r from rfl, fsum_merge F r, fsum_ins, fsum]
    omega
theorem wtP_map (φ : Val → Val) (u : Val) : ∀ l : List (Val × Int), wtP u (l.map fun p => (φ p.1, p.2)) = fsum (fun x => decide (cmpV (φ x) u = 0)) l
  | [] => rfl
  | p :: r => by
    rw [List.map_cons, wtP, fsum, wtP_map φ u r]
    simp
theorem merge_twice (φ : Val → Val) (l : List (Val × Int)) : mergeF [] ((mergeF [] l).map fun p => (φ p.1, p.2)) = mergeF [] (l.map fun p => (φ p.1, p.2)) :=
  lists_eq (mergeF_sorted _ _ List.Pairwise.nil) (mergeF_sorted _ _ List.Pairwise.nil)
    (fun v => by
      rw [mergeF_has, mergeF_has]
      simp only [List.not_mem_nil, false_and, exists_false, or_false, List.mem_map]
      constructor
      · rintro ⟨_, ⟨p, hp, rfl⟩, rfl⟩
        obtain ⟨q, hq, he⟩ := (mergeF_has p.1 l []).1 ⟨p, hp, rfl⟩ |>.resolve_right (by rintro ⟨_, h, _⟩; cases h)
        exact ⟨_, ⟨q, hq, rfl⟩, by simp only [he]⟩
      · rintro ⟨_, ⟨p, hp, rfl⟩, rfl⟩
        obtain ⟨q, hq, he⟩ := (mergeF_has p.1 l []).2 (.inl ⟨p, hp, rfl⟩)
        exact ⟨_, ⟨q, hq, rfl⟩, by simp only [he]⟩)
    (fun v => by
      rw [wtP_merge, wtP_merge, wtP_map, wtP_map, fsum_merge]
      simp [fsum, wtP])
theorem ins_scale (g : Int) (u : Val) (w : Int) : ∀ o : List (Val × Int), insP u (g * w) (o.map fun p => (p.1, g * p.2)) = (insP u w o).map fun p => (p.1, g * p.2)
  | [] => by simp [insP]
  | x :: r => by
    rw [List.map_cons, insP, insP]
    simp only
    split
    · simp [Int.mul_add]
    · split
      · simp
      · rw [ins_scale g u w r]; simp
theorem merge_scale (g : Int) : ∀ l o : List (Val × Int), mergeF (o.map fun p => (p.1, g * p.2)) (l.map fun p => (p.1, g * p.2)) = (mergeF o l).map fun p => (p.1, g * p.2)
  | [], o => rfl
  | p :: r, o => by
    rw [List.map_cons, show mergeF o (p :: r) = mergeF (insP p.1 p.2 o) r from rfl, ← merge_scale g r]
    show mergeF (insP p.1 (g * p.2) (o.map fun p => (p.1, g * p.2))) _ = _
    rw [ins_scale]
theorem gcd_scale (g : Nat) : ∀ (l : List Int) (a : Nat), gcdF (g * a) (l.map fun w => (g : Int) * w) = g * gcdF a l
  | [], a => rfl
  | w :: r, a => by
    have : ((g : Int) * w).natAbs = g * w.natAbs := by rw [Int.natAbs_mul]; rfl
    show gcdF (Nat.gcd (g * a) ((g : Int) * w).natAbs) _ = g * gcdF (Nat.gcd a w.natAbs) r
    rw [this, Nat.gcd_mul_left, gcd_scale g r]
theorem div_scale {g : Nat} (hg : 0 < g) (l : List Int) : divG (l.map fun w => (g : Int) * w) = divG l := by
  unfold divG
  rw [List.map_map]
  have h : gcdN (l.map fun w => (g : Int) * w) = g * gcdN l := by
    have := gcd_scale g l 0
    rwa [Nat.mul_zero] at this
  rw [h]
  apply List.map_congr_left
  intro w _
  show ((g : Int) * w).tdiv ((g * gcdN l : Nat) : Int) = _
  rw [Int.natCast_mul]
  exact Int.mul_tdiv_mul_of_pos _ _ (by omega)
theorem zip_map_fst (φ : Val → Val) : ∀ (xs : List Val) (w : List Int), (xs.map φ).zip w = (xs.zip w).map fun p => (φ p.1, p.2)
  | [], w => by simp
  | x :: r, [] => by simp
  | x :: r, k :: q => by simp [zip_map_fst φ r q]
theorem zip_fst_snd : ∀ l : List (Val × Int), (l.map (·.1)).zip (l.map (·.2)) = l
  | [] => rfl
  | p :: r => by simp [zip_fst_snd r]
theorem wsOf_map (φ : Val → Val) (kind : Int) (xs : List Val) (w : List Int) : wsOf kind (xs.map φ) w = wsOf kind xs w := by
  unfold wsOf
  split
  · rfl
  · simp
theorem merge_map (φ : Val → Val) {kind : Int} {xs : List Val} {w : List Int} (hk : setsK kind = true) (hw : wtd kind = true → w.length = xs.length ∧ ∀ x, x ∈ w → 1 ≤ x) (h7 : kind = 7 → 0 < xs.length) :
    mergeV kind 0 ((mergeV kind 0 xs w).args.map φ) (mergeV kind 0 xs w).ws = mergeV kind 0 (xs.map φ) w := by
  have hR : mergeP kind (xs.map φ) w = mergeF [] ((mergeP kind xs w).map fun p => (φ p.1, p.2)) := by
    unfold mergeP
    rw [wsOf_map, zip_map_fst, merge_twice]
  have hwl : wtd kind = true → (xs.zip (wsOf kind xs w)).map (·.2) = w := fun h => by
    have : wsOf kind xs w = w := by unfold wsOf; rw [if_pos h]
    rw [this]
    exact zip_snd_map (hw h).1
  have hpos : wtd kind = true → ∀ p, p ∈ mergeP kind xs w → 1 ≤ p.2 := fun h => mergeF_pos _ _ (fun p hp => (hw h).2 _ (by rw [← hwl h]; exact List.mem_map_of_mem hp)) (fun p hp => by cases hp)
  cases hwt : wtd kind
  · have h5 : kind = 5 := by unfold setsK at hk; rw [hwt, Bool.or_false] at hk; simpa using hk
    have hz : ∀ p, p ∈ mergeP kind xs w → p.2 = 0 := fun p hp => by
      have h0 : ∀ l o : List (Val × Int), (∀ p, p ∈ l → p.2 = 0) → (∀ p, p ∈ o → p.2 = 0) → ∀ p, p ∈ mergeF o l → p.2 = 0 := by
        have hi : ∀ (u : Val) (o : List (Val × Int)), (∀ p, p ∈ o → p.2 = 0) → ∀ p, p ∈ insP u 0 o → p.2 = 0 := by
          intro u o
          induction o with
          | nil => intro _ p hp; rw [insP, List.mem_singleton] at hp; rw [hp]
          | cons x r ih =>
            intro ho p hp
            rw [insP] at hp
            split at hp
            · rcases List.mem_cons.1 hp with rfl | hp
              · have := ho x List.mem_cons_self; simp [this]
              · exact ho p (List.mem_cons_of_mem _ hp)
            · split at hp
              · rcases List.mem_cons.1 hp with rfl | hp
                · rfl
                · exact ho p hp
              · rcases List.mem_cons.1 hp with rfl | hp
                · exact ho _ List.mem_cons_self
                · exact ih (fun q hq => ho q (List.mem_cons_of_mem _ hq)) p hp
        intro l
        induction l with
        | nil => intro o _ ho p hp; exact ho p hp
        | cons x r ih =>
          intro o hl ho p hp
          have hx := hl x List.mem_cons_self
          refine ih (insP x.1 x.2 o) (fun q hq => hl q (List.mem_cons_of_mem _ hq)) ?_ p hp
          rw [hx]
          exact hi x.1 o ho
      refine h0 _ _ (fun q hq => ?_) (fun q hq => by cases hq) p hp
      have := (zip_fst hq).2
      unfold wsOf at this
      rw [hwt] at this
      simp at this
      exact this.2.symm
    have hL : mergeP kind ((mergeV kind 0 xs w).args.map φ) (mergeV kind 0 xs w).ws = mergeF [] ((mergeP kind xs w).map fun p => (φ p.1, p.2)) := by
      show mergeF [] ((((mergeP kind xs w).map (·.1)).map φ).zip (wsOf kind (((mergeP kind xs w).map (·.1)).map φ) _)) = _
      rw [wsOf_map, zip_map_fst]
      congr 2
      have : ∀ (q : List Int), wsOf kind ((mergeP kind xs w).map (·.1)) q = (mergeP kind xs w).map (·.2) := fun q => by
        unfold wsOf
        rw [hwt]
        simp only [Bool.false_eq_true, if_false, List.map_map]
        apply List.map_congr_left
        intro p hp
        rw [hz p hp]
        rfl
      rw [this, zip_fst_snd]
    show Val.mk 0 ((mergeP kind ((mergeV kind 0 xs w).args.map φ) (mergeV kind 0 xs w).ws).map (·.1)) _ = Val.mk 0 ((mergeP kind (xs.map φ) w).map (·.1)) _
    rw [hL, ← hR]
  · by_cases h7' : kind = 7
    · have hg : 0 < gcdN ((mergeP kind xs w).map (·.2)) := by
        refine gcdN_pos (fun h => ?_) fun x hx => by
          obtain ⟨p, hp, rfl⟩ := List.mem_map.1 hx
          exact hpos hwt p hp
        have h1 := h7 h7'
        have h2 : mergeP kind xs w ≠ [] := mergeF_ne _ _ (.inr fun h => by
          have := congrArg List.length h
          rw [List.length_zip] at this
          have hws : wsOf kind xs w = w := by unfold wsOf; rw [if_pos hwt]
          rw [hws, (hw hwt).1] at this
          simp at this
          rw [this] at h1
          simp at h1)
        exact h2 (List.map_eq_nil_iff.1 h)
      generalize hgv : gcdN ((mergeP kind xs w).map (·.2)) = g at hg
      have hdv : ∀ p, p ∈ mergeP kind xs w → (g : Int) * p.2.tdiv g = p.2 := fun p hp => by
        have h1 := (gcdF_dvd ((mergeP kind xs w).map (·.2)) 0).2 _ (List.mem_map_of_mem hp)
        rw [show gcdF 0 ((mergeP kind xs w).map (·.2)) = g from hgv] at h1
        have h2 := hpos hwt p hp
        obtain ⟨c, hc⟩ := h1
        have h3 : p.2 = (g : Int) * (c : Int) := by
          have : p.2 = (p.2.natAbs : Int) := by omega
          rw [this, hc, Int.natCast_mul]
        rw [h3, Int.mul_tdiv_cancel_left _ (by omega)]
      have hws : (mergeV kind 0 xs w).ws = (mergeP kind xs w).map fun p => p.2.tdiv g := by
        show (if kind = 7 then divG ((mergeP kind xs w).map (·.2)) else _) = _
        rw [if_pos h7']
        unfold divG
        rw [hgv, List.map_map]
        rfl
      generalize hQ : ((mergeP kind xs w).map fun p => (p.1, p.2.tdiv g)) = Q
      have hPQ : mergeP kind xs w = Q.map fun p => (p.1, (g : Int) * p.2) := by
        rw [← hQ, List.map_map]
        conv => lhs; rw [← List.map_id (mergeP kind xs w)]
        apply List.map_congr_left
        intro p hp
        simp only [Function.comp_apply, hdv p hp]
        rfl
      have hL : mergeP kind ((mergeV kind 0 xs w).args.map φ) (mergeV kind 0 xs w).ws = mergeF [] (Q.map fun p => (φ p.1, p.2)) := by
        show mergeF [] ((((mergeP kind xs w).map (·.1)).map φ).zip (wsOf kind (((mergeP kind xs w).map (·.1)).map φ) _)) = _
        rw [wsOf_map, zip_map_fst, hws]
        congr 2
        have : wsOf kind ((mergeP kind xs w).map (·.1)) ((mergeP kind xs w).map fun p => p.2.tdiv g) = (mergeP kind xs w).map fun p => p.2.tdiv g := by unfold wsOf; rw [if_pos hwt]
        rw [this]
        have h1 : (mergeP kind xs w).map (·.1) = Q.map (·.1) := by rw [← hQ, List.map_map]; rfl
        have h2 : ((mergeP kind xs w).map fun p => p.2.tdiv g) = Q.map (·.2) := by rw [← hQ, List.map_map]; rfl
        rw [h1, h2, zip_fst_snd]
      have hRR : mergeP kind (xs.map φ) w = (mergeF [] (Q.map fun p => (φ p.1, p.2))).map fun p => (p.1, (g : Int) * p.2) := by
        rw [hR, hPQ, ← merge_scale, List.map_map, List.map_map]
        rfl
      show Val.mk 0 ((mergeP kind ((mergeV kind 0 xs w).args.map φ) (mergeV kind 0 xs w).ws).map (·.1)) (if kind = 7 then divG ((mergeP kind ((mergeV kind 0 xs w).args.map φ) (mergeV kind 0 xs w).ws).map (·.2)) else _) = Val.mk 0 ((mergeP kind (xs.map φ) w).map (·.1)) (if kind = 7 then divG ((mergeP kind (xs.map φ) w).map (·.2)) else _)
      rw [if_pos h7', if_pos h7', hL, hRR, List.map_map, List.map_map]
      congr 1
      rw [← div_scale hg ((mergeF [] (Q.map fun p => (φ p.1, p.2))).map (·.2)), List.map_map]
      rfl
    · have hws : (mergeV kind 0 xs w).ws = (mergeP kind xs w).map (·.2) := by
        show (if kind = 7 then _ else if wtd kind then _ else _) = _
        rw [if_neg h7', if_pos hwt]
      have hL : mergeP kind ((mergeV kind 0 xs w).args.map φ) (mergeV kind 0 xs w).ws = mergeF [] ((mergeP kind xs w).map fun p => (φ p.1, p.2)) := by
        show mergeF [] ((((mergeP kind xs w).map (·.1)).map φ).zip (wsOf kind (((mergeP kind xs w).map (·.1)).map φ) _)) = _
        rw [wsOf_map, zip_map_fst, hws]
        congr 2
        have : wsOf kind ((mergeP kind xs w).map (·.1)) ((mergeP kind xs w).map (·.2)) = (mergeP kind xs w).map (·.2) := by unfold wsOf; rw [if_pos hwt]
        rw [this, zip_fst_snd]
      show Val.mk 0 ((mergeP kind ((mergeV kind 0 xs w).args.map φ) (mergeV kind 0 xs w).ws).map (·.1)) (if kind = 7 then _ else if wtd kind then (mergeP kind ((mergeV kind 0 xs w).args.map φ) (mergeV kind 0 xs w).ws).map (·.2) else _) = Val.mk 0 ((mergeP kind (xs.map φ) w).map (·.1)) (if kind = 7 then _ else if wtd kind then (mergeP kind (xs.map φ) w).map (·.2) else _)
      rw [if_neg h7', if_neg h7', if_pos hwt, if_pos hwt, hL, ← hR]
theorem mapL_const {t : Int → Val} {c : Fun} : ∀ (l : List Val) (g : Nat → Fun) (i : Nat), (∀ j, g j = c) → mapL t l g i = l.map fun x => mapV t x c
  | [], g, i, _ => by rw [mapL]; rfl
  | v :: r, g, i, h => by rw [mapL, h, mapL_const r g (i + 1) h, List.map_cons]
mutual
theorem map_map {ex : Fun → List Val → List Int → Bool} {n : Int} (to : Int → Int) (t : Int → Val) : ∀ (v : Val) (f : Fun), shapedF f = true → okV ex n v f = true → mapV t (mapV (fun x => idV (to x)) v f) f = mapV (fun x => t (to x)) v f
  | .mk k l w, f, hf, h => by
    rw [okV, Bool.and_eq_true, Bool.and_eq_true] at h
    obtain ⟨⟨hh, _⟩, hl⟩ := h
    rw [mapV, mapV]
    by_cases h0 : f.kind = 0
    · rw [if_pos h0, if_pos h0]
      unfold idV
      rw [mapV, if_pos h0]
    rw [if_neg h0, if_neg h0]
    by_cases h1 : f.kind = 1
    · rw [if_pos h1, if_pos h1, mapV, if_neg h0, if_pos h1]
    rw [if_neg h1, if_neg h1]
    have ih := mapL_map to t l (argF f k) 0 (argF_shaped hf h0 h1 hh) hl
    by_cases h2 : f.kind = 2
    · rw [if_pos h2, if_pos h2, mapV, if_neg h0, if_neg h1, if_pos h2]
      have : argF f 0 = argF f k := by funext i; unfold argF; rw [if_pos h2, if_pos h2]
      rw [this, ih]
    rw [if_neg h2, if_neg h2]
    by_cases h3 : f.kind = 3
    · rw [if_pos h3, if_pos h3, mapV, if_neg h0, if_neg h1, if_neg h2, if_pos h3, ih]
    rw [if_neg h3, if_neg h3]
    have hg : ∀ N j, argF f N j = f.args.getD 0 fun0 := fun N j => by unfold argF; rw [if_neg h2, if_neg h3]
    by_cases h4 : f.kind = 4
    · rw [if_pos h4, if_pos h4, mapV, if_neg h0, if_neg h1, if_neg h2, if_neg h3, if_pos h4]
      have : argF f 0 = argF f k := by funext i; rw [hg, hg]
      rw [this, ih]
    rw [if_neg h4, if_neg h4]
    have hset : setsK f.kind = true := by
      have := shaped_kind hf
      unfold setsK wtd
      simp
      omega
    have hss := (head_sets hset).1 hh
    have hml := mapL_length (fun x => idV (to x)) l (argF f k) 0
    have hw : wtd f.kind = true → w.length = (mapL (fun x => idV (to x)) l (argF f k) 0).length ∧ ∀ x, x ∈ w → 1 ≤ x := fun h => by
      rw [if_pos h] at hss
      have h2 := (weighI_iff w 0 (by omega)).1 hss.2.1
      exact ⟨by omega, h2.1⟩
    have h7 : f.kind = 7 → 0 < (mapL (fun x => idV (to x)) l (argF f k) 0).length := fun h => by
      have hw7 : wtd f.kind = true := by rw [h]; rfl
      rw [if_pos hw7] at hss
      have := hss.2.2.2
      omega
    have key := merge_map (fun x => mapV t x (f.args.getD 0 fun0)) hset hw h7
    rw [← mapL_const (mapL (fun x => idV (to x)) l (argF f k) 0) _ 0 (hg k), ih] at key
    rw [← key, mapV_eq, if_neg h0, if_neg h1, if_neg h2, if_neg h3, if_neg h4, mapL_const _ _ _ (hg _)]
theorem mapL_map {ex : Fun → List Val → List Int → Bool} {n : Int} (to : Int → Int) (t : Int → Val) : ∀ (l : List Val) (g : Nat → Fun) (i : Nat), (∀ j, j < l.length → shapedF (g (i + j)) = true) → okL ex n l g i = true → mapL t (mapL (fun x => idV (to x)) l g i) g i = mapL (fun x => t (to x)) l g i
  | [], g, i, _, _ => by rw [mapL, mapL, mapL]
  | v :: r, g, i, hs, h => by
    rw [okL, Bool.and_eq_true] at h
    rw [mapL, mapL, mapL, map_map to t v (g i) (hs 0 (by simp)) h.1, mapL_map to t r g (i + 1) (fun j hj => by have := hs (j + 1) (by simpa using hj); rwa [show i + (j + 1) = i + 1 + j by omega] at this) h.2]
end
def shiftL (n : Nat) (by_ : Int) : List Int := (List.range n).map fun i : Nat => (i : Int) + by_
theorem shiftL_length (n : Nat) (b : Int) : (shiftL n b).length = n := by simp [shiftL]
theorem shiftL_succ (n : Nat) (b : Int) : shiftL (n + 1) b = shiftL n b ++ [(n : Int) + b] := by simp [shiftL, List.range_succ]
theorem ev_Shift (n : Nat) (b : Int) (hn : n ≤ 1000000) (h0 : 0 ≤ b) (h1 : b ≤ 1000000) (m : Mem) : evCall C0 31 [.int .i64 n, .int .i64 b] m = some (.ret (.isl false (shiftL n b).length (ints (shiftL n b))), m) := by
  rw [evCall_body C0 (C0_ext _ (by decide)) (by rw [C0_P]; exact Tryz.func31) rfl (by rw [C0_ann]; rfl) (by rw [C0_ann]; rfl) (by decide) (by simp [Tryz.f31])]
  simp [Tryz.f31, a31, reg31, loop31]
  refine loop_in (fun i : Nat => ⟨[(1, .int .i64 b), (5, lsA m.rw.length (shiftL i b)), (7, .int .i64 n), (8, .int .i64 i)], ⟨m.bx, m.rw ++ lsRow (shiftL i b)⟩⟩)
    (fun i => some (.ret (.isl false (shiftL n b).length (ints (shiftL n b))), m)) (fun i => n - i) (fun i => i ≤ n) 0 ?_ ?_ ?_ ?_ ?_
  · simp [lsA, lsRow, shiftL]
  · simp
  · omega
  · intro x; simp [Tryz.f31, a31, reg31, loop31]
  · intro i hi hrec
    by_cases hlt : i < n
    · have w1 : IntKind.i64.wrap (i + 1) = i + 1 := wrap_id _ (by omega)
      have w2 : IntKind.i64.wrap (i + b) = i + b := wrap_id _ (by omega)
      have hlt' : (i : Int) < n := by omega
      have hl := shiftL_length i b
      cases hc : shiftL i b with
      | nil =>
        simp [round, Tryz.f31, a31, reg31, loop31, hlt', w1, w2, lsA, lsRow, endRound_rw]
        refine hrec (i + 1) _ _ ?_ ?_ ?_ ?_
        · omega
        · omega
        · rw [shiftL_succ, hc]; simp [lsA, lsRow, ints_cons]
        · simp
      | cons x r =>
        rw [hc, List.length_cons] at hl
        simp [round, Tryz.f31, a31, reg31, loop31, hlt', w1, w2, lsA, lsRow, endRound_rwR, show (r.length + 1 + 1) * 8 ≤ 70368744177664 by omega, show r.length + 1 + 1 ≤ 70368744177664 by omega]
        refine hrec (i + 1) _ _ ?_ ?_ ?_ ?_
        · omega
        · omega
        · rw [shiftL_succ, hc]; simp [lsA, lsRow, ints_cons, ints_append]
        · simp
    · clear hrec
      have hl' : ¬ (i : Int) < n := by omega
      have : i = n := by omega
      subst this
      cases hc : shiftL i b with
      | nil => simp [round, Tryz.f31, a31, reg31, loop31, hl', lsA, lsRow]
      | cons x r =>
        simp [round, Tryz.f31, a31, reg31, loop31, hl', lsA, lsRow]
        rw [List.take_of_length_le (by simp)]
theorem toV_shift {n : Nat} {b x : Int} (h0 : 0 ≤ x) (h1 : x < n) : toV (shiftL n b) x = shV b x := by
  unfold toV shV
  obtain ⟨k, rfl⟩ : ∃ k : Nat, x = k := ⟨x.toNat, by omega⟩
  have hk : k < n := by omega
  rw [List.getD_eq_getElem?_getD]
  simp [shiftL, hk]
set_option maxHeartbeats 4000000 in
theorem ev_RSum (f g : Fun) (vs ws : List Val) (hf : f.nodes ≤ 1000000) (hb : Val.nodesL vs ≤ 1000000) (hs : ∀ v ∈ vs, slimV v) (hsh : shapedF g = true) (hok : ∀ v ∈ ws, okV exL ws.length v g = true) (hb2 : Val.nodesL ws ≤ 1000000) (hs2 : ∀ v ∈ ws, slimV v) (m : Mem) :
    evCall C0 25 [.agg (sysX f (.isl false vs.length (Val.cellsL vs))), .agg (sysX g (.isl false ws.length (Val.cellsL ws)))] m = some (.ret (.agg (sysX f (.isl false (sumL g vs ws).length (Val.cellsL (sumL g vs ws))))), m) := by
  rw [evCall_body C0 (C0_ext _ (by decide)) (by rw [C0_P]; exact Tryz.func25) rfl (by rw [C0_ann]; rfl) (by rw [C0_ann]; rfl) (by decide) (by simp [Tryz.f25])]
  have hlen := Val.length_nodesL vs
  have hlen2 := Val.length_nodesL ws
  have hcp := ev_SCopyK f vs hf hb hs
  have hsf := ev_Shift ws.length vs.length (by omega) (by omega) (by omega)
  rw [shiftL_length] at hsf
  have hmap : ∀ v ∈ ws, mapV (toV (shiftL ws.length vs.length)) v g = mapV (shV vs.length) v g := fun v hv => map_congr (fun x h0 h1 => toV_shift h0 h1) v g (hok v hv)
  simp [sysX] at hcp
  simp [Tryz.f25, a25, reg25, loop25, draw25, dok25, sysX, hcp]
  refine loop_in (fun x : Nat × List Val => ⟨[(2, .ptr m.bx.length 0), (3, .ptr (m.bx.length + 1) 0), (4, .ptr (m.bx.length + 2) 0), (5, .ptr (m.bx.length + 3) 0), (11, .isl false ws.length (Val.cellsL ws)), (12, .int .i64 ws.length), (13, .int .i64 x.1)],
      ⟨m.bx ++ [sysX f (.isl false vs.length (Val.cellsL vs)), sysX g (.isl false ws.length (Val.cellsL ws)), [.int .i64 0, .int .i64 0, .nils, .nils], sysX f (xA m.rw.length x.2)], m.rw ++ xR x.2⟩⟩)
    (fun x => some (.ret (.agg (sysX f (.isl false (sumL g vs ws).length (Val.cellsL (sumL g vs ws))))), m)) (fun x => ws.length - x.1)
    (fun x => x.1 ≤ ws.length ∧ x.2.length = vs.length + x.1 ∧ sumL g vs ws = x.2 ++ (ws.drop x.1).map fun v => mapV (shV vs.length) v g) (0, vs) ?_ ?_ ?_ ?_ ?_
  · simp [sysX]
  · simp [sysX]
  · exact ⟨by simp, by simp, by simp [sumL]⟩
  · intro x; simp [Tryz.f25, a25, reg25, loop25, draw25, dok25]
  · rintro ⟨i, xs⟩ ⟨hi, hxl, htot⟩ hrec
    simp only at hi hxl htot
    by_cases hlt : i < ws.length
    · have w2 : IntKind.i64.wrap (i + 1) = i + 1 := wrap_id _ (by omega)
      have h3 : (i + 1) * 3 ≤ ws.length * 3 := by omega
      have hmem := List.getElem_mem hlt
      have hnd := Val.nodes_mem hmem
      have he := ev_RMap (shiftL ws.length vs.length) false ws.length (by rw [shiftL_length]; omega) ws[i].nodes ws[i] (Nat.le_refl _) (by omega) (hs2 _ hmem) g hsh (hok _ hmem)
      rw [hmap _ hmem, shiftL_length] at he
      have hin : sumL g vs ws = (xs ++ [mapV (shV vs.length) ws[i] g]) ++ (ws.drop (i + 1)).map fun v => mapV (shV vs.length) v g := by
        rw [htot, List.drop_eq_getElem_cons hlt, List.map_cons, List.append_assoc]; rfl
      simp at he
      cases xs with
      | nil =>
        simp [round, Tryz.f25, a25, reg25, loop25, draw25, dok25, hlt, w2, h3, hsf, he, xA, xR, sysX, endRound_R0]
        refine hrec (i + 1, [mapV (shV vs.length) ws[i] g]) _ _ ?_ ?_ ?_ ?_
        · simp; omega
        · exact ⟨by simp only; omega, by simp at hxl ⊢; omega, by rw [hin]; rfl⟩
        · simp [xA, xR, sysX, Val.cellsL]
        · simp [sysX]
      | cons a r =>
        have hr : r.length + 1 = vs.length + i := by simpa using hxl
        simp [round, Tryz.f25, a25, reg25, loop25, draw25, dok25, hlt, w2, h3, hsf, he, xA, xR, sysX, endRound_R, show (r.length + 1 + 1) * 56 ≤ 70368744177664 by omega, show r.length + 1 + 1 ≤ 70368744177664 by omega]
        refine hrec (i + 1, a :: r ++ [mapV (shV vs.length) ws[i] g]) _ _ ?_ ?_ ?_ ?_
        · simp; omega
        · exact ⟨by simp only; omega, by simp; omega, by rw [hin]⟩
        · simp [xA, xR, sysX, Val.cellsL, Val.cellsL_append]
        · simp [sysX]
    · clear hrec
      rw [List.drop_eq_nil_of_le (by omega), List.map_nil, List.append_nil] at htot
      rw [htot]
      cases xs with
      | nil => simp [round, Tryz.f25, a25, reg25, loop25, draw25, dok25, hlt, xA, xR, sysX, Val.cellsL]
      | cons a r =>
        have hall : List.take ((r.length + 1) * 3) (Val.cellsL (a :: r)) = Val.cellsL (a :: r) := List.take_of_length_le (by simp)
        simp [round, Tryz.f25, a25, reg25, loop25, draw25, dok25, hlt, xA, xR, sysX, hall]
theorem ev_same_sysM (f : Fun) (ws : List Val) (hf : f.nodes ≤ 1000000) (h1 : Val.nodesL ws ≤ 1000000) (h2 : ∀ v ∈ ws, slimV v) (m : Mem) : evCall C0 16 [.agg (sysX f (.isl false ws.length (Val.cellsL ws))), .agg (sysX f (.isl false ws.length (Val.cellsL ws)))] m = some (.ret (.bool true), m) := by
  have := ev_SRSame f f ws ws hf h1 h2 m
  rw [sameS_refl] at this
  exact this
theorem partL_sub {f : Fun} {vs : List Val} {to K : List Int} (hb : Val.nodesL vs ≤ 1500) (hs : ∀ v ∈ vs, slimV v) (hK : ∀ x, x ∈ K → 0 ≤ x ∧ x < vs.length) (hl : K.length ≤ 100) : Val.nodesL (partL f vs to K) ≤ 1000000 ∧ ∀ v ∈ partL f vs to K, slimV v := by
  have h1 : ∀ u ∈ partL f vs to K, u.nodes ≤ 1500 ∧ slimV u := fun u hu => by
    unfold partL at hu
    obtain ⟨k, hk, rfl⟩ := List.mem_map.1 hu
    have h0 := hK k hk
    have hlt : k.toNat < vs.length := by omega
    have hm := List.getElem_mem hlt
    have hg : vs.getD k.toNat zeroV = vs[k.toNat] := by
      rw [List.getD_eq_getElem?_getD, List.getElem?_eq_getElem hlt]; rfl
    rw [hg]
    have hn := Val.nodes_mem hm
    have := map_nodes (toV_sm to) vs[k.toNat] f (hs _ hm) (by omega)
    exact ⟨by omega, this.2⟩
  refine ⟨?_, fun v hv => (h1 v hv).2⟩
  have h2 := nodesL_bound (k := 1500) (bs := partL f vs to K) fun v hv => (h1 v hv).1
  have h4 : (partL f vs to K).length ≤ 100 := by simpa [partL] using hl
  have := Nat.mul_le_mul_right 1500 h4
  omega
set_option maxHeartbeats 8000000 in
theorem ev_SystemMakes (f g : Fun) (vs ws : List Val) (fr : List Int) (m : Mem) : evCall C0 6 [.agg (sysX f (.isl false vs.length (Val.cellsL vs))), .agg (sysX g (.isl false ws.length (Val.cellsL ws))), .isl false fr.length (ints fr)] m = some (.ret (.bool true), m) := by
  rw [evCall_body C0 (C0_ext _ (by decide)) (by rw [C0_P]; exact Tryz.func6) rfl (by rw [C0_ann]; rfl) (by rw [C0_ann]; rfl) (by decide) (by simp [Tryz.f6])]
  have hfw := ev_lfew2 f g vs ws
  simp at hfw
  cases hc : fewS f vs 1500
  · simp [Tryz.f6, a6, reg6, hfw, hc, ev_awake]
  cases hc2 : fewS g ws 1500
  · simp [Tryz.f6, a6, reg6, hfw, hc, hc2, ev_awake]
  by_cases hl1 : 200 < fr.length
  · simp [Tryz.f6, a6, reg6, hfw, hc, hc2, show (200 : Int) < fr.length by omega, ev_awake]
  have hl1' : ¬ (200 : Int) < fr.length := by omega
  obtain ⟨k1, k2, k3, k4⟩ := fewS_spec hc
  have k5 := few_slimS k4
  obtain ⟨j1, j2, j3, j4⟩ := fewS_spec hc2
  have j5 := few_slimS j4
  have e1 := ev_Sum f g vs ws (by omega) (by omega) (by omega) (by omega) k5 j5
  have e2 := fun m => ev_fault2 f g vs ws (by omega) (by omega) (by omega) (by omega) k5 j5 m true
  have e4 := ev_Part f vs fr false (by omega) (by omega) k5 (by omega)
  have e5 := fun m => ev_fault1 f vs (by omega) (by omega) k5 m true
  have e6 := ev_SRSame00
  have e7 := ev_SameIntsN false []
  have e8 := ev_SRSt f vs fr false (by omega)
  simp at e2 e5 e7 e8
  unfold pSum at e1
  unfold pPart at e4
  have hP : ∀ (P : Prop), (okS f vs = false → P) → (okS f vs = true → fr.any (fun y => decide (y < 0) || decide ((vs.length : Int) ≤ y)) = true → P) → (okS f vs = true → fr.any (fun y => decide (y < 0) || decide ((vs.length : Int) ≤ y)) = false → P) → P := fun P h1 h2 h3 => by
    cases hok : okS f vs
    · exact h1 hok
    · cases ha : fr.any (fun y => decide (y < 0) || decide ((vs.length : Int) ≤ y))
      · exact h3 hok ha
      · exact h2 hok ha
  have hS : ∀ (P : Prop), (bothE f g vs ws ≠ 0 → P) → (bothE f g vs ws = 0 → okS f (sumL g vs ws) = false → P) → (bothE f g vs ws = 0 → okS f (sumL g vs ws) = true → P) → P := fun P h1 h2 h3 => by
    by_cases hb0 : bothE f g vs ws = 0
    · cases hok : okS f (sumL g vs ws)
      · exact h2 hb0 hok
      · exact h3 hb0 hok
    · exact h1 hb0
  have hsg : bothE f g vs ws = 0 → okS g ws = true := fun h0 => by
    unfold bothE at h0
    split at h0
    · rename_i h; rw [Bool.and_eq_true] at h; exact h.2
    · cases h0
  have hsm := sumL_small (g := g) (k := 1500) (l := 1500) (by omega) (by omega) (by omega) k5 j5
  apply hP
  · intro hok
    have hb0 : bothE f g vs ws = 30 := by unfold bothE; simp [hok]
    simp [hok, sysO, zeroS] at e4
    simp [hb0, sysO, zeroS] at e1 e2
    simp [chkE, hok] at e5
    simp [Tryz.f6, a6, reg6, hfw, hc, hc2, hl1', e1, e2, e4, e5, e6, e7, ev_awake]
  · intro hok hany
    simp [chkE, hok] at e5
    simp only [hok, hany, if_true] at e4
    simp [sysO, zeroS] at e4
    simp only [hany] at e8
    simp at e8
    apply hS
    · intro hb0
      simp [hb0, sysO, zeroS] at e1 e2
      simp [Tryz.f6, a6, reg6, hfw, hc, hc2, hl1', hb0, e1, e2, e4, e5, e6, e7, e8, ev_awake]
    · intro hb0 hk
      obtain ⟨hsh, hn, hokw⟩ := okS_spec (hsg hb0)
      have e9 := ev_RSum f g vs ws (by omega) (by omega) k5 hsh hokw (by omega) j5
      have e10 := ev_SRIs f (sumL g vs ws) (by omega) (by omega) hsm.2
      simp at e9 e10
      simp [hb0, hk, sysO, zeroS] at e1 e2
      simp [Tryz.f6, a6, reg6, hfw, hc, hc2, hl1', hb0, hk, e1, e2, e4, e5, e6, e7, e8, e9, e10, ev_awake]
    · intro hb0 hk
      obtain ⟨hsh, hn, hokw⟩ := okS_spec (hsg hb0)
      have e9 := ev_RSum f g vs ws (by omega) (by omega) k5 hsh hokw (by omega) j5
      have e10 := ev_SRIs f (sumL g vs ws) (by omega) (by omega) hsm.2
      have e11 := ev_same_sysM f (sumL g vs ws) (by omega) (by omega) hsm.2
      simp at e9 e10 e11
      simp [hb0, hk, sysO] at e1 e2
      simp [Tryz.f6, a6, reg6, hfw, hc, hc2, hl1', hb0, hk, e1, e2, e4, e5, e6, e7, e8, e9, e10, e11, ev_awake]
  · intro hok hany
    simp [chkE, hok] at e5
    obtain ⟨psh, pn, pok⟩ := okS_spec hok
    have hfr := any_bound hany
    have hRP := ev_RPart f vs fr false psh (by omega) pok (by omega) (by omega) k5 (by omega) hfr
    have hKb : ∀ x, x ∈ rchK f vs fr → 0 ≤ x ∧ x < vs.length := fun x hx => by
      obtain ⟨k, h1, _, rfl⟩ := (keptA_mem _ _ _).1 hx
      omega
    have hKl : (rchK f vs fr).length ≤ vs.length := keptA_len _ _
    have hsb := partL_sub (f := f) (to := toA (rchT f vs fr) vs.length) k3 k5 hKb (by omega)
    have e12 := ev_same_sysM f (partL f vs (toA (rchT f vs fr) vs.length) (rchK f vs fr)) (by omega) hsb.1 hsb.2
    have e13 := ev_SameInts false false (rchK f vs fr) (rchK f vs fr) (by omega)
    simp only [hok, hany, if_true] at e4
    simp [sysO] at e4 e12 e13 hRP
    simp only [hany] at e8
    simp at e8
    apply hS
    · intro hb0
      simp [hb0, sysO, zeroS] at e1 e2
      simp [Tryz.f6, a6, reg6, hfw, hc, hc2, hl1', hb0, e1, e2, e4, e5, e6, e8, hRP, e12, e13, ev_awake]
    · intro hb0 hk
      obtain ⟨hsh, hn, hokw⟩ := okS_spec (hsg hb0)
      have e9 := ev_RSum f g vs ws (by omega) (by omega) k5 hsh hokw (by omega) j5
      have e10 := ev_SRIs f (sumL g vs ws) (by omega) (by omega) hsm.2
      simp at e9 e10
      simp [hb0, hk, sysO, zeroS] at e1 e2
      simp [Tryz.f6, a6, reg6, hfw, hc, hc2, hl1', hb0, hk, e1, e2, e4, e5, e6, e8, e9, e10, hRP, e12, e13, ev_awake]
    · intro hb0 hk
      obtain ⟨hsh, hn, hokw⟩ := okS_spec (hsg hb0)
      have e9 := ev_RSum f g vs ws (by omega) (by omega) k5 hsh hokw (by omega) j5
      have e10 := ev_SRIs f (sumL g vs ws) (by omega) (by omega) hsm.2
      have e11 := ev_same_sysM f (sumL g vs ws) (by omega) (by omega) hsm.2
      simp at e9 e10 e11
      simp [hb0, hk, sysO] at e1 e2
      simp [Tryz.f6, a6, reg6, hfw, hc, hc2, hl1', hb0, hk, e1, e2, e4, e5, e6, e8, e9, e10, e11, hRP, e12, e13, ev_awake]
theorem ev_SystemMakesR (f : Fun) (vs : List Val) (g : Fun) (ws : List Val) (fr : List Int) (m : Mem) : evCall C0 6 [.agg (sysX f (.isl false vs.length (Val.cellsL vs))), .agg (sysX g (.isl false ws.length (Val.cellsL ws))), .isl false fr.length (ints fr)] m = some (.ret (.bool true), m) := ev_SystemMakes f g vs ws fr m
end AE
end Go.Proofs.YtmfdpijmholedaaGreatDoor
/- The row of the statement SystemMakes. Printed by mkrow.py. -/
set_option linter.unusedVariables false
set_option linter.unusedSimpArgs false
namespace Go.Proofs.YtmfdpijmholedaaGreatDoor
namespace AE
open Go Go.ChangeShapes Go.WideShapes Go.ChangeAt Go.RowKit
theorem own : ownKnob Tryz.prog.godebug = none := by kernel_rfl
theorem laidOut : laidOutB Tryz.prog = true := by kernel_rfl
theorem door_met_systemMakes (os : Os) (args : Array Value) : laidMetH Tryz.prog Rows.systemMakesRow.laid ((World.laidAll Tryz.prog os Rows.systemMakesRow.laid).forCall (fun _ _ => 0) ⟨#[], args, []⟩).memory := by
  rw [MakeChecks.laidMetH_plain _ _ _ (by kernel_rfl)]
  exact laidMet_laidAll _ (by kernel_rfl) (by kernel_rfl)
set_option maxRecDepth 100000 in
theorem lifted_systemMakes (os : Os) (started : os.Started) (H : Type) (enc : TypeId × Value → H) :
    ReturnsInHanded {} Tryz.checked os 6 .any (fun w args => (Rows.systemMakesSpec.pre enc Tryz.prog Tryz.f6 [] false w args ∧ laidMetH Tryz.prog Rows.systemMakesRow.laid w) ∧ sizedMet enc Tryz.prog Tryz.f6 (OpenSpec.ofChange Rows.systemMakesSpec) false w args)
      (Rows.systemMakesSpec.post enc Tryz.prog Tryz.f6 false true false false) := by
  refine returnsInHanded_of_change_and (C := Tryz.checked) (X := fun w _ => laidMetH Tryz.prog Rows.systemMakesRow.laid w) (fun _ _ _ hh h => h.of_heap hh) own started (by kernel_rfl) Tryz.func6
    (ChangeSpec.witness_shaped (enc := enc) (C := Tryz.checked) (os := os) (X := fun w _ => laidMetH Tryz.prog Rows.systemMakesRow.laid w) false (World.laidAll Tryz.prog os Rows.systemMakesRow.laid) #[.agg #[.int .i64 0, .int .i64 0, .slice none 0 0, .slice none 0 0], .agg #[.int .i64 0, .int .i64 0, .slice none 0 0, .slice none 0 0], .slice none 0 0] 8 rfl (World.shaped_of_ZipB (by kernel_rfl) (by kernel_rfl)) (by kernel_rfl) (by kernel_rfl) (by kernel_rfl) (door_met_systemMakes os _)) ?_
  intro W base args ds gs before hval0 hW _ _ hL _
  have hW' := hW
  obtain ⟨p, q, hA0, hV, rfl, hfz, hnd⟩ := hW
  have hA : DataW.TrodAll enc Tryz.prog W 0 (fun _ => true) true Tryz.f6.params.toList args.toList ds p := hA0
  rw [Tryz.params6] at hA
  obtain ⟨v0, v1, v2, d0, d1, d2, p0, p1, p2, rfl, rfl, rfl, h0, h1, h2⟩ := trodAll_three hA
  obtain ⟨rfl, rfl⟩ := trodVars_none hV
  have k0 := h0
  have k1 := h1
  have k2 := h2
  have lt0 : ∀ x ∈ p0, x.block < W.heap.size := by obtain ⟨m, hm⟩ := k0; exact DataW.trod_lt m _ _ _ hm
  have lt1 : ∀ x ∈ p1, x.block < W.heap.size := by obtain ⟨m, hm⟩ := k1; exact DataW.trod_lt m _ _ _ hm
  have lt2 : ∀ x ∈ p2, x.block < W.heap.size := by obtain ⟨m, hm⟩ := k2; exact DataW.trod_lt m _ _ _ hm
  obtain ⟨n0, h0⟩ := h0
  obtain ⟨x0, y0, hx0⟩ := open_sys n0 n0 (Nat.le_refl _) _ _ h0
  obtain ⟨n1, h1⟩ := h1
  obtain ⟨x1, y1, hx1⟩ := open_sys n1 n1 (Nat.le_refl _) _ _ h1
  obtain ⟨a2, len2, cap2, rfl⟩ := Go.WideShapes.okWide_slice Tryz.underlying28 (hval0 2 28 v2 rfl rfl)
  obtain ⟨n2, h2⟩ := h2
  obtain ⟨x2, w2, e2, hx2⟩ := open_ks h2
  obtain rfl : Value.slice a2 len2 cap2 = w2 := by simpa [Value.cells] using e2
  have hs := sr0 (P := Tryz.prog) (gl_of_laid (laid := Rows.systemMakesRow.laid) (by kernel_rfl) (by simp [Rows.systemMakesRow]) (by simp [Rows.systemMakesRow]) hL) (tb_of_laid (laid := Rows.systemMakesRow.laid) (by kernel_rfl) (by simp [Rows.systemMakesRow]) hL)
  have hcall := (sound ok0 6 [.agg (sysX x0 (.isl false y0.length (Val.cellsL y0))), .agg (sysX x1 (.isl false y1.length (Val.cellsL y1))), .isl false x2.length (ints x2)] ⟨[], []⟩ _ (ev_SystemMakesR x0 y0 x1 y1 x2 ⟨[], []⟩)).2 W (g0 W) W [v0, v1, .slice a2 len2 cap2] (by rw [C0_P, C0_gl]; exact hs) ?_
  · rw [C0_P] at hcall
    refine Calls.mono hcall fun e W' hR => ?_
    obtain ⟨g', hs', _, hres⟩ := hR
    cases e with
    | panicked ch => exact hres.elim
    | outgrown => exact hres.elim
    | returned v =>
      have hv : v = .bool true := hres
      subst hv
      have bel := hs'.below
      exact ⟨_, rfl, _, _, _, [], _, [], hW', trodAll_mk1 (shut_bool Tryz.underlying4 _), (trodAll_cons_mk (Below.trod laidOut (by kernel_rfl) (of_decide_eq_true (by kernel_rfl)) k0 bel lt0) (trodAll_cons_mk (Below.trod laidOut (by kernel_rfl) (of_decide_eq_true (by kernel_rfl)) k1 bel lt1) (trodAll_cons_mk (Below.trod laidOut (by kernel_rfl) (of_decide_eq_true (by kernel_rfl)) k2 bel lt2) trodAll_mk0))), rfl, bel.frame _, fun h => by cases h⟩
  · exact .mk_cons (agg_of hx0 (by simp)) (.mk_cons (agg_of hx1 (by simp)) (.mk_cons hx2 VRs.mk_nil))
theorem said_systemMakes : Rows.SystemMakesSaid :=
  OpenClaim.holds_of_wide 6 Tryz.f6 rfl rfl rfl rfl rfl rfl rfl ⟨rfl, rfl, rfl, rfl, rfl⟩ rfl rfl rfl rfl rfl (by kernel_rfl) Tryz.func6 (by kernel_rfl)
    (of_decide_eq_true (by kernel_rfl)) (by unfold Func.isWrapper; first | (rw [if_pos (by decide +kernel)]; kernel_rfl) | (rw [if_neg (by decide +kernel)]; exact ⟨rfl, rfl⟩))
    (fun os started H enc _ => lifted_systemMakes os started H enc)
end AE
end Go.Proofs.YtmfdpijmholedaaGreatDoor
/- The card of the statement SystemMakes. Printed by mkrow.py. -/
set_option linter.unusedVariables false
set_option linter.unusedSimpArgs false
namespace Go.Proofs.YtmfdpijmholedaaGreatDoor
namespace AE
open Go
theorem card_systemMakes : Rows.SystemMakesCardSaid :=
  Claim7.holds_tied_plain_at .later [] [.data, .data, .data, .data, .sentinel, .sentinel, .data, .pinned] true (true, "16bfc96b6015e7c1836e6e85ac56fb9af05c80819149fea3c30a26e5d3ab28d3") true
    said_systemMakes (fun _ h => by cases h) (by kernel_rfl) (fun _ h => by cases h) systemMakes_row_tie rfl ⟨rfl, rfl⟩ (by kernel_rfl) rfl
    (fun f fn hf hfn => by
      obtain rfl : f = 6 := Option.some.inj ((show Tryz.prog.funcNamed "ectype/ectypelaw03.SystemMakes" = some 6 by kernel_rfl).symm.trans hf) |>.symm
      obtain rfl : fn = Tryz.f6 := (Option.some.inj (Tryz.func6.symm.trans hfn)).symm
      exact ⟨by kernel_rfl, fun j t ht => by
        rw [Tryz.params6] at ht
        have h3 : t = 27 ∨ t = 28 := by
          rcases j with _ | _ | _ | j
          · exact .inl (by simpa using ht.symm)
          · exact .inl (by simpa using ht.symm)
          · exact .inr ((by simpa using ht.symm))
          · simp at ht
        rcases h3 with rfl | rfl
        · exact (show Tryz.prog.wantsStandIn 27 = false by kernel_rfl)
        · exact (show Tryz.prog.wantsStandIn 28 = false by kernel_rfl)
      ⟩)
    (by kernel_rfl)
#print axioms card_systemMakes
end AE
end Go.Proofs.YtmfdpijmholedaaGreatDoor
