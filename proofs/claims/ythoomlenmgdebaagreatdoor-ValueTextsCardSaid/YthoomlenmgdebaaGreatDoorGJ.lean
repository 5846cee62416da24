/- The reference's String, Read and Parse of values; evaluated. -/
import Derived.Test.YthoomlenmgdebaaGreatDoorGI
import Derived.Test.YthoomlenmgdebaaGreatDoorGE
import Derived.Lay
import Derived.Stop.Joined
import Derived.Carry
import Derived.ChangeMaps5
import Derived.Test.YthoomlenmgdebaaGreatDoorCards
import Derived.Test.YthoomlenmgdebaaGreatDoorTie
import Derived.SevenTiedAt
set_option linter.unusedVariables false
set_option linter.unusedSimpArgs false
namespace Go.Proofs.YthoomlenmgdebaaGreatDoor
namespace AE
open Go
def sRow (l : List (List UInt8)) : List Row := if l.length = 0 then [] else [⟨9, strs l⟩]
def sA (id : Nat) (l : List (List UInt8)) : A := if l.length = 0 then .nils else .sl id l.length 0 l.length
def RTextAt (ex : Fun → List Val → List Int → Bool) (n : Int) (v : Val) : Prop := ∀ f, shapedF f = true → okV ex n v f = true → ∀ m : Mem, evCall C0 16 [.agg f.cells, .agg v.cells] m = some (.ret (.str (textV v f)), m)
theorem strs_starts (L : List (List UInt8)) : ∃ K : Nat → List (List UInt8), K 0 = [] ∧ (∀ i, i ≤ L.length → (K i).length = i) ∧ (∀ (i : Nat) (h : i < L.length), strs (K (i + 1)) = strs (K i) ++ [.str L[i]]) ∧ K L.length = L :=
  ⟨fun i => L.take i, by simp, fun i h => by simp; omega, fun i h => by dsimp only; rw [List.take_succ_eq_append_getElem h, strs_append]; rfl, by simp⟩
theorem leave_text {m : Mem} {b : List (List A)} {r : List Row} {t : List UInt8} : leave Tryz.prog false m (.ret (.str t)) ⟨m.bx ++ b, m.rw ++ r⟩ = some (.ret (.str t), m) := by simp
set_option maxHeartbeats 8000000 in
theorem rtext_step {ex : Fun → List Val → List Int → Bool} {n : Int} (hn : n ≤ 1000000) (v : Val) (hb : v.nodes ≤ 1000000) (H : ∀ u, u ∈ v.args → RTextAt ex n u) : RTextAt ex n v := by
  intro f hf hok m
  have hlen := textV_len hn v f hf hok
  rw [okV_eq, Bool.and_eq_true, Bool.and_eq_true] at hok
  obtain ⟨⟨hh, _⟩, hokl⟩ := hok
  have hr := head_range hf hn hh
  have hws := head_ws hh
  have hlna := v.length_args
  obtain ⟨hd1, hd2, hd3⟩ := head_num hh
  have hk7 : 0 ≤ f.kind ∧ f.kind ≤ 7 := by have := shaped_kind hf; omega
  rw [evCall_body C0 (C0_ext _ (by decide)) (by rw [C0_P]; exact Tryz.func16) rfl (by rw [C0_ann]; rfl) (by decide) (by simp [Tryz.f16])]
  by_cases h01 : f.kind = 0 ∨ f.kind = 1
  · have hdg := ev_Digits v.num hr.1 hr.2.1
    rw [textV_eq, if_pos h01]
    rcases h01 with h | h
    · simp [Tryz.f16, a16, reg16, loop16, draw16, dok16, h, hdg]
    · simp [Tryz.f16, a16, reg16, loop16, draw16, dok16, h, hdg]
  have hk0 : ¬ f.kind = 0 := fun h => h01 (.inl h)
  have hk1 : ¬ f.kind = 1 := fun h => h01 (.inr h)
  have hpb : partsB f v = true := by
    rw [head_split hf, Bool.and_eq_true, Bool.and_eq_true] at hh
    exact hh.1.1
  have hp := ev_Parts f v hf (by omega)
  obtain ⟨hPl, hPa⟩ := parts_at hf hpb
  simp [hpb] at hp
  generalize partsL f v = P at hp hPl hPa
  have hs4 := argF_shaped hf hk0 hk1 hh
  have hsum := textL_len hn v.args (argF f v.num) 0 hs4 hokl
  have hvn := v.nodes_eq
  have htl := textL_length v.args (argF f v.num) 0
  have hta := fun j h => textL_at v.args (argF f v.num) 0 j h
  rw [textV_eq, if_neg h01]
  obtain ⟨K, hK0, hKl, hKs, hKe⟩ := strs_starts (textL v.args (argF f v.num) 0)
  have hKx : ∀ (i : Nat) (h : i < v.args.length), strs (K (i + 1)) = strs (K i) ++ [.str (textV v.args[i] (argF f v.num i))] := fun i h => by
    rw [hKs i (by omega), hta i h, Nat.zero_add]
  clear hKs hta
  rw [htl] at hKl hKe
  generalize textL v.args (argF f v.num) 0 = L at *
  simp [Tryz.f16, a16, reg16, loop16, draw16, dok16, hk0, hk1, hp]
  refine loop_in (fun i : Nat => ⟨[(2, .ptr m.bx.length 0), (3, .ptr (m.bx.length + 1) 0), (5, .isl false P.length (Fun.cellsL P)), (7, sA m.rw.length (K i)), (28, .isl false v.args.length (Val.cellsL v.args)), (29, .int .i64 v.args.length), (30, .int .i64 i)],
      ⟨m.bx ++ [f.cells, v.cells], m.rw ++ sRow (K i)⟩⟩)
    (fun i => some (.ret (.str (aroundV f.kind v.num L v.ws)), m)) (fun i => v.args.length - i) (fun i => i ≤ v.args.length) 0 ?_ ?_ ?_ ?_ ?_
  · simp [sA, sRow, hK0]
  · simp
  · simp
  · intro x; simp [Tryz.f16, a16, reg16, loop16, draw16, dok16]
  · intro i hi hrec
    have hil := hKl i hi
    by_cases hlt : i < v.args.length
    · have w2 : IntKind.i64.wrap (i + 1) = i + 1 := wrap_id _ (by omega)
      have h3 : (i + 1) * 3 ≤ v.args.length * 3 := by omega
      have hiP : i < P.length := by omega
      have hgi := hPa i hiP
      have hgs := hs4 i hlt
      have o0 := okL_mem hokl i hlt
      rw [Nat.zero_add] at hgs o0
      have he := H v.args[i] (List.getElem_mem hlt) (argF f v.num i) hgs o0
      have b3 := Val.at_cellsL v.args i hlt
      have b1 := Fun.at_cellsL P i hiP
      rw [hgi] at b1
      have hkx := hKx i hlt
      have hil2 := hKl (i + 1) (by omega)
      simp at he b1 b3
      cases hKi : K i with
      | nil =>
        rw [hKi] at hil hkx
        have hi0 : i = 0 := by simpa using hil.symm
        subst hi0
        simp at b1 b3
        simp [round, Tryz.f16, a16, reg16, loop16, draw16, dok16, hlt, w2, h3, hiP, show 3 ≤ P.length * 3 by omega, show 3 ≤ v.args.length * 3 by omega, b1, b3, he, sA, sRow, endRound_J0]
        refine hrec 1 _ _ ?_ ?_ ?_ ?_
        · omega
        · omega
        · simp [sA, sRow, hil2, hkx]
        · simp
      | cons y r =>
        rw [hKi] at hil hkx
        have hr1 : r.length + 1 = i := by simpa using hil
        simp [round, Tryz.f16, a16, reg16, loop16, draw16, dok16, hlt, w2, h3, hiP, show (i + 1) * 3 ≤ P.length * 3 by omega, b1, b3, he, sA, sRow, show (r.length + 1 + 1) * 16 ≤ 70368744177664 by omega, show r.length + 1 + 1 ≤ 70368744177664 by omega, endRound_J]
        refine hrec (i + 1) _ _ ?_ ?_ ?_ ?_
        · omega
        · omega
        · simp [sA, sRow, hil2, hkx, hr1]
        · simp
    · clear hrec
      obtain rfl : i = v.args.length := by omega
      rw [hKe]
      by_cases hz0 : v.args.length = 0
      · have hL0 : L = [] := List.eq_nil_of_length_eq_zero (by omega)
        have ha0 : v.args = [] := List.eq_nil_of_length_eq_zero hz0
        have hss := head_sets (n := n) (f := f) (k := v.num) (m := v.args.length) (w := v.ws)
        have hk56 : f.kind = 5 ∨ f.kind = 6 := by
          have hk := shaped_kind hf
          have hn4 := (shaped_num hf).2.2.1
          unfold headL at hh
          simp only [Bool.and_eq_true] at hh
          obtain ⟨⟨q1, q2⟩, q3⟩ := hh
          rw [hz0] at q1 q3
          rw [if_neg h01] at q1
          by_cases h2 : f.kind = 2
          · rw [if_pos h2, decide_eq_true_eq] at q1; omega
          rw [if_neg h2] at q1
          by_cases h3 : f.kind = 3
          · rw [if_pos h3] at q1; simp at q1
          rw [if_neg h3] at q1
          by_cases h4 : f.kind = 4
          · rw [if_pos h4] at q1; simp at q1; have := hn4 h4; omega
          by_cases h7 : f.kind = 7
          · rw [if_pos (by rw [h7]; rfl)] at q3
            simp [h7] at q3
          omega
        have hw0 : v.ws = [] := by
          cases h : wtd f.kind
          · exact hd2 h
          · exact List.eq_nil_of_length_eq_zero (by rw [hws.2 h]; exact hz0)
        have hn0 : v.num = 0 := hd1 hk0 hk1 (by omega)
        have he := ev_AroundN f.kind v.num hk56
        have har : aroundV f.kind v.num L v.ws = [123, 125] := by
          rw [hL0, hw0]
          unfold aroundV
          rcases hk56 with h | h <;> rw [h] <;> rfl
        rw [har]
        simp at he
        simp [round, Tryz.f16, a16, reg16, loop16, draw16, dok16, sA, sRow, hL0, ha0, hw0, he, hz0]
      · have hL1 : 0 < L.length := by omega
        have hsb : sumL L + 20 * L.length ≤ 100000000 := by omega
        obtain ⟨r', hr', he⟩ := ev_AroundR f.kind v L m.rw.length (m.bx ++ [f.cells, v.cells]) (m.rw ++ [⟨9, strs L⟩]) (by simp) hL1 (by omega) hk7.2 (fun h => by have := hr.2.2; rw [if_neg hk0, if_neg hk1, if_pos h] at this; omega) hd2 (fun h => by rw [hws.2 h]; omega) (fun x hx => by have := hws.1 x hx; omega) hsb
        rw [htl] at he
        simp at he
        simp [round, Tryz.f16, a16, reg16, loop16, draw16, dok16, sA, sRow, htl, hz0, he]
theorem digN_take (s : List UInt8) : ∀ b, b ∈ s.take (digN s) → isDig b = true := fun b h => take_dig h
theorem tok_ok : ∀ (N : Nat) (s : List UInt8) (l : List (List UInt8)), s.length ≤ N → s.length ≤ 1000000 → tok s = some l → TkOk l ∧ l.length ≤ s.length
  | 0, s, l, hN, hs, h => by
    have : s = [] := List.eq_nil_of_length_eq_zero (by omega)
    subst this
    rw [tok_nil] at h
    cases h
    exact ⟨fun t ht => (by cases ht), by simp⟩
  | N + 1, [], l, hN, hs, h => by
    rw [tok_nil] at h
    cases h
    exact ⟨fun t ht => (by cases ht), by simp⟩
  | N + 1, c :: r, l, hN, hs, h => by
    rw [tok_cons] at h
    simp only [List.length_cons] at hN hs ⊢
    split at h
    · obtain ⟨h1, h2⟩ := tok_ok N r l (by omega) (by omega) h
      exact ⟨h1, by omega⟩
    · split at h
      · rename_i hd
        obtain ⟨q, h1, rfl⟩ := Option.map_eq_some_iff.1 h
        obtain ⟨h2, h3⟩ := tok_ok N _ q (by simp; omega) (by simp; omega) h1
        refine ⟨fun t ht => ?_, by simp at h3 ⊢; omega⟩
        rcases List.mem_cons.1 ht with rfl | ht
        · refine ⟨c, _, rfl, by simp; omega, fun _ b hb => ?_⟩
          rcases List.mem_cons.1 hb with rfl | hb
          · exact hd
          · exact digN_take r b hb
        · exact h2 t ht
      · rename_i hd
        split at h
        · obtain ⟨q, h1, rfl⟩ := Option.map_eq_some_iff.1 h
          obtain ⟨h2, h3⟩ := tok_ok N r q (by omega) (by omega) h1
          refine ⟨fun t ht => ?_, by simp; omega⟩
          rcases List.mem_cons.1 ht with rfl | ht
          · exact ⟨c, [], rfl, by simp, fun hc => absurd hc hd⟩
          · exact h2 t ht
        · cases h
set_option maxHeartbeats 4000000 in
theorem ev_RRead (f : Fun) (hf : shapedF f = true) (s : List UInt8) (hs : Sm s) (m : Mem) :
    evCall C0 46 [.agg f.cells, .str s] m = some (.ret (.tup [.agg (readT f s).1.cells, .bool (readT f s).2]), m) := by
  rw [evCall_body C0 (C0_ext _ (by decide)) (by rw [C0_P]; exact Tryz.func46) rfl (by rw [C0_ann]; rfl) (by decide) (by simp [Tryz.f46])]
  have hs' : s.length ≤ 1000000 := hs
  have e1 := ev_Tokens s hs'
  unfold readT
  cases ht : tok s with
  | none =>
    rw [ht] at e1
    simp [marks, tokG] at e1
    simp [Tryz.f46, a46, reg46, draw46, dok46, e1]
  | some l =>
    rw [ht] at e1
    obtain ⟨h1, h2⟩ := tok_ok s.length s l (Nat.le_refl _) hs' ht
    simp [marks, tokG] at e1
    have e2 := ev_rvalue (m.bx.length + 2) f.nodes f (Nat.le_refl _) hf (l, false) ⟨m.bx ++ [f.cells, [.int .i64 0, .nils, .nils], rd (l, false)], m.rw⟩ h1 (by simp only; omega) (by simp)
    simp only
    generalize (valR f.nodes f (l, false)).1 = v at *
    generalize (valR f.nodes f (l, false)).2 = q at *
    obtain ⟨ql, qb⟩ := q
    simp at e2
    cases qb with
    | true => simp [Tryz.f46, a46, reg46, draw46, dok46, e1, e2]
    | false =>
      by_cases h0 : ql.length = 0
      · have h00 : ql = [] := List.eq_nil_of_length_eq_zero h0
        subst h00
        simp [Tryz.f46, a46, reg46, draw46, dok46, e1, e2]
      · have h00 : ¬ ql = [] := fun h => h0 (by rw [h]; rfl)
        simp [Tryz.f46, a46, reg46, draw46, dok46, e1, e2, h0, h00]
set_option maxHeartbeats 4000000 in
theorem ev_RVParse (f : Fun) (hf : shapedF f = true) (n : Int) (hn0 : 0 ≤ n) (hn1 : n ≤ 1000000) (s : List UInt8) (hs : Sm s) (m : Mem) :
    evCall C0 18 [.agg f.cells, .int .i64 n, .str s] m = some (.ret (.tup [.agg (refV f n s).1.cells, .int .i64 (refV f n s).2]), m) := by
  rw [evCall_body C0 (C0_ext _ (by decide)) (by rw [C0_P]; exact Tryz.func18) rfl (by rw [C0_ann]; rfl) (by decide) (by simp [Tryz.f18])]
  unfold refV
  by_cases hb : 40000 < s.length
  · have hb' : (40000 : Int) < s.length := by omega
    simp [Tryz.f18, a18, reg18, hb, hb', zeroV]
  have hb' : ¬ (40000 : Int) < s.length := by omega
  have e1 := ev_RRead f hf s hs
  obtain ⟨r1, r2⟩ := read_same hf hs
  have hc := readV_cost (f := f) hs
  cases hok : (readT f s).2 with
  | false =>
    rw [hok] at e1
    simp at e1
    simp [Tryz.f18, a18, reg18, hb, hb', e1, zeroV]
  | true =>
    have h3 : (readV f s).2 = true := by rw [← r1]; exact hok
    rw [← r2 h3] at hc
    have e2 := ev_RNormal f n (readT f s).1 hf hn0 hn1 (by omega) hc.2
    rw [hok] at e1
    simp at e1 e2
    simp [Tryz.f18, a18, reg18, hb, hb', e1, e2]
theorem ev_RText {ex : Fun → List Val → List Int → Bool} {n : Int} (hn : n ≤ 1000000) (N : Nat) : ∀ (v : Val), v.nodes ≤ N → v.nodes ≤ 1000000 → RTextAt ex n v := by
  induction N with
  | zero => intro v hN; have := v.nodes_pos; omega
  | succ N ih =>
  intro v hN hb
  exact rtext_step hn v hb fun u hu => ih u (by have := Val.nodes_arg hu; omega) (by have := Val.nodes_arg hu; omega)
def fillZ (i : Nat) : List A := List.replicate i (.int .u8 32) ++ List.replicate (40001 - i) (.int .u8 0)
def blanks : List UInt8 := List.replicate 40001 32
theorem blanks_length : blanks.length = 40001 := List.length_replicate
theorem fillZ_length (i : Nat) (h : i ≤ 40001) : (fillZ i).length = 40001 := by unfold fillZ; rw [List.length_append, List.length_replicate, List.length_replicate]; omega
theorem fillZ_set (i : Nat) (h : i < 40001) : setCells (fillZ i) i [.int .u8 32] = fillZ (i + 1) := by
  unfold setCells fillZ
  have e : 40001 - i = (40001 - (i + 1)) + 1 := by omega
  rw [e, List.replicate_succ]
  have h1 : (List.replicate i (A.int .u8 32)).length = i := List.length_replicate
  rw [show i + [A.int .u8 32].length = i + 1 from rfl]
  rw [List.take_left' h1]
  rw [List.drop_append, h1, List.drop_of_length_le (by rw [h1]; omega), List.nil_append, show i + 1 - i = 1 by omega, List.drop_one, List.tail_cons]
  rw [List.replicate_succ' (n := i)]
theorem fillZ_closed (i nb nr : Nat) : (fillZ i).all (closed nb nr) = true := by
  unfold fillZ
  rw [List.all_append, List.all_replicate, List.all_replicate]
  simp
theorem bytesS_rep (n : Nat) : bytesS (List.replicate n (.int .u8 32)) = some (List.replicate n 32) := by
  induction n with
  | zero => rfl
  | succ n ih => rw [List.replicate_succ, bytesS, ih]; rfl
theorem fillZ_all : fillZ 40001 = List.replicate 40001 (.int .u8 32) := by unfold fillZ; rw [Nat.sub_self, List.replicate_zero, List.append_nil]
theorem make_blank (bx : List (List A)) (R : List Row) : makeSliceA Tryz.prog 39 (.int .i64 40001) (.int .i64 40001) ⟨bx, R⟩ = some (.sl R.length 40001 0 40001, ⟨bx, R ++ [⟨5, fillZ 0⟩]⟩) := by
  have hf : (List.replicate 40001 [A.int .u8 0]).flatten = fillZ 0 := by
    unfold fillZ
    rw [List.replicate_zero, List.nil_append, Nat.sub_zero]
    generalize 40001 = n
    induction n with
    | zero => rfl
    | succ n ih => rw [List.replicate_succ, List.flatten_cons, ih]; rfl
  unfold makeSliceA
  simp [-List.reduceReplicate, -List.flatten_replicate_singleton, hf]
theorem str_blank (bx : List (List A)) (R : List Row) (t : TypeId) : strM Tryz.prog 39 9 (.sl R.length 40001 0 40001) ⟨bx, R ++ [⟨t, fillZ 40001⟩]⟩ = some (.str blanks) := by
  have h1 := fillZ_length 40001 (by omega)
  have h2 : bytesS ((fillZ 40001).take 40001) = some (List.replicate 40001 32) := by
    rw [List.take_of_length_le (by omega), fillZ_all, bytesS_rep]
  have h3 : (List.replicate 40001 (32 : Int)).map (fun b => UInt8.ofNat b.toNat) = blanks := by
    rw [List.map_replicate]; rfl
  unfold strM
  simp [-List.reduceReplicate, isU8, isStr, h1, h2, h3]
attribute [irreducible] fillZ blanks
theorem rNorm_small {f : Fun} {n : Int} {v : Val} (hs : slimV v) (hb : v.nodes ≤ 1000000) : (rNorm f n v).1.nodes ≤ 1000000000 ∧ slimV (rNorm f n v).1 := by
  have := rNorm_nodes (f := f) (n := n) hs (by omega)
  exact ⟨by omega, this.2⟩
set_option maxHeartbeats 8000000 in
theorem ev_ValueTexts (f : Fun) (n : Int) (v : Val) (s : List UInt8) (long : Bool) (m : Mem) : evCall C0 4 [.agg f.cells, .int .i64 n, .agg v.cells, .str s, .bool long] m = some (.ret (.bool true), m) := by
  rw [evCall_body C0 (C0_ext _ (by decide)) (by rw [C0_P]; exact Tryz.func4) rfl (by rw [C0_ann]; rfl) (by decide) (by simp [Tryz.f4])]
  have hfew := ev_vfew f true [v] (by simp)
  have haw := ev_awake
  simp [Val.cellsL] at hfew
  cases hq : (fewV v 3000 && decide (0 < leftF f 101))
  case false =>
    simp only [hq] at hfew
    simp [Tryz.f4, a4, reg4, loop4, hfew, haw]
  simp only [hq] at hfew
  by_cases hsl : 6000 < s.length
  case pos => simp [Tryz.f4, a4, reg4, loop4, hfew, haw, show (6000 : Int) < s.length by omega]
  have hsl' : ¬ (6000 : Int) < s.length := by omega
  rw [Bool.and_eq_true, decide_eq_true_eq] at hq
  obtain ⟨hv, hfl⟩ := hq
  have hvn := fewV_nodes (by omega) hv
  have hvs : slimV v := light_slim (most := 3000) (by omega) v (by unfold fewV at hv; rw [Bool.and_eq_true] at hv; exact hv.2)
  have hfn : f.nodes ≤ 1000000000 := by rw [leftF_nodes f 101 (by omega)] at hfl; omega
  have h2 := ev_vfault f n true [v] hfn (by simp) (by intro x hx; rw [List.mem_singleton] at hx; subst hx; exact ⟨by omega, hvs⟩)
  have he : (if errF f n = 0 then (if ([v].all fun v => (chkV exS n v f 2000).1) then (0 : Int) else 20) else errF f n) = errV f n v := by
    unfold errV
    simp
  rw [he] at h2
  simp [Val.cellsL] at h2
  have h3 := ev_vfault0 f n hfn
  have h5 := ev_RSame00
  have hS := ev_VString f n v hfn (by omega) hvs
  have key : ∀ q : List UInt8, Sm q → (∀ m, evCall C0 17 [.agg f.cells, .int .i64 n, .str q] m = some (.ret (.tup [.agg (pParse f n q).1.cells, .int .i64 (pParse f n q).2]), m)) ∧
      (errF f n = 0 → (∀ m, evCall C0 18 [.agg f.cells, .int .i64 n, .str q] m = some (.ret (.tup [.agg (pParse f n q).1.cells, .int .i64 (pParse f n q).2]), m)) ∧ ∀ m, evCall C0 14 [.agg (pParse f n q).1.cells, .agg (pParse f n q).1.cells] m = some (.ret (.bool true), m)) := fun q hqs => by
    refine ⟨ev_VParse f n hfn q hqs, fun e0 => ?_⟩
    have hz := errF_zero e0
    have e2 := ev_RVParse f hz.1 n hz.2.1 (by omega) q hqs
    rw [← parse_sameV e0 hqs] at e2
    refine ⟨e2, ?_⟩
    have hc : (pParse f n q).1.nodes ≤ 1000000000 ∧ slimV (pParse f n q).1 := by
      have hr := readV_cost (f := f) hqs
      have hqs' : q.length ≤ 1000000 := hqs
      have hzv : zeroV.nodes ≤ 1000000000 ∧ slimV zeroV := by rw [Val.nodes_eq, slimV_eq]; simp [zeroV, Val.nodesL, slimL]
      unfold pParse
      rw [if_pos e0]
      split
      · exact hzv
      · split
        · exact rNorm_small hr.2 (by omega)
        · exact hzv
    have e3 := ev_RSameV (pParse f n q).1 (pParse f n q).1 hc.1 hc.2
    rw [cmpV_self] at e3
    exact e3
  have hT : errV f n v = 0 → ∀ m, evCall C0 16 [.agg f.cells, .agg v.cells] m = some (.ret (.str (textV v f)), m) := fun h0 => by
    obtain ⟨e1, e2, e3⟩ := errV_zero h0
    have hz := errF_zero e1
    exact ev_RText (ex := exS) (n := n) (by omega) v.nodes v (Nat.le_refl _) (by omega) f hz.1 e2
  have hzp : ∀ q, ¬ errF f n = 0 → pParse f n q = (zeroV, errF f n) := fun q h => by unfold pParse; rw [if_neg h]
  have hve : ¬ errF f n = 0 → ¬ errV f n v = 0 := fun h h0 => h (errV_zero h0).1
  unfold pStr at hS
  cases long with
  | false =>
    obtain ⟨k1, k2⟩ := key s (by unfold Sm; omega)
    by_cases e0 : errF f n = 0
    · obtain ⟨k3, k4⟩ := k2 e0
      generalize pParse f n s = p at k1 k3 k4
      simp [e0] at h3
      simp at k1 k3 k4
      by_cases v0 : errV f n v = 0
      · have hT' := hT v0
        simp [v0] at h2 hS hT'
        simp [Tryz.f4, a4, reg4, loop4, hfew, hsl', h2, h3, hS, hT', k1, k3, k4, haw]
      · simp [v0] at h2 hS
        simp [Tryz.f4, a4, reg4, loop4, hfew, hsl', h2, h3, hS, v0, k1, k3, k4, haw]
    · have v0 := hve e0
      rw [hzp s e0] at k1
      simp [zeroV] at k1
      simp at h3
      simp [v0] at h2 hS
      simp [Tryz.f4, a4, reg4, loop4, hfew, hsl', h2, h3, hS, v0, e0, k1, h5, haw]
  | true =>
    have hlen : s.length + blanks.length ≤ 9223372036854775807 := by rw [blanks_length]; omega
    obtain ⟨k1, k2⟩ := key (s ++ blanks) (by unfold Sm; rw [List.length_append, blanks_length]; omega)
    simp [Tryz.f4, a4, reg4, loop4, hfew, hsl', make_blank]
    refine loop_in (fun i : Nat => ⟨[(1, .int .i64 n), (3, .str s), (5, .ptr m.bx.length 0), (7, .ptr (m.bx.length + 1) 0), (11, .sl m.rw.length 40001 0 40001), (34, .int .i64 40001), (35, .int .i64 i)], ⟨m.bx ++ [f.cells, v.cells], m.rw ++ [⟨5, fillZ i⟩]⟩⟩)
      (fun _ => some (.ret (.bool true), m)) (fun i => 40001 - i) (fun i => i ≤ 40001) 0 ?_ ?_ ?_ ?_ ?_
    · simp
    · simp
    · simp
    · intro x; simp [Tryz.f4, a4, reg4, loop4]
    · intro i hi hrec
      by_cases hlt : i < 40001
      · have hlt' : (i : Int) < 40001 := by omega
        have w2 : IntKind.i64.wrap (i + 1) = i + 1 := wrap_id _ (by omega)
        have h1 := fillZ_length i (by omega)
        have h2 := fillZ_set i hlt
        simp [setCells] at h2
        have h3 : i + 1 ≤ 40001 := by omega
        simp [round, Tryz.f4, a4, reg4, loop4, hlt', w2, h1, h2, h3, endRound_R, fillZ_closed]
        refine hrec (i + 1) _ _ ?_ ?_ ?_ ?_
        · omega
        · omega
        · simp
        · simp
      · clear hrec
        obtain rfl : i = 40001 := by omega
        by_cases e0 : errF f n = 0
        · obtain ⟨k3, k4⟩ := k2 e0
          generalize pParse f n (s ++ blanks) = p at k1 k3 k4
          simp [e0] at h3
          simp at k1 k3 k4
          by_cases v0 : errV f n v = 0
          · have hT' := hT v0
            simp [v0] at h2 hS hT'
            simp [round, Tryz.f4, a4, reg4, loop4, str_blank, hlen, h2, h3, hS, hT', k1, k3, k4, haw]
          · simp [v0] at h2 hS
            simp [round, Tryz.f4, a4, reg4, loop4, str_blank, hlen, h2, h3, hS, v0, k1, k3, k4, haw]
        · have v0 := hve e0
          rw [hzp _ e0] at k1
          simp [zeroV] at k1
          simp at h3
          simp [v0] at h2 hS
          simp [round, Tryz.f4, a4, reg4, loop4, str_blank, hlen, h2, h3, hS, v0, e0, k1, h5, haw]
end AE
end Go.Proofs.YthoomlenmgdebaaGreatDoor
/- The row of the statement ValueTexts. Printed by mkrow.py. -/
set_option linter.unusedVariables false
set_option linter.unusedSimpArgs false
namespace Go.Proofs.YthoomlenmgdebaaGreatDoor
namespace AE
open Go Go.ChangeShapes Go.WideShapes Go.ChangeAt Go.RowKit
theorem own : ownKnob Tryz.prog.godebug = none := by kernel_rfl
theorem laidOut : laidOutB Tryz.prog = true := by kernel_rfl
theorem door_met_valueTexts (os : Os) (args : Array Value) : laidMetH Tryz.prog Rows.valueTextsRow.laid ((World.laidAll Tryz.prog os Rows.valueTextsRow.laid).forCall (fun _ _ => 0) ⟨#[], args, []⟩).memory := by
  rw [MakeChecks.laidMetH_plain _ _ _ (by kernel_rfl)]
  exact laidMet_laidAll _ (by kernel_rfl) (by kernel_rfl)
set_option maxRecDepth 100000 in
theorem lifted_valueTexts (os : Os) (started : os.Started) (H : Type) (enc : TypeId × Value → H) :
    ReturnsInHanded {} Tryz.checked os 4 .any (fun w args => (Rows.valueTextsSpec.pre enc Tryz.prog Tryz.f4 [] false w args ∧ laidMetH Tryz.prog Rows.valueTextsRow.laid w) ∧ sizedMet enc Tryz.prog Tryz.f4 (OpenSpec.ofChange Rows.valueTextsSpec) false w args)
      (Rows.valueTextsSpec.post enc Tryz.prog Tryz.f4 false true false false) := by
  refine returnsInHanded_of_change_and (C := Tryz.checked) (X := fun w _ => laidMetH Tryz.prog Rows.valueTextsRow.laid w) (fun _ _ _ hh h => h.of_heap hh) own started (by kernel_rfl) Tryz.func4
    (ChangeSpec.witness_shaped (enc := enc) (C := Tryz.checked) (os := os) (X := fun w _ => laidMetH Tryz.prog Rows.valueTextsRow.laid w) false (World.laidAll Tryz.prog os Rows.valueTextsRow.laid) #[.agg #[.int .i64 0, .int .i64 0, .slice none 0 0], .int .i64 0, .agg #[.int .i64 0, .slice none 0 0, .slice none 0 0], .string ByteArray.empty, .bool false] 8 rfl (World.shaped_of_ZipB (by kernel_rfl) (by kernel_rfl)) (by kernel_rfl) (by kernel_rfl) (by kernel_rfl) (door_met_valueTexts os _)) ?_
  intro W base args ds gs before hval0 hW _ _ hL _
  have hW' := hW
  obtain ⟨p, q, hA0, hV, rfl, hfz, hnd⟩ := hW
  have hA : DataW.TrodAll enc Tryz.prog W 0 (fun _ => true) true Tryz.f4.params.toList args.toList ds p := hA0
  rw [Tryz.params4] at hA
  obtain ⟨v0, v1, v2, v3, v4, d0, d1, d2, d3, d4, p0, p1, p2, p3, p4, rfl, rfl, rfl, h0, h1, h2, h3, h4⟩ := trodAll_five hA
  obtain ⟨rfl, rfl⟩ := trodVars_none hV
  have k0 := h0
  have k1 := h1
  have k2 := h2
  have k3 := h3
  have k4 := h4
  have lt0 : ∀ x ∈ p0, x.block < W.heap.size := by obtain ⟨m, hm⟩ := k0; exact DataW.trod_lt m _ _ _ hm
  have lt1 : ∀ x ∈ p1, x.block < W.heap.size := by obtain ⟨m, hm⟩ := k1; exact DataW.trod_lt m _ _ _ hm
  have lt2 : ∀ x ∈ p2, x.block < W.heap.size := by obtain ⟨m, hm⟩ := k2; exact DataW.trod_lt m _ _ _ hm
  have lt3 : ∀ x ∈ p3, x.block < W.heap.size := by obtain ⟨m, hm⟩ := k3; exact DataW.trod_lt m _ _ _ hm
  have lt4 : ∀ x ∈ p4, x.block < W.heap.size := by obtain ⟨m, hm⟩ := k4; exact DataW.trod_lt m _ _ _ hm
  obtain ⟨n0, h0⟩ := h0
  obtain ⟨x0, hx0⟩ := open_fun n0 n0 (Nat.le_refl _) _ _ h0
  obtain ⟨x1, rfl, _, _, hw1⟩ := open_int Tryz.underlying3 (hval0 1 3 v1 rfl rfl) h1
  obtain ⟨n2, h2⟩ := h2
  obtain ⟨x2, hx2⟩ := open_val n2 n2 (Nat.le_refl _) _ _ h2
  obtain ⟨x3, rfl, _, _, _⟩ := Go.ChangeMaps.open_string Tryz.underlying9 (hval0 3 9 v3 rfl rfl) h3
  obtain ⟨x4, rfl, _, _⟩ := open_bool Tryz.underlying4 (hval0 4 4 v4 rfl rfl) h4
  have hs := sr0 (P := Tryz.prog) (gl_of_laid (laid := Rows.valueTextsRow.laid) (by kernel_rfl) (by simp [Rows.valueTextsRow]) (by simp [Rows.valueTextsRow]) hL) (tb_of_laid (laid := Rows.valueTextsRow.laid) (by kernel_rfl) (by simp [Rows.valueTextsRow]) hL)
  have hcall := (sound ok0 4 [.agg x0.cells, .int .i64 x1, .agg x2.cells, .str x3.data.toList, .bool x4] ⟨[], []⟩ _ (ev_ValueTexts x0 x1 x2 x3.data.toList x4 ⟨[], []⟩)).2 W (g0 W) W [v0, .int .i64 x1, v2, .string x3, .bool x4] (by rw [C0_P, C0_gl]; exact hs) ?_
  · rw [C0_P] at hcall
    refine Calls.mono hcall fun e W' hR => ?_
    obtain ⟨g', hs', _, hres⟩ := hR
    cases e with
    | panicked ch => exact hres.elim
    | outgrown => exact hres.elim
    | returned v =>
      have hv : v = .bool true := hres
      subst hv
      have bel := hs'.below
      exact ⟨_, rfl, _, _, _, [], _, [], hW', trodAll_mk1 (shut_bool Tryz.underlying4 _), (trodAll_cons_mk (Below.trod laidOut (by kernel_rfl) (of_decide_eq_true (by kernel_rfl)) k0 bel lt0) (trodAll_cons_mk (Below.trod laidOut (by kernel_rfl) (of_decide_eq_true (by kernel_rfl)) k1 bel lt1) (trodAll_cons_mk (Below.trod laidOut (by kernel_rfl) (of_decide_eq_true (by kernel_rfl)) k2 bel lt2) (trodAll_cons_mk (Below.trod laidOut (by kernel_rfl) (of_decide_eq_true (by kernel_rfl)) k3 bel lt3) (trodAll_cons_mk (Below.trod laidOut (by kernel_rfl) (of_decide_eq_true (by kernel_rfl)) k4 bel lt4) trodAll_mk0))))), rfl, bel.frame _, fun h => by cases h⟩
  · exact .mk_cons (agg_of hx0 (by simp)) (.mk_cons VR.mkInt (.mk_cons (agg_of hx2 (by simp)) (.mk_cons (VR_str x3) (.mk_cons VR.mkBool VRs.mk_nil))))
theorem said_valueTexts : Rows.ValueTextsSaid :=
  OpenClaim.holds_of_wide 4 Tryz.f4 rfl rfl rfl rfl rfl rfl rfl ⟨rfl, rfl, rfl, rfl, rfl⟩ rfl rfl rfl rfl rfl (by kernel_rfl) Tryz.func4 (by kernel_rfl)
    (of_decide_eq_true (by kernel_rfl)) (by unfold Func.isWrapper; first | (rw [if_pos (by decide +kernel)]; kernel_rfl) | (rw [if_neg (by decide +kernel)]; exact ⟨rfl, rfl⟩))
    (fun os started H enc _ => lifted_valueTexts os started H enc)
#print axioms said_valueTexts
end AE
end Go.Proofs.YthoomlenmgdebaaGreatDoor
/- The card of the statement ValueTexts. Printed by mkrow.py. -/
set_option linter.unusedVariables false
set_option linter.unusedSimpArgs false
namespace Go.Proofs.YthoomlenmgdebaaGreatDoor
namespace AE
open Go
theorem card_valueTexts : Rows.ValueTextsCardSaid :=
  Claim7.holds_tied_plain_at .later [] [.data, .data, .data, .data, .sentinel, .sentinel, .data, .pinned] true (true, "1e4c6b56cb2c6867a9df23e883da558814505b6edc09975099c62a8c7d5b9169") true
    said_valueTexts (fun _ h => by cases h) (by kernel_rfl) (fun _ h => by cases h) valueTexts_row_tie rfl ⟨rfl, rfl⟩ (by kernel_rfl) rfl
    (fun f fn hf hfn => by
      obtain rfl : f = 4 := Option.some.inj ((show Tryz.prog.funcNamed "ectype/ectypelaw02.ValueTexts" = some 4 by kernel_rfl).symm.trans hf) |>.symm
      obtain rfl : fn = Tryz.f4 := (Option.some.inj (Tryz.func4.symm.trans hfn)).symm
      exact ⟨by kernel_rfl, fun j t ht => by
        rw [Tryz.params4] at ht
        have h3 : t = 24 ∨ t = 3 ∨ t = 28 ∨ t = 9 ∨ t = 4 := by
          rcases j with _ | _ | _ | _ | _ | j
          · exact .inl (by simpa using ht.symm)
          · exact .inr (.inl (by simpa using ht.symm))
          · exact .inr (.inr (.inl (by simpa using ht.symm)))
          · exact .inr (.inr (.inr (.inl (by simpa using ht.symm))))
          · exact .inr (.inr (.inr (.inr ((by simpa using ht.symm)))))
          · simp at ht
        rcases h3 with rfl | rfl | rfl | rfl | rfl
        · exact (show Tryz.prog.wantsStandIn 24 = false by kernel_rfl)
        · exact (show Tryz.prog.wantsStandIn 3 = false by kernel_rfl)
        · exact (show Tryz.prog.wantsStandIn 28 = false by kernel_rfl)
        · exact (show Tryz.prog.wantsStandIn 9 = false by kernel_rfl)
        · exact (show Tryz.prog.wantsStandIn 4 = false by kernel_rfl)
      ⟩)
    (by kernel_rfl)
#print axioms card_valueTexts
end AE
end Go.Proofs.YthoomlenmgdebaaGreatDoor
