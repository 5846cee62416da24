/- Parse of a formula; evaluated. -/
import Derived.Test.YtopfodhjlhpdmaaGreatDoorGG
import Derived.Test.YtopfodhjlhpdmaaGreatDoorGF
import Derived.Test.YtopfodhjlhpdmaaGreatDoorGE
import Derived.Lay
import Derived.Stop.Joined
import Derived.Carry
import Derived.ChangeMaps5
import Derived.Test.YtopfodhjlhpdmaaGreatDoorCards
import Derived.Test.YtopfodhjlhpdmaaGreatDoorTie
import Derived.SevenTiedAt
set_option linter.unusedVariables false
set_option linter.unusedSimpArgs false
namespace Go.Proofs.YtopfodhjlhpdmaaGreatDoor
namespace AE
open Go
theorem run_take (p : UInt8 → Bool) (s : List UInt8) : ∀ b, b ∈ s.take (runN p s) → p b = true := by
  intro b hb
  have : s.take (runN p s) = s.takeWhile p := by
    unfold runN
    exact (List.prefix_iff_eq_take.1 (List.takeWhile_prefix _)).symm
  rw [this] at hb
  exact List.all_eq_true.1 (List.all_takeWhile) _ hb
theorem lok_ok : ∀ (N : Nat) (s : List UInt8) (l : List (List UInt8)), s.length ≤ N → s.length ≤ 1000000 → lok s = some l → TkOk l ∧ l.length ≤ s.length
  | 0, s, l, hN, hs, h => by
    have : s = [] := List.eq_nil_of_length_eq_zero (by omega)
    subst this
    rw [lok_nil] at h
    cases h
    exact ⟨fun t ht => (by cases ht), by simp⟩
  | N + 1, [], l, hN, hs, h => by
    rw [lok_nil] at h
    cases h
    exact ⟨fun t ht => (by cases ht), by simp⟩
  | N + 1, c :: r, l, hN, hs, h => by
    rw [lok_cons] at h
    simp only [List.length_cons] at hN hs ⊢
    split at h
    · obtain ⟨h1, h2⟩ := lok_ok N r l (by omega) (by omega) h
      exact ⟨h1, by omega⟩
    · split at h
      · rename_i hd
        obtain ⟨q, h1, rfl⟩ := Option.map_eq_some_iff.1 h
        obtain ⟨h2, h3⟩ := lok_ok N _ q (by simp; omega) (by simp; omega) h1
        refine ⟨fun t ht => ?_, by simp at h3 ⊢; omega⟩
        rcases List.mem_cons.1 ht with rfl | ht
        · refine ⟨c, _, rfl, by simp; omega, fun hc => ?_⟩
          have := dig_let hc
          rw [this] at hd
          cases hd
        · exact h2 t ht
      · split at h
        · rename_i hd
          obtain ⟨q, h1, rfl⟩ := Option.map_eq_some_iff.1 h
          obtain ⟨h2, h3⟩ := lok_ok N _ q (by simp; omega) (by simp; omega) h1
          refine ⟨fun t ht => ?_, by simp at h3 ⊢; omega⟩
          rcases List.mem_cons.1 ht with rfl | ht
          · refine ⟨c, _, rfl, by simp; omega, fun _ b hb => ?_⟩
            rcases List.mem_cons.1 hb with rfl | hb
            · exact hd
            · exact run_take isDig r b hb
          · exact h2 t ht
        · rename_i hd
          split at h
          · obtain ⟨q, h1, rfl⟩ := Option.map_eq_some_iff.1 h
            obtain ⟨h2, h3⟩ := lok_ok N r q (by omega) (by omega) h1
            refine ⟨fun t ht => ?_, by simp; omega⟩
            rcases List.mem_cons.1 ht with rfl | ht
            · exact ⟨c, [], rfl, by simp, fun hc => absurd hc hd⟩
            · exact h2 t ht
          · cases h
theorem fmL_cost : ∀ n l a t, fmL n l = (some a, t) → a.nodes + t.length ≤ l.length
  | 0, l, a, t, h => by rw [fmL] at h; cases h
  | n + 1, [], a, t, h => by rw [fmL] at h; cases h
  | n + 1, s :: r, a, t, h => by
    rw [fmL] at h
    simp only [List.length_cons]
    split at h
    · unfold andP at h
      split at h
      · cases h
      · rename_i b u hb
        have h1 := fmL_cost n _ _ _ hb
        have h2 := (takeP_suffix [97, 110, 100] u).length_le
        split at h
        · split at h
          · cases h
          · rename_i c v hc
            have h3 := fmL_cost n _ _ _ hc
            have h4 := (takeP_suffix [41] v).length_le
            split at h
            · simp only [Prod.mk.injEq, Option.some.injEq] at h
              rw [← h.1, ← h.2, Fm.nodes_eq]
              simp only [Fm.args_mk, Fm.nodesL]
              omega
            · cases h
        · cases h
    · split at h
      · cases h
      · have h1 := (numsP_suffix (opL s) r).length_le
        split at h
        · cases h
        · rename_i x u hu
          rw [hu] at h1
          dsimp only at h1
          unfold argP at h
          split at h
          · split at h
            · cases h
            · rename_i b v hb
              have h3 := fmL_cost n _ _ _ hb
              simp only [Prod.mk.injEq, Option.some.injEq] at h
              rw [← h.1, ← h.2, Fm.nodes_eq]
              simp only [Fm.args_mk, Fm.nodesL]
              omega
          · simp only [Prod.mk.injEq, Option.some.injEq] at h
            rw [← h.1, ← h.2, Fm.nodes_eq]
            simp only [Fm.args_mk, Fm.nodesL]
            omega
def zeroM : Fm := .mk 0 0 0 []
def readL (s : List UInt8) : Option Fm := match lok s with
  | none => none
  | some l => match fmL (l.length + 1) l with
    | (some a, []) => some a
    | _ => none
def parseL (f : Fun) (s : List UInt8) : Fm × Int :=
  if okF f then (if 40000 < s.length then (zeroM, 2) else match readL s with
    | none => (zeroM, 11)
    | some a => if isFm f a then (a, 0) else (zeroM, 70)) else (zeroM, 10)
noncomputable def restL : Code := match Tryz.f39.body with | some (.seq _ r) => r | _ => .skip
theorem rbL : recBody C0.P 39 = some (17, 5, 2, restL) := by
  rw [C0_P]
  unfold recBody
  rw [Tryz.func39]
  rfl
theorem adL_ret (x y : A) (s : St) : afterDefer C0 39 [x, y] (some (.ret, s)) = deferred C0 39 (17, 5, 2, restL) [x, y] .nili s := afterDefer_ret C0 _ _ rbL (by simp) s
theorem adL_pan (x y a : A) (s : St) : afterDefer C0 39 [x, y] (some (.pan a, s)) = deferred C0 39 (17, 5, 2, restL) [x, y] a s := afterDefer_pan C0 _ _ rbL (by simp) a s
set_option maxHeartbeats 4000000 in
theorem ev_LParse (f : Fun) (hfn : f.nodes ≤ 1000000000) (s : List UInt8) (hs : s.length ≤ 1000000) (m : Mem) :
    evCall C0 13 [.agg f.cells, .str s] m = some (.ret (.tup [.agg (parseL f s).1.cells, .int .i64 (parseL f s).2]), m) := by
  rw [evCall_rec C0 (C0_ext _ (by decide)) (by rw [C0_P]; exact Tryz.func13) rfl (by rw [C0_ann]; rfl) (by rw [C0_ann]; rfl) (by decide) (by simp [Tryz.f13])]
  have h1 := ev_Valid f hfn
  simp at h1
  unfold parseL
  rw [evRec_seq _ _ _ _ _ _ rfl]
  simp [Tryz.f13, a13, reg13]
  rw [evRec_seq _ _ _ _ _ _ rfl]
  cases c1 : okF f with
  | false => simp [Tryz.f13, a13, reg13, h1, c1, zeroM]
  | true =>
  have hf := ((okF_iff f).1 c1).2.2
  simp [Tryz.f13, a13, reg13, h1, c1]
  rw [evRec_seq _ _ _ _ _ _ rfl]
  by_cases hl : 40000 < s.length
  · have hl' : (40000 : Int) < s.length := by omega
    simp [Tryz.f13, a13, reg13, hl, hl', zeroM]
  have hl' : ¬ (40000 : Int) < s.length := by omega
  simp [Tryz.f13, a13, reg13, hl, hl']
  rw [evRec_defer _ _ _ _ _ _ (d := (15, 39, [.tmp 4, .tmp 5])) rfl (by decide)]
  unfold readL
  have et := ev_LTokens s hs ⟨m.bx ++ [f.cells, [.int .i64 0, .int .i64 0, .int .i64 0, .nils], [.int .i64 0]], m.rw⟩
  cases htk : lok s with
  | none =>
    rw [htk] at et
    simp [tokL] at et
    simp [Tryz.f13, a13, reg13, Tryz.f39, a39, reg39, et, adL_pan, deferred, restL, zeroM, wrongL]
  | some l =>
  rw [htk] at et
  simp [tokL] at et
  obtain ⟨hk, hll⟩ := lok_ok s.length s l (Nat.le_refl _) hs htk
  have e1 := ev_pform (m.bx.length + 3) (l.length + 1) l ⟨m.bx ++ [f.cells, [.int .i64 0, .int .i64 0, .int .i64 0, .nils], [.int .i64 0], pb l], m.rw⟩ hk (by omega) (by omega) (by simp)
  cases hp : fmL (l.length + 1) l with
  | mk o t =>
  rw [hp] at e1
  cases o with
  | none =>
    simp at e1
    simp [Tryz.f13, a13, reg13, Tryz.f39, a39, reg39, et, e1, adL_pan, deferred, restL, zeroM, wrongL, hp]
  | some a =>
  have hc := fmL_cost _ _ _ _ hp
  have hsu := (fmL_suffix (l.length + 1) l).length_le
  simp at e1
  have ev := ev_ValidA f a hf (by omega)
  simp at ev
  cases t with
  | cons b r =>
    have hr : (0 : Int) < r.length + 1 := by omega
    simp [Tryz.f13, a13, reg13, Tryz.f39, a39, reg39, et, e1, adL_ret, deferred, restL, zeroM, hp, hr]
  | nil =>
    cases hv : isFm f a with
    | true =>
      simp [hv] at ev
      simp [Tryz.f13, a13, reg13, Tryz.f39, a39, reg39, et, e1, ev, adL_ret, deferred, restL, hp, hv]
    | false =>
      simp [hv] at ev
      simp [Tryz.f13, a13, reg13, Tryz.f39, a39, reg39, et, e1, ev, adL_ret, deferred, restL, zeroM, hp, hv]
theorem dec_len : ∀ (k u : Nat), u < 10 ^ (k + 1) → (Lib.decDigits u).length ≤ k + 1
  | 0, u, h => by rw [Lib.decDigits, dif_pos (by simpa using h)]; simp
  | k + 1, u, h => by
    rw [Lib.decDigits]
    split
    · simp
    · rw [List.length_append]
      have := dec_len k (u / 10) (by rw [Nat.pow_succ] at h; omega)
      simp
      omega
theorem itoa_len {n : Int} (h0 : 0 ≤ n) (h1 : n < 10000000) : (Lib.itoa n).length ≤ 7 := by
  unfold Lib.itoa
  rw [if_neg (by omega)]
  exact dec_len 6 n.toNat (by omega)
theorem utf_digit (k : Nat) (h : k ≤ 9) : (Utf8.encode (48 + k : Int)).data.toList = [UInt8.ofNat (48 + k)] := by
  have : k = 0 ∨ k = 1 ∨ k = 2 ∨ k = 3 ∨ k = 4 ∨ k = 5 ∨ k = 6 ∨ k = 7 ∨ k = 8 ∨ k = 9 := by omega
  rcases this with rfl | rfl | rfl | rfl | rfl | rfl | rfl | rfl | rfl | rfl <;> decide
theorem ev_DigitsN : ∀ (N u : Nat), u ≤ N → u < 10000000 → ∀ m : Mem, evCall C0 37 [.int .i64 u] m = some (.ret (.str (Lib.decDigits u)), m)
  | N, u, hN, hu, m => by
    rw [evCall_body C0 (C0_ext _ (by decide)) (by rw [C0_P]; exact Tryz.func37) rfl (by rw [C0_ann]; rfl) (by rw [C0_ann]; rfl) (by decide) (by simp [Tryz.f37])]
    have h1 : (u : Int).tmod 10 = (u % 10 : Nat) := by rw [Int.tmod_eq_emod_of_nonneg (by omega)]; omega
    have h2 : (u : Int).tdiv 10 = (u / 10 : Nat) := by rw [Int.tdiv_eq_ediv_of_nonneg (by omega)]; omega
    have hk : u % 10 ≤ 9 := by omega
    have w1 : IntKind.i64.wrap (48 + (u % 10 : Nat)) = 48 + (u % 10 : Nat) := wrap_id _ (by omega)
    have w2 : IntKind.u8.wrap (48 + (u % 10 : Nat)) = 48 + (u % 10 : Nat) := wrap8 _ (by omega)
    have hf := utf_digit (u % 10) hk
    have hm : ((u % 10 : Nat) : Int) = (u : Int) % 10 := by omega
    have hd : ((u / 10 : Nat) : Int) = (u : Int) / 10 := by omega
    by_cases hl : u < 10
    · have hl' : (u : Int) < 10 := by omega
      have h0 : u % 10 = u := by omega
      rw [Lib.decDigits, dif_pos hl]
      rw [h0] at h1 w1 w2 hf
      simp [Tryz.f37, a37, reg37, h1, w1, w2, hl', hf]
    · have hl' : ¬ (u : Int) < 10 := by omega
      obtain ⟨N, rfl⟩ : ∃ k, N = k + 1 := ⟨N - 1, by omega⟩
      have e1 := ev_DigitsN N (u / 10) (by omega) (by omega)
      have hlen := dec_len 6 (u / 10) (by omega)
      have w3 : IntKind.i64.wrap ((u / 10 : Nat) : Int) = (u / 10 : Nat) := wrap_id _ (by omega)
      rw [Lib.decDigits, dif_neg hl]
      generalize u % 10 = a at h1 w1 w2 hf hm
      generalize u / 10 = b at h2 e1 hd hlen w3
      simp [Tryz.f37, a37, reg37, h1, h2, w1, w2, w3, hl', hf, e1]
      try (rw [if_pos (by omega)]; simp [Tryz.f37, a37, reg37, h1, h2, w1, w2, w3, hl', hf, e1])
theorem ev_Digits (k : Int) (h0 : 0 ≤ k) (h1 : k < 10000000) (m : Mem) : evCall C0 37 [.int .i64 k] m = some (.ret (.str (Lib.itoa k)), m) := by
  obtain ⟨n, rfl⟩ : ∃ n : Nat, k = n := ⟨k.toNat, by omega⟩
  rw [ev_DigitsN n n (Nat.le_refl _) (by omega)]
  unfold Lib.itoa
  rw [if_neg (by omega)]
  rfl
theorem dec_dig : ∀ (u : Nat) (b : UInt8), b ∈ Lib.decDigits u → isDig b = true := by
  intro u
  induction u using Nat.strongRecOn with
  | _ u ih =>
    intro b hb
    have one : ∀ k, k < 10 → isDig (UInt8.ofNat (48 + k)) = true := fun k hk => by
      rw [isDig_iff]
      have : (UInt8.ofNat (48 + k)).toNat = 48 + k := by simp; omega
      omega
    rw [Lib.decDigits] at hb
    split at hb
    · rename_i h
      rw [List.mem_singleton] at hb
      rw [hb]
      exact one u h
    · rcases List.mem_append.1 hb with h | h
      · exact ih (u / 10) (by omega) b h
      · rw [List.mem_singleton] at h
        rw [h]
        exact one _ (by omega)
theorem valD_append (n : Nat) : ∀ (a b : List UInt8), valD n (a ++ b) = valD (valD n a) b := by
  intro a b
  unfold valD
  exact List.foldl_append
theorem dec_val : ∀ u : Nat, valD 0 (Lib.decDigits u) = u := by
  intro u
  induction u using Nat.strongRecOn with
  | _ u ih =>
    have one : ∀ n k, k < 10 → valD n [UInt8.ofNat (48 + k)] = n * 10 + k := fun n k hk => by
      have : (UInt8.ofNat (48 + k)).toNat = 48 + k := by simp; omega
      rw [valD_cons, valD_nil, this]
      omega
    rw [Lib.decDigits]
    split
    · rename_i h
      rw [one 0 u h]
      omega
    · rename_i h
      rw [valD_append, ih (u / 10) (by omega), one _ _ (by omega)]
      omega
theorem dec_head : ∀ u : Nat, 1 ≤ u → ∃ b r, Lib.decDigits u = b :: r ∧ 49 ≤ b.toNat := by
  intro u
  induction u using Nat.strongRecOn with
  | _ u ih =>
    intro h1
    rw [Lib.decDigits]
    split
    · rename_i h
      exact ⟨_, [], rfl, by have : (UInt8.ofNat (48 + u)).toNat = 48 + u := by simp; omega
                            omega⟩
    · rename_i h
      obtain ⟨b, r, h2, h3⟩ := ih (u / 10) (by omega) (by omega)
      exact ⟨b, r ++ [UInt8.ofNat (48 + u % 10)], by rw [h2]; rfl, h3⟩
theorem dec_ne (u : Nat) : ∃ b r, Lib.decDigits u = b :: r ∧ isDig b = true := by
  cases h : Lib.decDigits u with
  | nil =>
    rw [Lib.decDigits] at h
    split at h <;> simp at h
  | cons b r => exact ⟨b, r, rfl, dec_dig u b (by rw [h]; exact List.mem_cons_self)⟩
def wordA (k : Int) : List UInt8 := (rulesL.getD k.toNat ([], 0, 0)).1
def midA (k n m : Int) : List UInt8 := if k = 10 ∨ k = 12 then 32 :: Lib.itoa n else if k = 13 then 32 :: (Lib.itoa n ++ ([32, 47, 32] ++ Lib.itoa m)) else []
def textA : Fm → List UInt8
  | .mk k n m [] => if k = 5 then wordA k ++ 32 :: Lib.itoa n else wordA k
  | .mk k n m [a] => wordA k ++ midA k n m ++ 32 :: textA a
  | .mk k n m (a :: b :: _) => 40 :: (textA a ++ ([32, 97, 110, 100, 32] ++ (textA b ++ [41])))
mutual
def shpA : Fm → Bool
  | .mk op n m l => decide ((l.length : Int) = arityA op) && decide (0 ≤ n) && decide (n ≤ 1048576) && decide (0 ≤ m) && decide (m ≤ 1048576) && shpAL l && decide ((op = 5 ∨ op = 10 ∨ op = 12 ∨ op = 13 ∨ n = 0) ∧ (op = 13 ∨ m = 0))
def shpAL : List Fm → Bool
  | [] => true
  | a :: r => shpA a && shpAL r
end
theorem arityA_bd {k : Int} (h : 0 ≤ arityA k) : 0 ≤ k ∧ k ≤ 13 := by
  unfold arityA at h
  repeat' split at h
  all_goals omega
theorem numsA_bd {f : Fun} {op n m : Int} (hf : f.num ≤ 16) (h : numsA f op n m = true) : 0 ≤ n ∧ n ≤ 1048576 ∧ 0 ≤ m ∧ m ≤ 1048576 ∧ (op = 5 ∨ op = 10 ∨ op = 12 ∨ op = 13 ∨ n = 0) ∧ (op = 13 ∨ m = 0) := by
  unfold numsA at h
  repeat' split at h
  all_goals simp only [Bool.and_eq_true, decide_eq_true_eq] at h
  all_goals omega
mutual
theorem okA_shp (top : Fun) (ht : shapedF top = true) : ∀ (g : Option Fun) (a : Fm), (∀ f, g = some f → shapedF f = true) → okA top g a = true → shpA a = true
  | g, .mk op n m l, hg, h => by
    rw [okA] at h
    simp only [Bool.and_eq_true, decide_eq_true_eq] at h
    obtain ⟨h1, h2⟩ := h
    rw [shpA]
    have hop := arityA_bd (k := op) (by omega)
    cases hc : ctxA top g op n m with
    | none => rw [hc] at h2; cases h2
    | some g' =>
    rw [hc] at h2
    dsimp only at h2
    have hn : (0 ≤ n ∧ n ≤ 1048576 ∧ 0 ≤ m ∧ m ≤ 1048576 ∧ (op = 5 ∨ op = 10 ∨ op = 12 ∨ op = 13 ∨ n = 0) ∧ (op = 13 ∨ m = 0)) ∧ (l ≠ [] → ∀ f, g' = some f → shapedF f = true) := by
      unfold ctxA at hc
      split at hc
      · split at hc
        · rename_i hz; cases hc; exact ⟨by omega, fun _ => hg⟩
        · cases hc
      · split at hc
        · split at hc
          · rename_i hz; cases hc; exact ⟨by omega, fun _ f hf => by cases hf; exact ht⟩
          · cases hc
        · split at hc
          · cases hc
          · rename_i f
            split at hc
            · rename_i hz
              have hsf := hg f rfl
              cases hc
              refine ⟨numsA_bd (shaped_num hsf).2.1 hz.2, fun hl q hq => ?_⟩
              split at hq
              · cases hq
              · cases hq
                have h5 : ¬ op = 5 := by
                  rintro rfl
                  apply hl
                  cases l with
                  | nil => rfl
                  | cons _ _ => simp [arityA] at h1; try omega
                exact part_shaped hsf (part_lt hsf (by omega) (by omega) hz.1.symm)
            · cases hc
    have hL : shpAL l = true := by
      cases l with
      | nil => rw [shpAL]
      | cons a r => exact okAL_shp top ht g' (a :: r) (hn.2 (by simp)) h2
    rw [hL]
    obtain ⟨⟨a1, a2, a3, a4, a5, a6⟩, _⟩ := hn
    simp only [h1, a1, a2, a3, a4, decide_true, Bool.and_true, Bool.true_and, decide_eq_true_eq]
    exact ⟨a5, a6⟩
theorem okAL_shp (top : Fun) (ht : shapedF top = true) : ∀ (g : Option Fun) (l : List Fm), (∀ f, g = some f → shapedF f = true) → okAL top g l = true → shpAL l = true
  | _, [], _, _ => by rw [shpAL]
  | g, a :: r, hg, h => by
    rw [okAL, Bool.and_eq_true] at h
    rw [shpAL, okA_shp top ht g a hg h.1, okAL_shp top ht g r hg h.2, Bool.and_self]
end
theorem isFm_shp {f : Fun} {a : Fm} (hf : shapedF f = true) (h : isFm f a = true) : shpA a = true ∧ a.nodes ≤ 2000 := by
  unfold isFm at h
  simp only [Bool.and_eq_true, decide_eq_true_eq] at h
  exact ⟨okA_shp f hf none a (fun _ h => by cases h) h.2, h.1.1⟩
theorem wordA_len (k : Int) : (wordA k).length ≤ 6 := by
  unfold wordA
  rw [List.getD_eq_getElem?_getD]
  rcases Nat.lt_or_ge k.toNat 14 with h | h
  · have : ∀ i : Nat, i < 14 → ((rulesL[i]?.getD ([], 0, 0)).1).length ≤ 6 := by decide
    exact this _ h
  · rw [List.getElem?_eq_none (by exact h)]
    simp
theorem itoa7 {n : Int} (h0 : 0 ≤ n) (h1 : n ≤ 1048576) : (Lib.itoa n).length ≤ 7 := itoa_len h0 (by omega)
theorem midA_len {k n m : Int} (h0 : 0 ≤ n) (h1 : n ≤ 1048576) (h2 : 0 ≤ m) (h3 : m ≤ 1048576) : (midA k n m).length ≤ 18 := by
  have := itoa7 h0 h1
  have := itoa7 h2 h3
  unfold midA
  repeat' split
  all_goals simp
  all_goals omega
theorem shpA_eq {k n m : Int} {l : List Fm} (h : shpA (.mk k n m l) = true) : (l.length : Int) = arityA k ∧ (0 ≤ n ∧ n ≤ 1048576) ∧ (0 ≤ m ∧ m ≤ 1048576) ∧ shpAL l = true := by
  rw [shpA] at h
  simp only [Bool.and_eq_true, decide_eq_true_eq] at h
  exact ⟨h.1.1.1.1.1.1, ⟨h.1.1.1.1.1.2, h.1.1.1.1.2⟩, ⟨h.1.1.1.2, h.1.1.2⟩, h.1.2⟩
theorem shpA_zero {k n m : Int} {l : List Fm} (h : shpA (.mk k n m l) = true) : (k = 5 ∨ k = 10 ∨ k = 12 ∨ k = 13 ∨ n = 0) ∧ (k = 13 ∨ m = 0) := by
  rw [shpA] at h
  simp only [Bool.and_eq_true, decide_eq_true_eq] at h
  exact h.2
theorem textA_len : ∀ a : Fm, shpA a = true → (textA a).length ≤ 30 * a.nodes
  | .mk k n m [], h => by
    obtain ⟨_, h1, h2, _⟩ := shpA_eq h
    rw [textA, Fm.nodes_eq]
    have := wordA_len k
    have := itoa7 h1.1 h1.2
    split <;> simp <;> omega
  | .mk k n m [a], h => by
    obtain ⟨_, h1, h2, h3⟩ := shpA_eq h
    rw [shpAL, Bool.and_eq_true] at h3
    rw [textA, Fm.nodes_eq]
    have := wordA_len k
    have := midA_len (k := k) h1.1 h1.2 h2.1 h2.2
    have := textA_len a h3.1
    simp [Fm.nodesL]
    omega
  | .mk k n m (a :: b :: r), h => by
    obtain ⟨_, h1, h2, h3⟩ := shpA_eq h
    rw [shpAL, shpAL, Bool.and_eq_true, Bool.and_eq_true] at h3
    rw [textA, Fm.nodes_eq]
    have := textA_len a h3.1
    have := textA_len b h3.2.1
    simp [Fm.nodesL]
    omega
set_option maxHeartbeats 4000000 in
theorem ev_word (k : Int) (h0 : 0 ≤ k) (h1 : k ≤ 13) (m : Mem) : evCall C0 36 [.int .i64 k] m = some (.ret (.str (wordA k)), m) := by
  rw [evCall_body C0 (C0_ext _ (by decide)) (by rw [C0_P]; exact Tryz.func36) rfl (by rw [C0_ann]; rfl) (by rw [C0_ann]; rfl) (by decide) (by simp [Tryz.f36])]
  have : k = 0 ∨ k = 1 ∨ k = 2 ∨ k = 3 ∨ k = 4 ∨ k = 5 ∨ k = 6 ∨ k = 7 ∨ k = 8 ∨ k = 9 ∨ k = 10 ∨ k = 11 ∨ k = 12 ∨ k = 13 := by omega
  rcases this with rfl | rfl | rfl | rfl | rfl | rfl | rfl | rfl | rfl | rfl | rfl | rfl | rfl | rfl <;> simp [Tryz.f36, a36, reg36, wordA, rulesL]
set_option maxHeartbeats 8000000 in
theorem ev_LText (N : Nat) : ∀ (a : Fm), a.nodes ≤ N → a.nodes ≤ 1000000 → shpA a = true → ∀ (m : Mem), evCall C0 35 [.agg a.cells] m = some (.ret (.str (textA a)), m) := by
  induction N with
  | zero => intro a hN; have := a.nodes_pos; omega
  | succ N ih =>
  rintro ⟨k, n, q, l⟩ hN hb hsh m
  obtain ⟨s1, s2, s3, s4⟩ := shpA_eq hsh
  have hk := arityA_bd (k := k) (by omega)
  rw [Fm.nodes_eq] at hN hb
  simp only [Fm.args_mk] at hN hb
  have ln := itoa7 s2.1 s2.2
  have lm := itoa7 s3.1 s3.2
  have en := ev_Itoa n (by omega) (by omega)
  have em := ev_Itoa q (by omega) (by omega)
  rw [evCall_body C0 (C0_ext _ (by decide)) (by rw [C0_P]; exact Tryz.func35) rfl (by rw [C0_ann]; rfl) (by rw [C0_ann]; rfl) (by decide) (by simp [Tryz.f35])]
  have : k = 0 ∨ k = 1 ∨ k = 2 ∨ k = 3 ∨ k = 4 ∨ k = 5 ∨ k = 6 ∨ k = 7 ∨ k = 8 ∨ k = 9 ∨ k = 10 ∨ k = 11 ∨ k = 12 ∨ k = 13 := by omega
  rcases this with rfl | rfl | rfl | rfl | rfl | rfl | rfl | rfl | rfl | rfl | rfl | rfl | rfl | rfl
  · -- 0
    have hw : rulesT.take 1 = [.str [116, 111, 112]] := rfl
    have : l = [] := by cases l with | nil => rfl | cons _ _ => simp [arityA] at s1; try omega
    subst this
    simp [Tryz.f35, a35, reg35, draw35, dok35, hw, textA, midA, show wordA 0 = [116, 111, 112] from rfl]
  · -- 1
    have hw : (rulesT.drop 3).take 1 = [.str [110, 111, 116]] := rfl
    obtain ⟨a, rfl⟩ : ∃ a, l = [a] := by
      have : l.length = 1 := by simp [arityA] at s1; omega
      match l, this with
      | [a], _ => exact ⟨a, rfl⟩
    simp only [shpAL, Fm.nodesL, Bool.and_eq_true] at s4 hN hb
    have ea := ih a (by omega) (by omega) s4.1
    have la := textA_len a s4.1
    simp at ea
    clear ih hsh
    simp only [textA, midA]
    generalize textA a = ta at la ea ⊢
    simp [Tryz.f35, a35, reg35, draw35, dok35, hw, textA, midA, show wordA 1 = [110, 111, 116] from rfl, ea, Fm.cellsL]
    repeat (rw [if_pos (by omega)]; simp [Tryz.f35, a35, reg35, draw35, dok35, hw, textA, midA, show wordA 1 = [110, 111, 116] from rfl, ea, Fm.cellsL])
  · -- 2
    have hw : (rulesT.drop 6).take 1 = [.str [97, 110, 100]] := rfl
    obtain ⟨a, b, rfl⟩ : ∃ a b, l = [a, b] := by
      have : l.length = 2 := by simp [arityA] at s1; omega
      match l, this with
      | [a, b], _ => exact ⟨a, b, rfl⟩
    simp only [shpAL, Fm.nodesL, Bool.and_eq_true] at s4 hN hb
    have ea := ih a (by omega) (by omega) s4.1
    have eb := ih b (by omega) (by omega) s4.2.1
    have la := textA_len a s4.1
    have lb := textA_len b s4.2.1
    simp at ea eb
    clear ih hsh
    simp only [textA]
    generalize textA a = ta at la ea ⊢
    generalize textA b = tb at lb eb ⊢
    simp [Tryz.f35, a35, reg35, draw35, dok35, hw, textA, midA, show wordA 2 = [97, 110, 100] from rfl, ea, eb, Fm.cellsL]
    repeat (rw [if_pos (by omega)]; simp [Tryz.f35, a35, reg35, draw35, dok35, hw, textA, midA, show wordA 2 = [97, 110, 100] from rfl, ea, eb, Fm.cellsL])
  · -- 3
    have hw : (rulesT.drop 9).take 1 = [.str [115, 116, 101, 112]] := rfl
    obtain ⟨a, rfl⟩ : ∃ a, l = [a] := by
      have : l.length = 1 := by simp [arityA] at s1; omega
      match l, this with
      | [a], _ => exact ⟨a, rfl⟩
    simp only [shpAL, Fm.nodesL, Bool.and_eq_true] at s4 hN hb
    have ea := ih a (by omega) (by omega) s4.1
    have la := textA_len a s4.1
    simp at ea
    clear ih hsh
    simp only [textA, midA]
    generalize textA a = ta at la ea ⊢
    simp [Tryz.f35, a35, reg35, draw35, dok35, hw, textA, midA, show wordA 3 = [115, 116, 101, 112] from rfl, ea, Fm.cellsL]
    repeat (rw [if_pos (by omega)]; simp [Tryz.f35, a35, reg35, draw35, dok35, hw, textA, midA, show wordA 3 = [115, 116, 101, 112] from rfl, ea, Fm.cellsL])
  · -- 4
    have hw : (rulesT.drop 12).take 1 = [.str [97, 116]] := rfl
    obtain ⟨a, rfl⟩ : ∃ a, l = [a] := by
      have : l.length = 1 := by simp [arityA] at s1; omega
      match l, this with
      | [a], _ => exact ⟨a, rfl⟩
    simp only [shpAL, Fm.nodesL, Bool.and_eq_true] at s4 hN hb
    have ea := ih a (by omega) (by omega) s4.1
    have la := textA_len a s4.1
    simp at ea
    clear ih hsh
    simp only [textA, midA]
    generalize textA a = ta at la ea ⊢
    simp [Tryz.f35, a35, reg35, draw35, dok35, hw, textA, midA, show wordA 4 = [97, 116] from rfl, ea, Fm.cellsL]
    repeat (rw [if_pos (by omega)]; simp [Tryz.f35, a35, reg35, draw35, dok35, hw, textA, midA, show wordA 4 = [97, 116] from rfl, ea, Fm.cellsL])
  · -- 5
    have hw : (rulesT.drop 15).take 1 = [.str [105, 115]] := rfl
    have : l = [] := by cases l with | nil => rfl | cons _ _ => simp [arityA] at s1; try omega
    subst this
    simp only [textA]
    generalize Lib.itoa n = dn at ln en ⊢
    simp [Tryz.f35, a35, reg35, draw35, dok35, hw, textA, midA, show wordA 5 = [105, 115] from rfl, en]
    repeat (rw [if_pos (by omega)]; simp [Tryz.f35, a35, reg35, draw35, dok35, hw, textA, midA, show wordA 5 = [105, 115] from rfl, en])
  · -- 6
    have hw : (rulesT.drop 18).take 1 = [.str [102, 105, 114, 115, 116]] := rfl
    obtain ⟨a, rfl⟩ : ∃ a, l = [a] := by
      have : l.length = 1 := by simp [arityA] at s1; omega
      match l, this with
      | [a], _ => exact ⟨a, rfl⟩
    simp only [shpAL, Fm.nodesL, Bool.and_eq_true] at s4 hN hb
    have ea := ih a (by omega) (by omega) s4.1
    have la := textA_len a s4.1
    simp at ea
    clear ih hsh
    simp only [textA, midA]
    generalize textA a = ta at la ea ⊢
    simp [Tryz.f35, a35, reg35, draw35, dok35, hw, textA, midA, show wordA 6 = [102, 105, 114, 115, 116] from rfl, ea, Fm.cellsL]
    repeat (rw [if_pos (by omega)]; simp [Tryz.f35, a35, reg35, draw35, dok35, hw, textA, midA, show wordA 6 = [102, 105, 114, 115, 116] from rfl, ea, Fm.cellsL])
  · -- 7
    have hw : (rulesT.drop 21).take 1 = [.str [115, 101, 99, 111, 110, 100]] := rfl
    obtain ⟨a, rfl⟩ : ∃ a, l = [a] := by
      have : l.length = 1 := by simp [arityA] at s1; omega
      match l, this with
      | [a], _ => exact ⟨a, rfl⟩
    simp only [shpAL, Fm.nodesL, Bool.and_eq_true] at s4 hN hb
    have ea := ih a (by omega) (by omega) s4.1
    have la := textA_len a s4.1
    simp at ea
    clear ih hsh
    simp only [textA, midA]
    generalize textA a = ta at la ea ⊢
    simp [Tryz.f35, a35, reg35, draw35, dok35, hw, textA, midA, show wordA 7 = [115, 101, 99, 111, 110, 100] from rfl, ea, Fm.cellsL]
    repeat (rw [if_pos (by omega)]; simp [Tryz.f35, a35, reg35, draw35, dok35, hw, textA, midA, show wordA 7 = [115, 101, 99, 111, 110, 100] from rfl, ea, Fm.cellsL])
  · -- 8
    have hw : (rulesT.drop 24).take 1 = [.str [108, 101, 102, 116]] := rfl
    obtain ⟨a, rfl⟩ : ∃ a, l = [a] := by
      have : l.length = 1 := by simp [arityA] at s1; omega
      match l, this with
      | [a], _ => exact ⟨a, rfl⟩
    simp only [shpAL, Fm.nodesL, Bool.and_eq_true] at s4 hN hb
    have ea := ih a (by omega) (by omega) s4.1
    have la := textA_len a s4.1
    simp at ea
    clear ih hsh
    simp only [textA, midA]
    generalize textA a = ta at la ea ⊢
    simp [Tryz.f35, a35, reg35, draw35, dok35, hw, textA, midA, show wordA 8 = [108, 101, 102, 116] from rfl, ea, Fm.cellsL]
    repeat (rw [if_pos (by omega)]; simp [Tryz.f35, a35, reg35, draw35, dok35, hw, textA, midA, show wordA 8 = [108, 101, 102, 116] from rfl, ea, Fm.cellsL])
  · -- 9
    have hw : (rulesT.drop 27).take 1 = [.str [114, 105, 103, 104, 116]] := rfl
    obtain ⟨a, rfl⟩ : ∃ a, l = [a] := by
      have : l.length = 1 := by simp [arityA] at s1; omega
      match l, this with
      | [a], _ => exact ⟨a, rfl⟩
    simp only [shpAL, Fm.nodesL, Bool.and_eq_true] at s4 hN hb
    have ea := ih a (by omega) (by omega) s4.1
    have la := textA_len a s4.1
    simp at ea
    clear ih hsh
    simp only [textA, midA]
    generalize textA a = ta at la ea ⊢
    simp [Tryz.f35, a35, reg35, draw35, dok35, hw, textA, midA, show wordA 9 = [114, 105, 103, 104, 116] from rfl, ea, Fm.cellsL]
    repeat (rw [if_pos (by omega)]; simp [Tryz.f35, a35, reg35, draw35, dok35, hw, textA, midA, show wordA 9 = [114, 105, 103, 104, 116] from rfl, ea, Fm.cellsL])
  · -- 10
    have hw : (rulesT.drop 30).take 1 = [.str [105, 110, 112, 117, 116]] := rfl
    obtain ⟨a, rfl⟩ : ∃ a, l = [a] := by
      have : l.length = 1 := by simp [arityA] at s1; omega
      match l, this with
      | [a], _ => exact ⟨a, rfl⟩
    simp only [shpAL, Fm.nodesL, Bool.and_eq_true] at s4 hN hb
    have ea := ih a (by omega) (by omega) s4.1
    have la := textA_len a s4.1
    simp at ea
    clear ih hsh
    simp only [textA, midA]
    generalize textA a = ta at la ea ⊢
    generalize Lib.itoa n = dn at ln en ⊢
    simp [Tryz.f35, a35, reg35, draw35, dok35, hw, textA, midA, show wordA 10 = [105, 110, 112, 117, 116] from rfl, ea, en, Fm.cellsL]
    repeat (rw [if_pos (by omega)]; simp [Tryz.f35, a35, reg35, draw35, dok35, hw, textA, midA, show wordA 10 = [105, 110, 112, 117, 116] from rfl, ea, en, Fm.cellsL])
  · -- 11
    have hw : (rulesT.drop 33).take 1 = [.str [115, 111, 109, 101]] := rfl
    obtain ⟨a, rfl⟩ : ∃ a, l = [a] := by
      have : l.length = 1 := by simp [arityA] at s1; omega
      match l, this with
      | [a], _ => exact ⟨a, rfl⟩
    simp only [shpAL, Fm.nodesL, Bool.and_eq_true] at s4 hN hb
    have ea := ih a (by omega) (by omega) s4.1
    have la := textA_len a s4.1
    simp at ea
    clear ih hsh
    simp only [textA, midA]
    generalize textA a = ta at la ea ⊢
    simp [Tryz.f35, a35, reg35, draw35, dok35, hw, textA, midA, show wordA 11 = [115, 111, 109, 101] from rfl, ea, en, Fm.cellsL]
    repeat (rw [if_pos (by omega)]; simp [Tryz.f35, a35, reg35, draw35, dok35, hw, textA, midA, show wordA 11 = [115, 111, 109, 101] from rfl, ea, en, Fm.cellsL])
  · -- 12
    have hw : (rulesT.drop 36).take 1 = [.str [109, 97, 110, 121]] := rfl
    obtain ⟨a, rfl⟩ : ∃ a, l = [a] := by
      have : l.length = 1 := by simp [arityA] at s1; omega
      match l, this with
      | [a], _ => exact ⟨a, rfl⟩
    simp only [shpAL, Fm.nodesL, Bool.and_eq_true] at s4 hN hb
    have ea := ih a (by omega) (by omega) s4.1
    have la := textA_len a s4.1
    simp at ea
    clear ih hsh
    simp only [textA, midA]
    generalize textA a = ta at la ea ⊢
    generalize Lib.itoa n = dn at ln en ⊢
    simp [Tryz.f35, a35, reg35, draw35, dok35, hw, textA, midA, show wordA 12 = [109, 97, 110, 121] from rfl, ea, en, Fm.cellsL]
    repeat (rw [if_pos (by omega)]; simp [Tryz.f35, a35, reg35, draw35, dok35, hw, textA, midA, show wordA 12 = [109, 97, 110, 121] from rfl, ea, en, Fm.cellsL])
  · -- 13
    have hw : (rulesT.drop 39).take 1 = [.str [115, 104, 97, 114, 101]] := rfl
    obtain ⟨a, rfl⟩ : ∃ a, l = [a] := by
      have : l.length = 1 := by simp [arityA] at s1; omega
      match l, this with
      | [a], _ => exact ⟨a, rfl⟩
    simp only [shpAL, Fm.nodesL, Bool.and_eq_true] at s4 hN hb
    have ea := ih a (by omega) (by omega) s4.1
    have la := textA_len a s4.1
    simp at ea
    clear ih hsh
    simp only [textA, midA]
    generalize textA a = ta at la ea ⊢
    generalize Lib.itoa n = dn at ln en ⊢
    generalize Lib.itoa q = dm at lm em ⊢
    simp [Tryz.f35, a35, reg35, draw35, dok35, hw, textA, midA, show wordA 13 = [115, 104, 97, 114, 101] from rfl, ea, en, em, Fm.cellsL]
    repeat (rw [if_pos (by omega)]; simp [Tryz.f35, a35, reg35, draw35, dok35, hw, textA, midA, show wordA 13 = [115, 104, 97, 114, 101] from rfl, ea, en, em, Fm.cellsL])
set_option maxHeartbeats 8000000 in
theorem ev_RText7 (N : Nat) : ∀ (a : Fm), a.nodes ≤ N → a.nodes ≤ 1000000 → shpA a = true → ∀ (m : Mem), evCall C0 12 [.agg a.cells] m = some (.ret (.str (textA a)), m) := by
  induction N with
  | zero => intro a hN; have := a.nodes_pos; omega
  | succ N ih =>
  rintro ⟨k, n, q, l⟩ hN hb hsh m
  obtain ⟨s1, s2, s3, s4⟩ := shpA_eq hsh
  have hk := arityA_bd (k := k) (by omega)
  rw [Fm.nodes_eq] at hN hb
  simp only [Fm.args_mk] at hN hb
  have ln := itoa7 s2.1 s2.2
  have lm := itoa7 s3.1 s3.2
  have en := ev_Digits n (by omega) (by omega)
  have em := ev_Digits q (by omega) (by omega)
  rw [evCall_body C0 (C0_ext _ (by decide)) (by rw [C0_P]; exact Tryz.func12) rfl (by rw [C0_ann]; rfl) (by rw [C0_ann]; rfl) (by decide) (by simp [Tryz.f12])]
  have : k = 0 ∨ k = 1 ∨ k = 2 ∨ k = 3 ∨ k = 4 ∨ k = 5 ∨ k = 6 ∨ k = 7 ∨ k = 8 ∨ k = 9 ∨ k = 10 ∨ k = 11 ∨ k = 12 ∨ k = 13 := by omega
  rcases this with rfl | rfl | rfl | rfl | rfl | rfl | rfl | rfl | rfl | rfl | rfl | rfl | rfl | rfl
  · -- 0
    have hw := ev_word 0 (by omega) (by omega)
    rw [show wordA 0 = [116, 111, 112] from rfl] at hw
    have : l = [] := by cases l with | nil => rfl | cons _ _ => simp [arityA] at s1; try omega
    subst this
    simp [Tryz.f12, a12, reg12, draw12, dok12, hw, textA, midA, show wordA 0 = [116, 111, 112] from rfl]
  · -- 1
    have hw := ev_word 1 (by omega) (by omega)
    rw [show wordA 1 = [110, 111, 116] from rfl] at hw
    obtain ⟨a, rfl⟩ : ∃ a, l = [a] := by
      have : l.length = 1 := by simp [arityA] at s1; omega
      match l, this with
      | [a], _ => exact ⟨a, rfl⟩
    simp only [shpAL, Fm.nodesL, Bool.and_eq_true] at s4 hN hb
    have ea := ih a (by omega) (by omega) s4.1
    have la := textA_len a s4.1
    simp at ea
    clear ih hsh
    simp only [textA, midA]
    generalize textA a = ta at la ea ⊢
    simp [Tryz.f12, a12, reg12, draw12, dok12, hw, textA, midA, show wordA 1 = [110, 111, 116] from rfl, ea, Fm.cellsL]
    repeat (rw [if_pos (by omega)]; simp [Tryz.f12, a12, reg12, draw12, dok12, hw, textA, midA, show wordA 1 = [110, 111, 116] from rfl, ea, Fm.cellsL])
  · -- 2
    have hw := ev_word 2 (by omega) (by omega)
    rw [show wordA 2 = [97, 110, 100] from rfl] at hw
    obtain ⟨a, b, rfl⟩ : ∃ a b, l = [a, b] := by
      have : l.length = 2 := by simp [arityA] at s1; omega
      match l, this with
      | [a, b], _ => exact ⟨a, b, rfl⟩
    simp only [shpAL, Fm.nodesL, Bool.and_eq_true] at s4 hN hb
    have ea := ih a (by omega) (by omega) s4.1
    have eb := ih b (by omega) (by omega) s4.2.1
    have la := textA_len a s4.1
    have lb := textA_len b s4.2.1
    simp at ea eb
    clear ih hsh
    simp only [textA]
    generalize textA a = ta at la ea ⊢
    generalize textA b = tb at lb eb ⊢
    simp [Tryz.f12, a12, reg12, draw12, dok12, hw, textA, midA, show wordA 2 = [97, 110, 100] from rfl, ea, eb, Fm.cellsL]
    repeat (rw [if_pos (by omega)]; simp [Tryz.f12, a12, reg12, draw12, dok12, hw, textA, midA, show wordA 2 = [97, 110, 100] from rfl, ea, eb, Fm.cellsL])
  · -- 3
    have hw := ev_word 3 (by omega) (by omega)
    rw [show wordA 3 = [115, 116, 101, 112] from rfl] at hw
    obtain ⟨a, rfl⟩ : ∃ a, l = [a] := by
      have : l.length = 1 := by simp [arityA] at s1; omega
      match l, this with
      | [a], _ => exact ⟨a, rfl⟩
    simp only [shpAL, Fm.nodesL, Bool.and_eq_true] at s4 hN hb
    have ea := ih a (by omega) (by omega) s4.1
    have la := textA_len a s4.1
    simp at ea
    clear ih hsh
    simp only [textA, midA]
    generalize textA a = ta at la ea ⊢
    simp [Tryz.f12, a12, reg12, draw12, dok12, hw, textA, midA, show wordA 3 = [115, 116, 101, 112] from rfl, ea, Fm.cellsL]
    repeat (rw [if_pos (by omega)]; simp [Tryz.f12, a12, reg12, draw12, dok12, hw, textA, midA, show wordA 3 = [115, 116, 101, 112] from rfl, ea, Fm.cellsL])
  · -- 4
    have hw := ev_word 4 (by omega) (by omega)
    rw [show wordA 4 = [97, 116] from rfl] at hw
    obtain ⟨a, rfl⟩ : ∃ a, l = [a] := by
      have : l.length = 1 := by simp [arityA] at s1; omega
      match l, this with
      | [a], _ => exact ⟨a, rfl⟩
    simp only [shpAL, Fm.nodesL, Bool.and_eq_true] at s4 hN hb
    have ea := ih a (by omega) (by omega) s4.1
    have la := textA_len a s4.1
    simp at ea
    clear ih hsh
    simp only [textA, midA]
    generalize textA a = ta at la ea ⊢
    simp [Tryz.f12, a12, reg12, draw12, dok12, hw, textA, midA, show wordA 4 = [97, 116] from rfl, ea, Fm.cellsL]
    repeat (rw [if_pos (by omega)]; simp [Tryz.f12, a12, reg12, draw12, dok12, hw, textA, midA, show wordA 4 = [97, 116] from rfl, ea, Fm.cellsL])
  · -- 5
    have hw := ev_word 5 (by omega) (by omega)
    rw [show wordA 5 = [105, 115] from rfl] at hw
    have : l = [] := by cases l with | nil => rfl | cons _ _ => simp [arityA] at s1; try omega
    subst this
    simp only [textA]
    generalize Lib.itoa n = dn at ln en ⊢
    simp [Tryz.f12, a12, reg12, draw12, dok12, hw, textA, midA, show wordA 5 = [105, 115] from rfl, en]
    repeat (rw [if_pos (by omega)]; simp [Tryz.f12, a12, reg12, draw12, dok12, hw, textA, midA, show wordA 5 = [105, 115] from rfl, en])
  · -- 6
    have hw := ev_word 6 (by omega) (by omega)
    rw [show wordA 6 = [102, 105, 114, 115, 116] from rfl] at hw
    obtain ⟨a, rfl⟩ : ∃ a, l = [a] := by
      have : l.length = 1 := by simp [arityA] at s1; omega
      match l, this with
      | [a], _ => exact ⟨a, rfl⟩
    simp only [shpAL, Fm.nodesL, Bool.and_eq_true] at s4 hN hb
    have ea := ih a (by omega) (by omega) s4.1
    have la := textA_len a s4.1
    simp at ea
    clear ih hsh
    simp only [textA, midA]
    generalize textA a = ta at la ea ⊢
    simp [Tryz.f12, a12, reg12, draw12, dok12, hw, textA, midA, show wordA 6 = [102, 105, 114, 115, 116] from rfl, ea, Fm.cellsL]
    repeat (rw [if_pos (by omega)]; simp [Tryz.f12, a12, reg12, draw12, dok12, hw, textA, midA, show wordA 6 = [102, 105, 114, 115, 116] from rfl, ea, Fm.cellsL])
  · -- 7
    have hw := ev_word 7 (by omega) (by omega)
    rw [show wordA 7 = [115, 101, 99, 111, 110, 100] from rfl] at hw
    obtain ⟨a, rfl⟩ : ∃ a, l = [a] := by
      have : l.length = 1 := by simp [arityA] at s1; omega
      match l, this with
      | [a], _ => exact ⟨a, rfl⟩
    simp only [shpAL, Fm.nodesL, Bool.and_eq_true] at s4 hN hb
    have ea := ih a (by omega) (by omega) s4.1
    have la := textA_len a s4.1
    simp at ea
    clear ih hsh
    simp only [textA, midA]
    generalize textA a = ta at la ea ⊢
    simp [Tryz.f12, a12, reg12, draw12, dok12, hw, textA, midA, show wordA 7 = [115, 101, 99, 111, 110, 100] from rfl, ea, Fm.cellsL]
    repeat (rw [if_pos (by omega)]; simp [Tryz.f12, a12, reg12, draw12, dok12, hw, textA, midA, show wordA 7 = [115, 101, 99, 111, 110, 100] from rfl, ea, Fm.cellsL])
  · -- 8
    have hw := ev_word 8 (by omega) (by omega)
    rw [show wordA 8 = [108, 101, 102, 116] from rfl] at hw
    obtain ⟨a, rfl⟩ : ∃ a, l = [a] := by
      have : l.length = 1 := by simp [arityA] at s1; omega
      match l, this with
      | [a], _ => exact ⟨a, rfl⟩
    simp only [shpAL, Fm.nodesL, Bool.and_eq_true] at s4 hN hb
    have ea := ih a (by omega) (by omega) s4.1
    have la := textA_len a s4.1
    simp at ea
    clear ih hsh
    simp only [textA, midA]
    generalize textA a = ta at la ea ⊢
    simp [Tryz.f12, a12, reg12, draw12, dok12, hw, textA, midA, show wordA 8 = [108, 101, 102, 116] from rfl, ea, Fm.cellsL]
    repeat (rw [if_pos (by omega)]; simp [Tryz.f12, a12, reg12, draw12, dok12, hw, textA, midA, show wordA 8 = [108, 101, 102, 116] from rfl, ea, Fm.cellsL])
  · -- 9
    have hw := ev_word 9 (by omega) (by omega)
    rw [show wordA 9 = [114, 105, 103, 104, 116] from rfl] at hw
    obtain ⟨a, rfl⟩ : ∃ a, l = [a] := by
      have : l.length = 1 := by simp [arityA] at s1; omega
      match l, this with
      | [a], _ => exact ⟨a, rfl⟩
    simp only [shpAL, Fm.nodesL, Bool.and_eq_true] at s4 hN hb
    have ea := ih a (by omega) (by omega) s4.1
    have la := textA_len a s4.1
    simp at ea
    clear ih hsh
    simp only [textA, midA]
    generalize textA a = ta at la ea ⊢
    simp [Tryz.f12, a12, reg12, draw12, dok12, hw, textA, midA, show wordA 9 = [114, 105, 103, 104, 116] from rfl, ea, Fm.cellsL]
    repeat (rw [if_pos (by omega)]; simp [Tryz.f12, a12, reg12, draw12, dok12, hw, textA, midA, show wordA 9 = [114, 105, 103, 104, 116] from rfl, ea, Fm.cellsL])
  · -- 10
    have hw := ev_word 10 (by omega) (by omega)
    rw [show wordA 10 = [105, 110, 112, 117, 116] from rfl] at hw
    obtain ⟨a, rfl⟩ : ∃ a, l = [a] := by
      have : l.length = 1 := by simp [arityA] at s1; omega
      match l, this with
      | [a], _ => exact ⟨a, rfl⟩
    simp only [shpAL, Fm.nodesL, Bool.and_eq_true] at s4 hN hb
    have ea := ih a (by omega) (by omega) s4.1
    have la := textA_len a s4.1
    simp at ea
    clear ih hsh
    simp only [textA, midA]
    generalize textA a = ta at la ea ⊢
    generalize Lib.itoa n = dn at ln en ⊢
    simp [Tryz.f12, a12, reg12, draw12, dok12, hw, textA, midA, show wordA 10 = [105, 110, 112, 117, 116] from rfl, ea, en, Fm.cellsL]
    repeat (rw [if_pos (by omega)]; simp [Tryz.f12, a12, reg12, draw12, dok12, hw, textA, midA, show wordA 10 = [105, 110, 112, 117, 116] from rfl, ea, en, Fm.cellsL])
  · -- 11
    have hw := ev_word 11 (by omega) (by omega)
    rw [show wordA 11 = [115, 111, 109, 101] from rfl] at hw
    obtain ⟨a, rfl⟩ : ∃ a, l = [a] := by
      have : l.length = 1 := by simp [arityA] at s1; omega
      match l, this with
      | [a], _ => exact ⟨a, rfl⟩
    simp only [shpAL, Fm.nodesL, Bool.and_eq_true] at s4 hN hb
    have ea := ih a (by omega) (by omega) s4.1
    have la := textA_len a s4.1
    simp at ea
    clear ih hsh
    simp only [textA, midA]
    generalize textA a = ta at la ea ⊢
    simp [Tryz.f12, a12, reg12, draw12, dok12, hw, textA, midA, show wordA 11 = [115, 111, 109, 101] from rfl, ea, en, Fm.cellsL]
    repeat (rw [if_pos (by omega)]; simp [Tryz.f12, a12, reg12, draw12, dok12, hw, textA, midA, show wordA 11 = [115, 111, 109, 101] from rfl, ea, en, Fm.cellsL])
  · -- 12
    have hw := ev_word 12 (by omega) (by omega)
    rw [show wordA 12 = [109, 97, 110, 121] from rfl] at hw
    obtain ⟨a, rfl⟩ : ∃ a, l = [a] := by
      have : l.length = 1 := by simp [arityA] at s1; omega
      match l, this with
      | [a], _ => exact ⟨a, rfl⟩
    simp only [shpAL, Fm.nodesL, Bool.and_eq_true] at s4 hN hb
    have ea := ih a (by omega) (by omega) s4.1
    have la := textA_len a s4.1
    simp at ea
    clear ih hsh
    simp only [textA, midA]
    generalize textA a = ta at la ea ⊢
    generalize Lib.itoa n = dn at ln en ⊢
    simp [Tryz.f12, a12, reg12, draw12, dok12, hw, textA, midA, show wordA 12 = [109, 97, 110, 121] from rfl, ea, en, Fm.cellsL]
    repeat (rw [if_pos (by omega)]; simp [Tryz.f12, a12, reg12, draw12, dok12, hw, textA, midA, show wordA 12 = [109, 97, 110, 121] from rfl, ea, en, Fm.cellsL])
  · -- 13
    have hw := ev_word 13 (by omega) (by omega)
    rw [show wordA 13 = [115, 104, 97, 114, 101] from rfl] at hw
    obtain ⟨a, rfl⟩ : ∃ a, l = [a] := by
      have : l.length = 1 := by simp [arityA] at s1; omega
      match l, this with
      | [a], _ => exact ⟨a, rfl⟩
    simp only [shpAL, Fm.nodesL, Bool.and_eq_true] at s4 hN hb
    have ea := ih a (by omega) (by omega) s4.1
    have la := textA_len a s4.1
    simp at ea
    clear ih hsh
    simp only [textA, midA]
    generalize textA a = ta at la ea ⊢
    generalize Lib.itoa n = dn at ln en ⊢
    generalize Lib.itoa q = dm at lm em ⊢
    simp [Tryz.f12, a12, reg12, draw12, dok12, hw, textA, midA, show wordA 13 = [115, 104, 97, 114, 101] from rfl, ea, en, em, Fm.cellsL]
    repeat (rw [if_pos (by omega)]; simp [Tryz.f12, a12, reg12, draw12, dok12, hw, textA, midA, show wordA 13 = [115, 104, 97, 114, 101] from rfl, ea, en, em, Fm.cellsL])
@[simp] theorem closed_rd7 (nb nr : Nat) (s : RS) : (rd s).all (closed nb nr) = true := by
  obtain ⟨l, b⟩ := s
  simp
theorem tail_lt7 {l : List (List UInt8)} {t : List UInt8} (h : l.head? = some t) : l.tail.length < l.length := by
  cases l with
  | nil => cases h
  | cons a r => simp
theorem takeR_lt7 {s : RS} {t : List UInt8} (h : s.1.head? = some t) : (takeR t s).1.length < s.1.length := by
  unfold takeR
  rw [if_pos h]
  exact tail_lt7 h
theorem ev_LString (f : Fun) (a : Fm) (hfn : f.nodes ≤ 1000000000) (hb : a.nodes ≤ 1000000000) (m : Mem) :
    evCall C0 10 [.agg f.cells, .agg a.cells] m = some (.ret (.tup [.str (if okF f && isFm f a then textA a else []), .int .i64 (if okF f then (if isFm f a then 0 else 70) else 10)]), m) := by
  rw [evCall_body C0 (C0_ext _ (by decide)) (by rw [C0_P]; exact Tryz.func10) rfl (by rw [C0_ann]; rfl) (by rw [C0_ann]; rfl) (by decide) (by simp [Tryz.f10])]
  have h1 := ev_CheckA f a hfn hb
  simp at h1
  cases c1 : okF f
  · simp [c1] at h1
    simp [Tryz.f10, a10, reg10, h1, c1]
  cases c2 : isFm f a
  · simp [c1, c2] at h1
    simp [Tryz.f10, a10, reg10, h1, c1, c2]
  have hs := isFm_shp ((okF_iff f).1 c1).2.2 c2
  have h2 := ev_LText a.nodes a (Nat.le_refl _) (by omega) hs.1
  simp at h2
  simp [c1, c2] at h1
  simp [Tryz.f10, a10, reg10, h1, h2, c1, c2]
def numM (s : RS) : Int × RS := (numR (digR s).1, ((digR s).2.1, (digR s).2.2 || (decide (1 < (digR s).1.length) && decide ((digR s).1.head? = some 48))))
theorem numM_suffix (s : RS) : (numM s).2.1 <:+ s.1 := digR_suffix s
theorem digR_cons {s : RS} (h : TkOk s.1) : ∃ c r, (digR s).1 = c :: r := by
  unfold digR
  split
  · split
    · exact ⟨_, _, rfl⟩
    · exact ⟨48, [], rfl⟩
  · exact ⟨48, [], rfl⟩
theorem digR_fine {s : RS} (h : TkOk s.1) : (digR s).1.length ≤ 1000000 ∧ ∀ b, b ∈ (digR s).1 → isDig b = true := by
  have h0 : ∀ b : UInt8, b ∈ [(48 : UInt8)] → isDig b = true := by intro b hb; simp at hb; subst hb; rfl
  unfold digR
  split
  · rename_i c r q he
    obtain ⟨c', r', e1, e2, e3⟩ := h (c :: r) (by rw [he]; simp)
    cases e1
    split
    · rename_i hd
      exact ⟨e2, e3 hd⟩
    · exact ⟨by simp, h0⟩
  · exact ⟨by simp, h0⟩
set_option maxHeartbeats 2000000 in
theorem ev_numM (id : Nat) (s : RS) (m : Mem) (hl : s.1.length ≤ 1000000) (hk : TkOk s.1) (hbx : m.bx[id]? = some (rd s)) : evCall C0 84 [.ptr id 0] m = some (.ret (.int .i64 (numM s).1), ⟨m.bx.set id (rd (numM s).2), m.rw⟩) := by
  have hid : id < m.bx.length := (List.getElem?_eq_some_iff.1 hbx).1
  rw [evCall_body C0 (C0_ext _ (by decide)) (by rw [C0_P]; exact Tryz.func84) rfl (by rw [C0_ann]; rfl) (by rw [C0_ann]; rfl) (by decide) (by simp [Tryz.f84])]
  have e1 := ev_RDigits id s m hl hk hbx
  have hdf := digR_fine hk
  obtain ⟨c, r, hcr⟩ := digR_cons hk
  have e2 := ev_Number (digR s).1 hdf.1 hdf.2
  unfold numM
  generalize digR s = x at *
  obtain ⟨d, q, b⟩ := x
  dsimp only at *
  subst hcr
  simp at e1 e2
  cases b with
  | true => simp [Tryz.f84, a84, reg84, hid, e1, e2, setCells, leave_set0]
  | false =>
    have hr0 : (0 : Int) < r.length + 1 := by omega
    cases r with
    | nil => simp [Tryz.f84, a84, reg84, hid, e1, e2, setCells, leave_set0]
    | cons c2 r =>
      have h2 : (1 : Int) < r.length + 1 + 1 := by omega
      have h3 : (0 : Int) < r.length + 1 + 1 := by omega
      by_cases hc : c = 48
      · subst hc
        simp [Tryz.f84, a84, reg84, hid, e1, e2, setCells, leave_set0, h2, h3]
      · have hc' : ¬ (c.toNat : Int) = 48 := fun e => hc ((byte_eq c 48).1 e)
        simp [Tryz.f84, a84, reg84, hid, e1, e2, setCells, leave_set0, h2, h3, hc, hc']
theorem opL_word : ∀ k : Nat, k ≤ 13 → opL (wordA k) = k := by decide
theorem word_opL (t : List UInt8) (h : 0 ≤ opL t) : wordA (opL t) = t := by
  have key : ∀ (l : List (List UInt8 × Int × Int)) (i : Nat), 0 ≤ opIx t l i → ∃ j p, l[j]? = some p ∧ p.1 = t ∧ opIx t l i = ((i + j : Nat) : Int) := by
    intro l
    induction l with
    | nil => intro i h; simp [opIx] at h
    | cons p r ih =>
      intro i h
      rw [opIx] at h ⊢
      split
      · rename_i hp; exact ⟨0, p, rfl, hp, by simp⟩
      · rename_i hp
        rw [if_neg hp] at h
        obtain ⟨j, q, h1, h2, h3⟩ := ih (i + 1) h
        exact ⟨j + 1, q, by simpa using h1, h2, by rw [h3]; congr 1; omega⟩
  obtain ⟨j, p, h1, h2, h3⟩ := key rulesL 0 h
  unfold opL at *
  rw [h3]
  unfold wordA
  rw [List.getD_eq_getElem?_getD, show ((0 + j : Nat) : Int).toNat = j by omega, h1]
  exact h2
def opS (h : Option (List UInt8)) : Int := match h with
  | none => -1
  | some t => if opL t = 2 then -1 else opL t
theorem opS_le (h : Option (List UInt8)) : opS h = -1 ∨ (0 ≤ opS h ∧ opS h ≤ 13 ∧ opS h ≠ 2) := by
  cases h with
  | none => exact .inl rfl
  | some t =>
    unfold opS
    have := opL_le t
    dsimp only
    split <;> omega
theorem opS_iff (h : Option (List UInt8)) (k : Nat) (hk : k ≤ 13) (h2 : k ≠ 2) : opS h = k ↔ h = some (wordA k) := by
  constructor
  · intro e
    cases h with
    | none => simp only [opS] at e; omega
    | some t =>
      simp only [opS] at e
      split at e
      · omega
      · rw [← e, word_opL t (by omega)]
  · rintro rfl
    simp only [opS]
    rw [opL_word k hk, if_neg (by omega)]
theorem ev_Of7 (k n q : Int) (fl : Bool) (l : List Fm) (m : Mem) : evCall C0 83 [.int .i64 k, .int .i64 n, .int .i64 q, .isl fl l.length (Fm.cellsL l)] m = some (.ret (.agg (Fm.mk k n q l).cells), m) := by
  rw [evCall_body C0 (C0_ext _ (by decide)) (by rw [C0_P]; exact Tryz.func83) rfl (by rw [C0_ann]; rfl) (by rw [C0_ann]; rfl) (by decide) (by simp [Tryz.f83])]
  simp [Tryz.f83, a83, reg83]
abbrev RM := Fm × RS
def andM (fm : RS → RM) (s : RS) : RM :=
  let x := fm (takeR [40] s)
  let y := fm (takeR [97, 110, 100] x.2)
  (.mk 2 0 0 [x.1, y.1], takeR [41] y.2)
def num1M (k : Int) (s : RS) : Int × RS := if k = 5 ∨ k = 10 ∨ k = 12 ∨ k = 13 then numM s else (0, s)
def num2M (k : Int) (s : RS) : Int × RS := if k = 13 then numM (takeR [47] s) else (0, s)
def argM (fm : RS → RM) (k n q : Int) (s : RS) : RM := if arityA k = 1 then (.mk k n q [(fm s).1], (fm s).2) else (.mk k n q [], s)
def opM (fm : RS → RM) (k : Int) (s : RS) : RM :=
  let a := num1M k (takeR (wordA k) s)
  let b := num2M k a.2
  argM fm k a.1 b.1 b.2
def fmM : Nat → RS → RM
  | 0, s => (zeroM, s)
  | n + 1, s => if s.2 then (zeroM, s)
    else if s.1.head? = some [40] then andM (fmM n) s
    else if opS s.1.head? < 0 then (zeroM, (s.1, true))
    else opM (fmM n) (opS s.1.head?) s
theorem num1M_suffix (k : Int) (s : RS) : (num1M k s).2.1 <:+ s.1 := by
  unfold num1M
  split
  · exact numM_suffix s
  · exact List.suffix_refl _
theorem num2M_suffix (k : Int) (s : RS) : (num2M k s).2.1 <:+ s.1 := by
  unfold num2M
  split
  · exact (numM_suffix _).trans (takeR_suffix _ _)
  · exact List.suffix_refl _
section
variable {fm : RS → RM} (hf : ∀ s, (fm s).2.1 <:+ s.1)
include hf
theorem andM_suffix (s : RS) : (andM fm s).2.1 <:+ s.1 := (takeR_suffix _ _).trans ((hf _).trans ((takeR_suffix _ _).trans ((hf _).trans (takeR_suffix _ _))))
theorem argM_suffix (k n q : Int) (s : RS) : (argM fm k n q s).2.1 <:+ s.1 := by
  unfold argM
  split
  · exact hf s
  · exact List.suffix_refl _
theorem opM_suffix (k : Int) (s : RS) : (opM fm k s).2.1 <:+ s.1 := (argM_suffix hf _ _ _ _).trans ((num2M_suffix _ _).trans ((num1M_suffix _ _).trans (takeR_suffix _ _)))
end
theorem fmM_suffix : ∀ n s, (fmM n s).2.1 <:+ s.1
  | 0, s => by rw [fmM]; exact List.suffix_refl _
  | n + 1, s => by
    rw [fmM]
    split
    · exact List.suffix_refl _
    · split
      · exact andM_suffix (fmM_suffix n) s
      · split
        · exact List.suffix_refl _
        · exact opM_suffix (fmM_suffix n) _ s
def FmOkM (id : Nat) (fm : RS → RM) (n : Nat) : Prop := ∀ (s : RS) (m : Mem), TkOk s.1 → s.1.length ≤ 1000000 → s.1.length < n → m.bx[id]? = some (rd s) → evCall C0 46 [.ptr id 0] m = some (.ret (.agg (fm s).1.cells), ⟨m.bx.set id (rd (fm s).2), m.rw⟩)
set_option maxHeartbeats 8000000 in
theorem ev_fmM (id : Nat) : ∀ n, FmOkM id (fmM n) n := by
  intro n
  induction n with
  | zero => intro s m hk hl hn; omega
  | succ n ih =>
  intro s m hk hl hn hbx
  have hid : id < m.bx.length := (List.getElem?_eq_some_iff.1 hbx).1
  have hg : m.bx[id] = rd s := (List.getElem?_eq_some_iff.1 hbx).2
  have hset : m.bx.set id (rd s) = m.bx := by rw [← hg, List.set_getElem_self]
  have hs2 : rd s = [.isl false s.1.length (strs s.1), .bool s.2] := rfl
  rw [fmM]
  rw [evCall_body C0 (C0_ext _ (by decide)) (by rw [C0_P]; exact Tryz.func46) rfl (by rw [C0_ann]; rfl) (by rw [C0_ann]; rfl) (by decide) (by simp [Tryz.f46])]
  have hZ : ∀ L : List (List A), (⟨m.bx ++ L, m.rw⟩ : Mem).bx[id]? = some (rd s) := fun L => by simp [at_lt, hid, hg]
  by_cases hb : s.2 = true
  · rw [if_pos hb]
    simp [Tryz.f46, a46, reg46, loop46, hid, hg, hs2, hb, at_lt]
    rw [← hb, ← hs2, hset]
    simp [zeroM]
  rw [if_neg hb]
  simp only [Bool.not_eq_true] at hb
  have e0 := ev_Sees id [40] s ⟨m.bx ++ [[.int .i64 0, .int .i64 0, .int .i64 0, .nils]], m.rw⟩ hl (hZ _)
  by_cases h40 : s.1.head? = some [40]
  · rw [if_pos h40]
    rw [decide_eq_true h40] at e0
    have e1 := ev_Take id [40] s ⟨m.bx ++ [[.int .i64 0, .int .i64 0, .int .i64 0, .nils]], m.rw⟩ hl (hZ _)
    have hlt := takeR_lt7 h40
    have hsu := takeR_suffix [40] s
    have hk1 := hk.suffix hsu
    unfold andM
    generalize takeR [40] s = s1 at e1 hlt hsu hk1 ⊢
    have e2 := ih s1 ⟨m.bx.set id (rd s1) ++ [[.int .i64 0, .int .i64 0, .int .i64 0, .nils]], m.rw⟩ hk1 (by omega) (by omega) (by simp [at_lt, hid])
    have hs3 := fmM_suffix n s1
    generalize fmM n s1 = x at e2 hs3 ⊢
    obtain ⟨a, s2⟩ := x
    dsimp only at e2 hs3 ⊢
    have e3 := ev_Take id [97, 110, 100] s2 ⟨m.bx.set id (rd s2) ++ [[.int .i64 0, .int .i64 0, .int .i64 0, .nils], a.cells], m.rw⟩ (by have := hs3.length_le; omega) (by simp [at_lt, hid])
    have hs4 := (takeR_suffix [97, 110, 100] s2).trans hs3
    generalize takeR [97, 110, 100] s2 = s4 at e3 hs4 ⊢
    have e4 := ih s4 ⟨m.bx.set id (rd s4) ++ [[.int .i64 0, .int .i64 0, .int .i64 0, .nils], a.cells], m.rw⟩ (hk1.suffix hs4) (by have := hs4.length_le; omega) (by have := hs4.length_le; omega) (by simp [at_lt, hid])
    have hs5 := (fmM_suffix n s4).trans hs4
    generalize fmM n s4 = y at e4 hs5 ⊢
    obtain ⟨b, s5⟩ := y
    dsimp only at e4 hs5 ⊢
    have e5 := ev_Take id [41] s5 ⟨m.bx.set id (rd s5) ++ [[.int .i64 0, .int .i64 0, .int .i64 0, .nils], a.cells, b.cells], m.rw⟩ (by have := hs5.length_le; omega) (by simp [at_lt, hid])
    generalize takeR [41] s5 = s6 at e5 ⊢
    have e6 := ev_Of7 2 0 0 true [a, b]
    simp [Fm.cellsL] at e6
    simp [set_lt, hid] at e0 e1 e2 e3 e4 e5
    simp [Tryz.f46, a46, reg46, loop46, at_lt, set_lt, hid, hg, hs2, hb, e0, e1, e2, e3, e4, e5, e6, Fm.cellsL, leave_setb]
  rw [if_neg h40]
  rw [decide_eq_false h40] at e0
  simp [Tryz.f46, a46, reg46, loop46, at_lt, hid, hg, hs2, hb, e0]
  obtain ⟨o, ho⟩ : ∃ o, opS s.1.head? = o := ⟨_, rfl⟩
  have hoL := opS_le s.1.head?
  rw [ho] at hoL ⊢
  rw [loop_midP (fun k : Nat => ⟨[(0, .ptr id 0), (2, .ptr m.bx.length 0), (5, .int .i64 (if o < k then o else -1)), (6, .int .i64 k)], ⟨m.bx ++ [[.int .i64 0, .int .i64 0, .int .i64 0, .nils]], m.rw⟩⟩) (fun _ => some (.normal, ⟨[(0, .ptr id 0), (2, .ptr m.bx.length 0), (5, .int .i64 o), (6, .int .i64 14), (30, .bool false)], ⟨m.bx ++ [[.int .i64 0, .int .i64 0, .int .i64 0, .nils]], m.rw⟩⟩)) (fun k => 14 - k) (fun k => k ≤ 14) 0 ?_ rfl ?_ ?_ ?_]
  rotate_left
  · have : (if o < 0 then o else -1) = -1 := by split <;> omega
    simp [Tryz.f46, a46, reg46, loop46, this]
  · omega
  · intro x; simp [Tryz.f46, a46, reg46, loop46]
  · intro k hk hrec
    by_cases hlt : k < 14
    · have hlt' : (k : Int) ≤ 13 := by omega
      have w2 : IntKind.i64.wrap (k + 1) = k + 1 := wrap_id _ (by omega)
      have hid1 : id < m.bx.length + 1 := by omega
      by_cases h2 : k = 2
      · subst h2
        have : (if o < 3 then o else -1) = if o < 2 then o else (-1 : Int) := by split <;> split <;> omega
        have w3 : IntKind.i64.wrap 3 = 3 := by decide
        simp [round, Tryz.f46, a46, reg46, loop46, endRound_M0, hid1, w3]
        refine hrec 3 _ _ ?_ ?_ ?_ ?_
        · omega
        · omega
        · simp [this]
        · rfl
      have hn2 : ¬ (k : Int) = 2 := by omega
      have ew := ev_word k (by omega) (by omega)
      have es := ev_Sees id (wordA k) s ⟨m.bx ++ [[.int .i64 0, .int .i64 0, .int .i64 0, .nils]], m.rw⟩ hl (hZ _)
      by_cases hw : s.1.head? = some (wordA k)
      · have hok : o = k := by rw [← ho]; exact (opS_iff _ k (by omega) h2).2 hw
        rw [decide_eq_true hw] at es
        simp [round, Tryz.f46, a46, reg46, loop46, hlt', hn2, w2, ew, es, endRound_M0, hid1]
        refine hrec (k + 1) _ _ ?_ ?_ ?_ ?_
        · omega
        · omega
        · subst hok
          simp
          omega
        · rfl
      · have hok : ¬ o = k := fun e => hw ((opS_iff _ k (by omega) h2).1 (by rw [ho, e]))
        rw [decide_eq_false hw] at es
        have : (if o < ((k + 1 : Nat) : Int) then o else -1) = if o < k then o else (-1 : Int) := by split <;> split <;> omega
        simp [round, Tryz.f46, a46, reg46, loop46, hlt', hn2, w2, ew, es, endRound_M0, hid1]
        refine hrec (k + 1) _ _ ?_ ?_ ?_ ?_
        · omega
        · omega
        · rw [this]
          simp
        · rfl
    · clear hrec
      have : k = 14 := by omega
      subst this
      have : (if o < 14 then o else -1) = o := by split <;> omega
      simp [round, Tryz.f46, a46, reg46, loop46, this]
  by_cases hneg : o < 0
  · rw [if_pos hneg]
    simp [Tryz.f46, a46, reg46, loop46, at_lt, set_lt, hid, hg, hs2, hb, hneg, setCells, leave_setb, zeroM]
  rw [if_neg hneg]
  have hp0 : 0 ≤ o := by omega
  have ew := ev_word o hp0 (by omega)
  have e1 := ev_Take id (wordA o) s ⟨m.bx ++ [[.int .i64 0, .int .i64 0, .int .i64 0, .nils]], m.rw⟩ hl (hZ _)
  have hhd : s.1.head? = some (wordA o) := by
    have := (opS_iff s.1.head? o.toNat (by omega) (by omega)).1 (by omega)
    rw [show ((o.toNat : Nat) : Int) = o by omega] at this
    exact this
  have hlt := takeR_lt7 hhd
  have hsu := takeR_suffix (wordA o) s
  unfold opM
  generalize takeR (wordA o) s = s1 at e1 hlt hsu ⊢
  have hk1 := hk.suffix hsu
  simp [set_lt, hid] at e1
  have ea := ev_ArityA o
  clear e0 hoL
  by_cases k5 : o = 5
  · subst k5
    have ea : ∀ m, evCall C0 85 [.int .i64 5] m = some (.ret (.int .i64 0), m) := ea
    simp only [num1M, num2M]
    rw [if_pos (by decide), if_neg (by decide)]
    have e2 := ev_numM id s1 ⟨m.bx.set id (rd s1) ++ [[.int .i64 0, .int .i64 0, .int .i64 0, .nils], [.int .i64 5, .int .i64 0, .int .i64 0, .nils]], m.rw⟩ (by omega) hk1 (by simp [at_lt, hid])
    have hst := numM_suffix s1
    generalize numM s1 = z at e2 hst ⊢
    obtain ⟨x, s2⟩ := z
    dsimp only at e2 hst ⊢
    have hl9 := hst.length_le
    unfold argM
    rw [if_neg (by decide)]
    simp [set_lt, hid] at e2
    simp [Tryz.f46, a46, reg46, loop46, at_lt, set_lt, hid, hg, hs2, hb, ew, e1, e2, ea, setCells, Fm.cellsL, leave_setb]
  by_cases k10 : o = 10
  · subst k10
    have ea : ∀ m, evCall C0 85 [.int .i64 10] m = some (.ret (.int .i64 1), m) := ea
    simp only [num1M, num2M]
    rw [if_pos (by decide), if_neg (by decide)]
    have e2 := ev_numM id s1 ⟨m.bx.set id (rd s1) ++ [[.int .i64 0, .int .i64 0, .int .i64 0, .nils], [.int .i64 10, .int .i64 0, .int .i64 0, .nils]], m.rw⟩ (by omega) hk1 (by simp [at_lt, hid])
    have hst := numM_suffix s1
    generalize numM s1 = z at e2 hst ⊢
    obtain ⟨x, s2⟩ := z
    dsimp only at e2 hst ⊢
    have hl9 := hst.length_le
    unfold argM
    rw [if_pos (by decide)]
    have e9 := ih s2 ⟨m.bx.set id (rd s2) ++ [[.int .i64 0, .int .i64 0, .int .i64 0, .nils], [.int .i64 10, .int .i64 x, .int .i64 0, .nils]], m.rw⟩ (hk1.suffix hst) (by omega) (by omega) (by simp [at_lt, hid])
    generalize fmM n s2 = y at e9 ⊢
    obtain ⟨b, s9⟩ := y
    simp [set_lt, hid] at e2 e9
    simp [Tryz.f46, a46, reg46, loop46, at_lt, set_lt, hid, hg, hs2, hb, ew, e1, e2, ea, e9, setCells, Fm.cellsL, leave_setb]
  by_cases k12 : o = 12
  · subst k12
    have ea : ∀ m, evCall C0 85 [.int .i64 12] m = some (.ret (.int .i64 1), m) := ea
    simp only [num1M, num2M]
    rw [if_pos (by decide), if_neg (by decide)]
    have e2 := ev_numM id s1 ⟨m.bx.set id (rd s1) ++ [[.int .i64 0, .int .i64 0, .int .i64 0, .nils], [.int .i64 12, .int .i64 0, .int .i64 0, .nils]], m.rw⟩ (by omega) hk1 (by simp [at_lt, hid])
    have hst := numM_suffix s1
    generalize numM s1 = z at e2 hst ⊢
    obtain ⟨x, s2⟩ := z
    dsimp only at e2 hst ⊢
    have hl9 := hst.length_le
    unfold argM
    rw [if_pos (by decide)]
    have e9 := ih s2 ⟨m.bx.set id (rd s2) ++ [[.int .i64 0, .int .i64 0, .int .i64 0, .nils], [.int .i64 12, .int .i64 x, .int .i64 0, .nils]], m.rw⟩ (hk1.suffix hst) (by omega) (by omega) (by simp [at_lt, hid])
    generalize fmM n s2 = y at e9 ⊢
    obtain ⟨b, s9⟩ := y
    simp [set_lt, hid] at e2 e9
    simp [Tryz.f46, a46, reg46, loop46, at_lt, set_lt, hid, hg, hs2, hb, ew, e1, e2, ea, e9, setCells, Fm.cellsL, leave_setb]
  by_cases k13 : o = 13
  · subst k13
    have ea : ∀ m, evCall C0 85 [.int .i64 13] m = some (.ret (.int .i64 1), m) := ea
    simp only [num1M, num2M]
    rw [if_pos (by decide), if_pos (by decide)]
    have e2 := ev_numM id s1 ⟨m.bx.set id (rd s1) ++ [[.int .i64 0, .int .i64 0, .int .i64 0, .nils], [.int .i64 13, .int .i64 0, .int .i64 0, .nils]], m.rw⟩ (by omega) hk1 (by simp [at_lt, hid])
    have hst := numM_suffix s1
    generalize numM s1 = z at e2 hst ⊢
    obtain ⟨x, s2⟩ := z
    dsimp only at e2 hst ⊢
    have e3 := ev_Take id [47] s2 ⟨m.bx.set id (rd s2) ++ [[.int .i64 0, .int .i64 0, .int .i64 0, .nils], [.int .i64 13, .int .i64 x, .int .i64 0, .nils]], m.rw⟩ (by have := hst.length_le; omega) (by simp [at_lt, hid])
    have hst3 := (takeR_suffix [47] s2).trans hst
    generalize takeR [47] s2 = s3 at e3 hst3 ⊢
    have e4 := ev_numM id s3 ⟨m.bx.set id (rd s3) ++ [[.int .i64 0, .int .i64 0, .int .i64 0, .nils], [.int .i64 13, .int .i64 x, .int .i64 0, .nils]], m.rw⟩ (by have := hst3.length_le; omega) (hk1.suffix hst3) (by simp [at_lt, hid])
    have hst4 := (numM_suffix s3).trans hst3
    generalize numM s3 = z at e4 hst4 ⊢
    obtain ⟨x4, s4⟩ := z
    dsimp only at e4 hst4 ⊢
    have hl9 := hst4.length_le
    unfold argM
    rw [if_pos (by decide)]
    have e9 := ih s4 ⟨m.bx.set id (rd s4) ++ [[.int .i64 0, .int .i64 0, .int .i64 0, .nils], [.int .i64 13, .int .i64 x, .int .i64 x4, .nils]], m.rw⟩ (hk1.suffix hst4) (by omega) (by omega) (by simp [at_lt, hid])
    generalize fmM n s4 = y at e9 ⊢
    obtain ⟨b, s9⟩ := y
    simp [set_lt, hid] at e2 e3 e4 e9
    simp [Tryz.f46, a46, reg46, loop46, at_lt, set_lt, hid, hg, hs2, hb, ew, e1, e2, e3, e4, ea, e9, setCells, Fm.cellsL, leave_setb]
  simp only [num1M, num2M]
  rw [if_neg (by omega), if_neg (by omega)]
  unfold argM
  by_cases ka : arityA o = 1
  · rw [if_pos ka]
    rw [ka] at ea
    have e9 := ih s1 ⟨m.bx.set id (rd s1) ++ [[.int .i64 0, .int .i64 0, .int .i64 0, .nils], [.int .i64 o, .int .i64 0, .int .i64 0, .nils]], m.rw⟩ hk1 (by omega) (by omega) (by simp [at_lt, hid])
    generalize fmM n s1 = y at e9 ⊢
    obtain ⟨b, s9⟩ := y
    simp [set_lt, hid] at e9
    simp [Tryz.f46, a46, reg46, loop46, at_lt, set_lt, hid, hg, hs2, hb, hneg, k5, k10, k12, k13, ew, e1, ea, e9, setCells, Fm.cellsL, leave_setb]
  · rw [if_neg ka]
    simp [Tryz.f46, a46, reg46, loop46, at_lt, set_lt, hid, hg, hs2, hb, hneg, k5, k10, k12, k13, ew, e1, ea, ka, setCells, Fm.cellsL, leave_setb]
def simN7 (n n' : Int) : Prop := n = n' ∨ (1048576 < n ∧ 1048576 < n')
mutual
def simA : Fm → Fm → Prop
  | .mk k n q l, .mk k' n' q' l' => k = k' ∧ simN7 n n' ∧ simN7 q q' ∧ simAL l l'
def simAL : List Fm → List Fm → Prop
  | [], [] => True
  | f :: r, g :: q => simA f g ∧ simAL r q
  | _, _ => False
end
mutual
theorem simA_symm : ∀ f g : Fm, simA f g → simA g f
  | .mk k n q l, .mk k' n' q' l', h => by
    rw [simA] at h ⊢
    refine ⟨h.1.symm, ?_, ?_, simAL_symm l l' h.2.2.2⟩
    · rcases h.2.1 with h1 | h1
      · exact .inl h1.symm
      · exact .inr ⟨h1.2, h1.1⟩
    · rcases h.2.2.1 with h1 | h1
      · exact .inl h1.symm
      · exact .inr ⟨h1.2, h1.1⟩
theorem simAL_symm : ∀ f g : List Fm, simAL f g → simAL g f
  | [], [], _ => by rw [simAL]; trivial
  | f :: r, g :: q, h => by
    rw [simAL] at h ⊢
    exact ⟨simA_symm f g h.1, simAL_symm r q h.2⟩
  | [], _ :: _, h => by simp [simAL] at h
  | _ :: _, [], h => by simp [simAL] at h
end
mutual
theorem simA_nodes : ∀ f g : Fm, simA f g → f.nodes = g.nodes
  | .mk k n q l, .mk k' n' q' l', h => by
    rw [simA] at h
    rw [Fm.nodes, Fm.nodes, simAL_nodes l l' h.2.2.2]
theorem simAL_nodes : ∀ f g : List Fm, simAL f g → Fm.nodesL f = Fm.nodesL g
  | [], [], _ => rfl
  | f :: r, g :: q, h => by
    rw [simAL] at h
    rw [Fm.nodesL, Fm.nodesL, simA_nodes f g h.1, simAL_nodes r q h.2]
  | [], _ :: _, h => by simp [simAL] at h
  | _ :: _, [], h => by simp [simAL] at h
end
mutual
theorem simA_eq : ∀ f g : Fm, simA f g → shpA f = true → f = g
  | .mk k n q l, .mk k' n' q' l', h, hs => by
    rw [simA] at h
    obtain ⟨_, h1, h2, h3⟩ := shpA_eq hs
    obtain ⟨rfl, h4, h5, h6⟩ := h
    rw [simAL_eq l l' h6 h3]
    rcases h4 with rfl | h4
    · rcases h5 with rfl | h5
      · rfl
      · omega
    · omega
theorem simAL_eq : ∀ f g : List Fm, simAL f g → shpAL f = true → f = g
  | [], [], _, _ => rfl
  | f :: r, g :: q, h, hs => by
    rw [simAL] at h
    rw [shpAL, Bool.and_eq_true] at hs
    rw [simA_eq f g h.1 hs.1, simAL_eq r q h.2 hs.2]
  | [], _ :: _, h, _ => by simp [simAL] at h
  | _ :: _, [], h, _ => by simp [simAL] at h
end
theorem simA_ok {f : Fun} (hf : shapedF f = true) {a b : Fm} (h : simA a b) : isFm f a = isFm f b ∧ (isFm f a = true → a = b) := by
  have h2 : isFm f a = true → a = b := fun e => simA_eq a b h (isFm_shp hf e).1
  refine ⟨?_, h2⟩
  cases h1 : isFm f a with
  | true => rw [← h2 h1, h1]
  | false =>
    cases h3 : isFm f b with
    | false => rfl
    | true =>
      rw [← simA_eq b a (simA_symm a b h) (isFm_shp hf h3).1, h3] at h1
      cases h1
theorem takeR_bad (w : List UInt8) {s : RS} (h : s.2 = true) : (takeR w s).2 = true := by unfold takeR; split <;> simp [h]
theorem digR_bad {s : RS} (h : s.2 = true) : (digR s).2.2 = true := by
  unfold digR
  repeat' split
  all_goals simp [h]
theorem numM_bad {s : RS} (h : s.2 = true) : (numM s).2.2 = true := by unfold numM; simp [digR_bad h]
theorem fmM_bad (n : Nat) {s : RS} (h : s.2 = true) : (fmM n s).2.2 = true := by
  cases n with
  | zero => rw [fmM]; exact h
  | succ n => rw [fmM, if_pos h]; exact h
theorem argM_bad {fm : RS → RM} (hf : ∀ s, s.2 = true → (fm s).2.2 = true) (k n q : Int) {s : RS} (h : s.2 = true) : (argM fm k n q s).2.2 = true := by
  unfold argM
  split
  · exact hf s h
  · exact h
theorem take_sim (w : List UInt8) (l : List (List UInt8)) : if (takeP w l).1 then takeR w (l, false) = ((takeP w l).2, false) else (takeR w (l, false)).2 = true := by
  cases l with
  | nil => simp [takeP, takeR]
  | cons t r =>
    by_cases h : t = w
    · simp [takeP, takeR, h]
    · simp [takeP, takeR, h]
theorem num_sim7 (l : List (List UInt8)) (hk : TkOk l) : match numP l with
    | (some n, t) => ∃ n', simN7 n n' ∧ numM (l, false) = (n', (t, false))
    | (none, _) => (numM (l, false)).2.2 = true := by
  cases l with
  | nil => simp [numP, numM, digR]
  | cons t r =>
    obtain ⟨c, q, rfl, h1, h2⟩ := hk _ List.mem_cons_self
    simp only [numP, numM, digR, numL]
    cases hd : isDig c with
    | false => simp
    | true =>
      by_cases h0 : c = 48 ∧ q ≠ []
      · obtain ⟨rfl, hq⟩ := h0
        have : 1 < (48 :: q).length := by cases q with | nil => exact absurd rfl hq | cons _ _ => simp
        simp [hq]
        cases q with
        | nil => exact absurd rfl hq
        | cons _ _ => simp
      · have hn : (decide (1 < (c :: q).length) && decide ((c :: q).head? = some 48)) = false := by
          cases q with
          | nil => simp
          | cons x y =>
            have : ¬ c = 48 := fun e => h0 ⟨e, by simp⟩
            simp [this]
        rw [if_neg (fun h => h.elim (fun h => by cases h) h0)]
        dsimp only
        rw [if_pos rfl]
        refine ⟨numR (c :: q), ?_, by rw [hn]; rfl⟩
        unfold numR
        split
        · exact .inl rfl
        · exact .inr ⟨by omega, by omega⟩
theorem nums_sim (k : Int) (l : List (List UInt8)) (hk : TkOk l) : match numsP k l with
    | (some x, t) => ∃ n' q', simN7 x.1 n' ∧ simN7 x.2 q' ∧ (num1M k (l, false)).1 = n' ∧ num2M k (num1M k (l, false)).2 = (q', (t, false))
    | (none, _) => (num2M k (num1M k (l, false)).2).2.2 = true := by
  have h1 := num_sim7 l hk
  unfold numsP
  by_cases hA : k = 5 ∨ k = 10 ∨ k = 12
  · rw [if_pos hA]
    have e1 : num1M k (l, false) = numM (l, false) := by unfold num1M; rw [if_pos (by omega)]
    have e2 : ∀ s : RS, num2M k s = (0, s) := fun s => by unfold num2M; rw [if_neg (by omega)]
    rw [e1, e2]
    cases hn : numP l with
    | mk o t =>
    rw [hn] at h1
    cases o with
    | none => exact h1
    | some n =>
      obtain ⟨n', h2, h3⟩ := h1
      rw [h3]
      exact ⟨n', 0, h2, .inl rfl, rfl, rfl⟩
  rw [if_neg hA]
  by_cases h13 : k = 13
  · rw [if_pos h13]
    have e1 : num1M k (l, false) = numM (l, false) := by unfold num1M; rw [if_pos (by omega)]
    have e2 : ∀ s : RS, num2M k s = numM (takeR [47] s) := fun s => by unfold num2M; rw [if_pos h13]
    rw [e1, e2]
    have hsu := numP_suffix l
    cases hn : numP l with
    | mk o t =>
    rw [hn] at h1 hsu
    cases o with
    | none => exact numM_bad (takeR_bad _ h1)
    | some n =>
      obtain ⟨n', h2, h3⟩ := h1
      rw [h3]
      dsimp only at hsu ⊢
      have h4 := take_sim [47] t
      have h5 := num_sim7 (takeP [47] t).2 (hk.suffix ((takeP_suffix _ _).trans hsu))
      cases hb : (takeP [47] t).1 with
      | false =>
        rw [hb] at h4
        exact numM_bad h4
      | true =>
        rw [hb] at h4
        rw [if_pos rfl] at h4 ⊢
        rw [h4]
        cases hm : numP (takeP [47] t).2 with
        | mk o3 t3 =>
        rw [hm] at h5
        cases o3 with
        | none => exact h5
        | some q =>
          obtain ⟨q', h6, h7⟩ := h5
          exact ⟨n', q', h2, h6, rfl, h7⟩
  · rw [if_neg h13]
    have e1 : num1M k (l, false) = (0, (l, false)) := by unfold num1M; rw [if_neg (by omega)]
    have e2 : ∀ s : RS, num2M k s = (0, s) := fun s => by unfold num2M; rw [if_neg (by omega)]
    rw [e1, e2]
    exact ⟨0, 0, .inl rfl, .inl rfl, rfl, rfl⟩
theorem fm_sim : ∀ n l, TkOk l → l.length < n → match fmL n l with
    | (some a, t) => ∃ a', simA a a' ∧ fmM n (l, false) = (a', (t, false))
    | (none, _) => (fmM n (l, false)).2.2 = true
  | 0, l, _, h => by omega
  | n + 1, [], hk, h => by
    rw [fmL, fmM]
    simp [opS]
  | n + 1, s :: r, hk, h => by
    have hr : r.length < n := by simp at h; omega
    have hkr : TkOk r := hk.suffix (List.suffix_cons s r)
    rw [fmL, fmM, if_neg (show ¬ ((s :: r, false) : RS).2 = true from Bool.false_ne_true)]
    by_cases h40 : s = [40]
    · subst h40
      rw [if_pos rfl, if_pos (show (([40] :: r, false) : RS).1.head? = some [40] from rfl)]
      unfold andP andM
      rw [show takeR [40] ([40] :: r, false) = (r, false) from rfl]
      have h1 := fm_sim n r hkr hr
      have hs1 := fmL_suffix n r
      cases e1 : fmL n r with
      | mk o t =>
      rw [e1] at h1 hs1
      cases o with
      | none => exact takeR_bad _ (fmM_bad n (takeR_bad _ h1))
      | some a =>
      obtain ⟨a', h2, h3⟩ := h1
      rw [h3]
      dsimp only at hs1 ⊢
      have h4 := take_sim [97, 110, 100] t
      have hs4 := (takeP_suffix [97, 110, 100] t).trans hs1
      cases hb : (takeP [97, 110, 100] t).1 with
      | false =>
        rw [hb] at h4
        exact takeR_bad _ (fmM_bad n h4)
      | true =>
      rw [hb] at h4
      rw [if_pos rfl] at h4 ⊢
      rw [h4]
      have h5 := fm_sim n (takeP [97, 110, 100] t).2 (hkr.suffix hs4) (by have := hs4.length_le; omega)
      cases e5 : fmL n (takeP [97, 110, 100] t).2 with
      | mk o5 t5 =>
      rw [e5] at h5
      cases o5 with
      | none => exact takeR_bad _ h5
      | some b =>
      obtain ⟨b', h6, h7⟩ := h5
      rw [h7]
      dsimp only
      have h8 := take_sim [41] t5
      cases hc : (takeP [41] t5).1 with
      | false =>
        rw [hc] at h8
        exact h8
      | true =>
        rw [hc] at h8
        rw [if_pos rfl] at h8 ⊢
        refine ⟨_, ?_, by rw [h8]⟩
        rw [simA, simAL, simAL, simAL]
        exact ⟨rfl, .inl rfl, .inl rfl, h2, h6, trivial⟩
    rw [if_neg h40, if_neg (show ¬ ((s :: r, false) : RS).1.head? = some [40] by simpa using h40)]
    rw [show ((s :: r, false) : RS).1.head? = some s from rfl]
    have hop := opL_le s
    by_cases hneg : opL s < 0 ∨ opL s = 2
    · rw [if_pos hneg]
      have : opS (some s) < 0 := by unfold opS; dsimp only; split <;> omega
      rw [if_pos this]
    rw [if_neg hneg]
    have ho : opS (some s) = opL s := by unfold opS; dsimp only; rw [if_neg (by omega)]
    rw [ho, if_neg (by omega)]
    unfold opM
    have ht : takeR (wordA (opL s)) (s :: r, false) = (r, false) := by rw [word_opL s (by omega)]; simp [takeR]
    rw [ht]
    have h1 := nums_sim (opL s) r hkr
    have hs1 := numsP_suffix (opL s) r
    cases e1 : numsP (opL s) r with
    | mk o t =>
    rw [e1] at h1 hs1
    cases o with
    | none => exact argM_bad (fun s h => fmM_bad n h) _ _ _ h1
    | some x =>
    obtain ⟨n', q', h2, h3, h4, h5⟩ := h1
    dsimp only at hs1 ⊢
    rw [h4, h5]
    unfold argP argM
    by_cases ka : arityA (opL s) = 1
    · rw [if_pos ka, if_pos ka]
      have h6 := fm_sim n t (hkr.suffix hs1) (by have := hs1.length_le; omega)
      cases e6 : fmL n t with
      | mk o6 t6 =>
      rw [e6] at h6
      cases o6 with
      | none => exact h6
      | some a =>
        obtain ⟨a', h7, h8⟩ := h6
        dsimp only
        rw [h8]
        refine ⟨_, ?_, rfl⟩
        rw [simA, simAL, simAL]
        exact ⟨rfl, h2, h3, h7, trivial⟩
    · rw [if_neg ka, if_neg ka]
      refine ⟨_, ?_, rfl⟩
      rw [simA, simAL]
      exact ⟨rfl, h2, h3, trivial⟩
def refL (f : Fun) (s : List UInt8) : Fm × Int :=
  if 40000 < s.length then (zeroM, 2) else match readL s with
    | none => (zeroM, 11)
    | some a => if isFm f a then (a, 0) else (zeroM, 70)
theorem parseL_refL (f : Fun) (s : List UInt8) : parseL f s = if okF f then refL f s else (zeroM, 10) := rfl
theorem lokM {s : List UInt8} {m : Mem} {l : List (List UInt8)} (h : lok s = some l) : tokG m [] (lok s) = some (.ret (.tup [.isl false l.length (strs l), .bool true]), m) := by rw [h]; simp [tokG]
set_option maxHeartbeats 4000000 in
theorem ev_RParse7 (f : Fun) (hf : shapedF f = true) (s : List UInt8) (hs : s.length ≤ 1000000) (m : Mem) : evCall C0 16 [.agg f.cells, .str s] m = some (.ret (.tup [.agg (refL f s).1.cells, .int .i64 (refL f s).2]), m) := by
  rw [evCall_body C0 (C0_ext _ (by decide)) (by rw [C0_P]; exact Tryz.func16) rfl (by rw [C0_ann]; rfl) (by rw [C0_ann]; rfl) (by decide) (by simp [Tryz.f16])]
  unfold refL
  by_cases hl : 40000 < s.length
  · have hl' : (40000 : Int) < s.length := by omega
    simp [Tryz.f16, a16, reg16, hl, hl', zeroM]
  have hl' : ¬ (40000 : Int) < s.length := by omega
  rw [if_neg hl]
  unfold readL
  have et := ev_RTokens s hs ⟨m.bx ++ [f.cells, [.int .i64 0, .int .i64 0, .int .i64 0, .nils]], m.rw⟩
  cases htk : lok s with
  | none =>
    rw [htk] at et
    simp [tokG] at et
    simp [Tryz.f16, a16, reg16, hl, hl', et, zeroM]
  | some l =>
  obtain ⟨hk, hll⟩ := lok_ok s.length s l (Nat.le_refl _) hs htk
  rw [lokM htk] at et
  simp at et
  have e1 := ev_fmM (m.bx.length + 2) (l.length + 1) (l, false) ⟨m.bx ++ [f.cells, [.int .i64 0, .int .i64 0, .int .i64 0, .nils], rd (l, false)], m.rw⟩ hk (by simp only; omega) (by simp) (by simp)
  have hsim := fm_sim (l.length + 1) l hk (by omega)
  have hc := fmL_cost (l.length + 1) l
  have hsl := (fmM_suffix (l.length + 1) (l, false)).length_le
  dsimp only at hsl ⊢
  generalize fmM (l.length + 1) (l, false) = x at e1 hsim hsl ⊢
  obtain ⟨a', q, b⟩ := x
  cases hp : fmL (l.length + 1) l with
  | mk o t =>
  rw [hp] at hsim
  cases o with
  | none =>
    have hb : b = true := hsim
    subst hb
    simp at e1
    simp [Tryz.f16, a16, reg16, hl, hl', et, e1, zeroM]
  | some a =>
    obtain ⟨a2, h1, h2⟩ := hsim
    cases h2
    have hn := hc a q hp
    have hn2 := simA_nodes a a' h1
    have hok := simA_ok hf h1
    simp at e1 hsl
    cases q with
    | cons t0 t =>
      have hp : (0 : Int) < t.length + 1 := by omega
      simp [Tryz.f16, a16, reg16, hl, hl', et, e1, hp, zeroM]
    | nil =>
      have ei := ev_IsA f a' hf (by omega)
      rw [← hok.1] at ei
      cases hi : isFm f a with
      | true =>
        have := hok.2 hi
        subst this
        simp [hi] at ei
        simp [Tryz.f16, a16, reg16, hl, hl', et, e1, ei, hi]
      | false =>
        simp [hi] at ei
        simp [Tryz.f16, a16, reg16, hl, hl', et, e1, ei, hi, zeroM]
def numsT (k n m : Int) : List (List UInt8) := if k = 10 ∨ k = 12 then [Lib.itoa n] else if k = 13 then [Lib.itoa n, [47], Lib.itoa m] else []
def toksA : Fm → List (List UInt8)
  | .mk k n m [] => wordA k :: (if k = 5 then [Lib.itoa n] else [])
  | .mk k n m [a] => wordA k :: (numsT k n m ++ toksA a)
  | .mk k n m (a :: b :: _) => [40] :: (toksA a ++ [97, 110, 100] :: (toksA b ++ [[41]]))
def StopL (r : List UInt8) : Prop := ∀ c q, r = c :: q → isLet c = false ∧ isDig c = false
theorem runN_append {p : UInt8 → Bool} {w r : List UInt8} (hw : ∀ b, b ∈ w → p b = true) (hr : ∀ c q, r = c :: q → p c = false) : runN p (w ++ r) = w.length := by
  induction w with
  | nil =>
    cases r with
    | nil => rfl
    | cons c q => unfold runN; simp [hr c q rfl]
  | cons c w ih =>
    have := ih fun b hb => hw b (by simp [hb])
    unfold runN at this ⊢
    simp [hw c (by simp), this]
theorem lok_word {w r : List UInt8} (h0 : w ≠ []) (hw : ∀ b, b ∈ w → isLet b = true) (hr : StopL r) : lok (w ++ r) = (lok r).map (w :: ·) := by
  cases w with
  | nil => exact absurd rfl h0
  | cons c w =>
    have hc := hw c (by simp)
    have hrun := runN_append (p := isLet) (w := w) (r := r) (fun b hb => hw b (by simp [hb])) (fun c q e => (hr c q e).1)
    rw [List.cons_append, lok_cons, if_neg (cls_isLet hc).2, if_pos hc, hrun, List.drop_left' rfl, List.take_left' rfl]
theorem lok_num {w r : List UInt8} (h0 : w ≠ []) (hw : ∀ b, b ∈ w → isDig b = true) (hr : StopL r) : lok (w ++ r) = (lok r).map (w :: ·) := by
  cases w with
  | nil => exact absurd rfl h0
  | cons c w =>
    have hc := hw c (by simp)
    have hrun := runN_append (p := isDig) (w := w) (r := r) (fun b hb => hw b (by simp [hb])) (fun c q e => (hr c q e).2)
    rw [List.cons_append, lok_cons, if_neg (cls_isDig hc).2, if_neg (by rw [dig_let hc]; simp), if_pos hc, hrun, List.drop_left' rfl, List.take_left' rfl]
theorem lok_sp (r : List UInt8) : lok (32 :: r) = lok r := by rw [lok_cons, if_pos rfl]
theorem lok_mark {c : UInt8} (h : c ∈ marks7) (r : List UInt8) : lok (c :: r) = (lok r).map ([c] :: ·) := by
  have : c = 40 ∨ c = 41 ∨ c = 47 := by simpa [marks7] using h
  rw [lok_cons]
  rcases this with rfl | rfl | rfl <;> rfl
theorem stop_sp (r : List UInt8) : StopL (32 :: r) := fun c q e => by cases e; exact ⟨rfl, rfl⟩
theorem stop_nil : StopL [] := fun c q e => by cases e
theorem stop_cl (r : List UInt8) : StopL (41 :: r) := fun c q e => by cases e; exact ⟨rfl, rfl⟩
theorem wordA_let {k : Int} (h0 : 0 ≤ k) (h1 : k ≤ 13) : wordA k ≠ [] ∧ ∀ b, b ∈ wordA k → isLet b = true := by
  have : ∀ i : Nat, i < 14 → wordA i ≠ [] ∧ ∀ b, b ∈ wordA i → isLet b = true := by decide
  have h := this k.toNat (by omega)
  rwa [show ((k.toNat : Nat) : Int) = k by omega] at h
theorem itoa_dig {n : Int} (h0 : 0 ≤ n) : Lib.itoa n ≠ [] ∧ ∀ b, b ∈ Lib.itoa n → isDig b = true := by
  unfold Lib.itoa
  rw [if_neg (by omega)]
  obtain ⟨b, r, h, _⟩ := dec_ne n.toNat
  exact ⟨by rw [h]; simp, dec_dig _⟩
theorem lok_text : ∀ (a : Fm), shpA a = true → ∀ r, StopL r → lok (textA a ++ r) = (lok r).map (toksA a ++ ·)
  | .mk k n m [], h, r, hr => by
    obtain ⟨ha, h1, h2, _⟩ := shpA_eq h
    have hk := arityA_bd (k := k) (by simp at ha; omega)
    have hw := wordA_let hk.1 hk.2
    rw [textA, toksA]
    by_cases h5 : k = 5
    · rw [if_pos h5, if_pos h5, List.append_assoc, lok_word hw.1 hw.2 (by exact stop_sp _), List.cons_append, lok_sp, lok_num (itoa_dig h1.1).1 (itoa_dig h1.1).2 hr]
      cases lok r <;> simp
    · rw [if_neg h5, if_neg h5, lok_word hw.1 hw.2 hr]
      rfl
  | .mk k n m [a], h, r, hr => by
    obtain ⟨ha, h1, h2, h3⟩ := shpA_eq h
    rw [shpAL, Bool.and_eq_true] at h3
    have hk := arityA_bd (k := k) (by simp at ha; omega)
    have hw := wordA_let hk.1 hk.2
    have ih := lok_text a h3.1 r hr
    rw [textA, toksA]
    unfold midA numsT
    by_cases hA : k = 10 ∨ k = 12
    · rw [if_pos hA, if_pos hA]
      rw [show wordA k ++ (32 :: Lib.itoa n) ++ 32 :: textA a ++ r = wordA k ++ (32 :: (Lib.itoa n ++ (32 :: (textA a ++ r)))) by simp]
      rw [lok_word hw.1 hw.2 (stop_sp _), lok_sp, lok_num (itoa_dig h1.1).1 (itoa_dig h1.1).2 (stop_sp _), lok_sp, ih]
      cases lok r <;> simp
    · rw [if_neg hA, if_neg hA]
      by_cases h13 : k = 13
      · rw [if_pos h13, if_pos h13]
        rw [show wordA k ++ (32 :: (Lib.itoa n ++ ([32, 47, 32] ++ Lib.itoa m))) ++ 32 :: textA a ++ r = wordA k ++ (32 :: (Lib.itoa n ++ (32 :: 47 :: 32 :: (Lib.itoa m ++ (32 :: (textA a ++ r)))))) by simp]
        rw [lok_word hw.1 hw.2 (stop_sp _), lok_sp, lok_num (itoa_dig h1.1).1 (itoa_dig h1.1).2 (stop_sp _), lok_sp, lok_mark (by decide), lok_sp, lok_num (itoa_dig h2.1).1 (itoa_dig h2.1).2 (stop_sp _), lok_sp, ih]
        cases lok r <;> simp
      · rw [if_neg h13, if_neg h13]
        rw [show wordA k ++ [] ++ 32 :: textA a ++ r = wordA k ++ (32 :: (textA a ++ r)) by simp]
        rw [lok_word hw.1 hw.2 (stop_sp _), lok_sp, ih]
        cases lok r <;> simp
  | .mk k n m (a :: b :: q), h, r, hr => by
    obtain ⟨ha, h1, h2, h3⟩ := shpA_eq h
    rw [shpAL, shpAL, Bool.and_eq_true, Bool.and_eq_true] at h3
    have iha := lok_text a h3.1 (32 :: ([97, 110, 100] ++ (32 :: (textA b ++ (41 :: r))))) (stop_sp _)
    have ihb := lok_text b h3.2.1 (41 :: r) (stop_cl _)
    rw [textA, toksA]
    rw [show 40 :: (textA a ++ ([32, 97, 110, 100, 32] ++ (textA b ++ [41]))) ++ r = 40 :: (textA a ++ (32 :: ([97, 110, 100] ++ (32 :: (textA b ++ (41 :: r)))))) by simp]
    rw [lok_mark (by decide), iha, lok_sp, lok_word (by simp) (by decide) (stop_sp _), lok_sp, ihb, lok_mark (by decide)]
    cases lok r <;> simp
theorem numL_back {n : Int} (h0 : 0 ≤ n) (h1 : n ≤ 1048576) : numL (Lib.itoa n) = some n := by
  have hd := itoa_dig h0
  obtain ⟨u, rfl⟩ : ∃ u : Nat, n = u := ⟨n.toNat, by omega⟩
  have e : Lib.itoa (u : Int) = Lib.decDigits u := by unfold Lib.itoa; rw [if_neg (by omega)]; rfl
  rw [e] at hd ⊢
  have hv := dec_val u
  cases hq : Lib.decDigits u with
  | nil => exact absurd hq hd.1
  | cons c q =>
    rw [hq] at hd hv
    have hc := hd.2 c (by simp)
    unfold numL
    dsimp only
    rw [if_neg ?_, hv, if_pos (by omega)]
    rintro (h | h)
    · rw [hc] at h; cases h
    · obtain ⟨rfl, hne⟩ := h
      by_cases hu : 1 ≤ u
      · obtain ⟨b, r, hb, h49⟩ := dec_head u hu
        rw [hq] at hb
        cases hb
        exact absurd h49 (by decide)
      · have : u = 0 := by omega
        subst this
        rw [Lib.decDigits, dif_pos (by omega)] at hq
        cases hq
        exact hne rfl
theorem word_ne {k : Int} (h0 : 0 ≤ k) (h1 : k ≤ 13) : wordA k ≠ [40] ∧ opL (wordA k) = k := by
  have : ∀ i : Nat, i < 14 → wordA i ≠ [40] ∧ opL (wordA i) = i := by decide
  have h := this k.toNat (by omega)
  rwa [show ((k.toNat : Nat) : Int) = k by omega] at h
theorem fm_op {n : Nat} {k : Int} (h0 : 0 ≤ k) (h1 : k ≤ 13) (h2 : k ≠ 2) {r t : List (List UInt8)} {x : Int × Int} (hx : numsP k r = (some x, t)) : fmL (n + 1) (wordA k :: r) = argP (fmL n) k x.1 x.2 t := by
  have hw := word_ne h0 h1
  rw [fmL, if_neg hw.1, hw.2, if_neg (by omega), hx]
theorem nums_back {k n m : Int} (hn : 0 ≤ n ∧ n ≤ 1048576) (hm : 0 ≤ m ∧ m ≤ 1048576) (hz : (k = 5 ∨ k = 10 ∨ k = 12 ∨ k = 13 ∨ n = 0) ∧ (k = 13 ∨ m = 0)) (h5 : k ≠ 5) (t : List (List UInt8)) : numsP k (numsT k n m ++ t) = (some (n, m), t) := by
  have bn := numL_back hn.1 hn.2
  have bm := numL_back hm.1 hm.2
  unfold numsP numsT
  by_cases hA : k = 10 ∨ k = 12
  · rw [if_pos (by omega), if_pos hA]
    have : m = 0 := by omega
    subst this
    simp [numP, bn]
  · rw [if_neg (by omega), if_neg hA]
    by_cases h13 : k = 13
    · rw [if_pos h13, if_pos h13]
      simp [numP, takeP, bn, bm]
    · rw [if_neg h13, if_neg h13]
      have h1 : n = 0 := by omega
      have h2 : m = 0 := by omega
      subst h1 h2
      rfl
theorem fm_back : ∀ (n : Nat) (a : Fm), a.nodes ≤ n → shpA a = true → ∀ t, fmL n (toksA a ++ t) = (some a, t)
  | 0, a, hn, _, _ => by have := a.nodes_pos; omega
  | N + 1, .mk k n m [], hn, h, t => by
    obtain ⟨ha, h1, h2, _⟩ := shpA_eq h
    have hz := shpA_zero h
    have hk := arityA_bd (k := k) (by simp at ha; omega)
    have h02 : k ≠ 2 := by rintro rfl; simp [arityA] at ha
    have hka : ¬ arityA k = 1 := by simp at ha; omega
    rw [toksA, List.cons_append]
    by_cases h5 : k = 5
    · subst h5
      have hm : m = 0 := by omega
      subst hm
      rw [if_pos rfl, fm_op (x := (n, 0)) (t := t) hk.1 hk.2 h02 (by simp [numsP, numP, numL_back h1.1 h1.2])]
      unfold argP
      rw [if_neg hka]
    · rw [if_neg h5]
      have hT : numsT k n m = [] := by
        unfold numsT
        rw [if_neg (by rintro (rfl | rfl) <;> simp [arityA] at ha), if_neg (by rintro rfl; simp [arityA] at ha)]
      have := nums_back h1 h2 hz h5 t
      rw [hT] at this
      rw [fm_op hk.1 hk.2 h02 this]
      unfold argP
      rw [if_neg hka]
  | N + 1, .mk k n m [a], hn, h, t => by
    obtain ⟨ha, h1, h2, h3⟩ := shpA_eq h
    rw [shpAL, Bool.and_eq_true] at h3
    have hz := shpA_zero h
    have hk := arityA_bd (k := k) (by simp at ha; omega)
    have h02 : k ≠ 2 := by rintro rfl; simp [arityA] at ha
    have h5 : k ≠ 5 := by rintro rfl; simp [arityA] at ha
    have hka : arityA k = 1 := by simp at ha; omega
    rw [Fm.nodes, Fm.nodesL, Fm.nodesL] at hn
    have ih := fm_back N a (by omega) h3.1 t
    rw [toksA, List.cons_append, List.append_assoc, fm_op hk.1 hk.2 h02 (nums_back h1 h2 hz h5 _)]
    unfold argP
    rw [if_pos hka, ih]
  | N + 1, .mk k n m (a :: b :: q), hn, h, t => by
    obtain ⟨ha, h1, h2, h3⟩ := shpA_eq h
    rw [shpAL, shpAL, Bool.and_eq_true, Bool.and_eq_true] at h3
    have hz := shpA_zero h
    have hk : k = 2 ∧ q = [] := by
      unfold arityA at ha
      simp at ha
      repeat' split at ha
      all_goals first | omega | skip
      rename_i h2
      refine ⟨h2, ?_⟩
      cases q with
      | nil => rfl
      | cons _ _ => simp at ha; omega
    obtain ⟨rfl, rfl⟩ := hk
    have hn0 : n = 0 := by omega
    have hm0 : m = 0 := by omega
    subst hn0 hm0
    rw [Fm.nodes, Fm.nodesL, Fm.nodesL, Fm.nodesL] at hn
    have iha := fm_back N a (by omega) h3.1 ([97, 110, 100] :: (toksA b ++ ([41] :: t)))
    have ihb := fm_back N b (by omega) h3.2.1 ([41] :: t)
    rw [toksA]
    rw [show [40] :: (toksA a ++ [97, 110, 100] :: (toksA b ++ [[41]])) ++ t = [40] :: (toksA a ++ [97, 110, 100] :: (toksA b ++ ([41] :: t))) by simp]
    rw [fmL, if_pos rfl]
    unfold andP
    rw [iha]
    simp [takeP, ihb]
theorem nodes_toks : ∀ a : Fm, shpA a = true → a.nodes ≤ (toksA a).length
  | .mk k n m [], h => by rw [toksA, Fm.nodes, Fm.nodesL]; simp
  | .mk k n m [a], h => by
    obtain ⟨ha, h1, h2, h3⟩ := shpA_eq h
    rw [shpAL, Bool.and_eq_true] at h3
    have := nodes_toks a h3.1
    rw [toksA, Fm.nodes, Fm.nodesL, Fm.nodesL]
    simp
    omega
  | .mk k n m (a :: b :: q), h => by
    obtain ⟨ha, h1, h2, h3⟩ := shpA_eq h
    rw [shpAL, shpAL, Bool.and_eq_true, Bool.and_eq_true] at h3
    have := nodes_toks a h3.1
    have := nodes_toks b h3.2.1
    have hq : q = [] := by
      cases q with
      | nil => rfl
      | cons _ _ =>
        exfalso
        have hk := arityA_bd (k := k) (by simp at ha; omega)
        unfold arityA at ha
        simp at ha
        repeat' split at ha
        all_goals omega
    subst hq
    rw [toksA, Fm.nodes, Fm.nodesL, Fm.nodesL, Fm.nodesL]
    simp
    omega
theorem text_read {a : Fm} (h : shpA a = true) : readL (textA a) = some a := by
  have h1 := lok_text a h [] stop_nil
  rw [List.append_nil, lok_nil] at h1
  simp at h1
  have h2 := fm_back ((toksA a).length + 1) a (by have := nodes_toks a h; omega) h []
  rw [List.append_nil] at h2
  unfold readL
  rw [h1]
  dsimp only
  rw [h2]
theorem ev_faultA (f : Fun) (a : Fm) (hfn : f.nodes ≤ 1000000000) (hb : a.nodes ≤ 1000000000) (m : Mem) : evCall C0 11 [.agg f.cells, .agg a.cells] m = some (.ret (.int .i64 (if okF f then (if isFm f a then 0 else 70) else 10)), m) := by
  rw [evCall_body C0 (C0_ext _ (by decide)) (by rw [C0_P]; exact Tryz.func11) rfl (by rw [C0_ann]; rfl) (by rw [C0_ann]; rfl) (by decide) (by simp [Tryz.f11])]
  have h1 := ev_Is f (by omega)
  rw [show (decide (0 < leftF f 21) && decide (f.depth ≤ 8) && shapedF f) = isF f from rfl, isF_okF] at h1
  simp at h1
  cases c1 : okF f
  · simp [Tryz.f11, a11, reg11, h1, c1]
  have h2 := ev_IsA f a (((okF_iff f).1 c1).2.2) hb
  simp at h2
  cases c2 : isFm f a <;> simp [Tryz.f11, a11, reg11, h1, h2, c1, c2]
theorem sameA_refl (a : Fm) : sameA a a = true := (sameA_iff a a).2 rfl
def fillZ (i : Nat) : List A := List.replicate i (.int .u8 32) ++ List.replicate (40001 - i) (.int .u8 0)
def blanks : List UInt8 := List.replicate 40001 32
theorem blanks_length : blanks.length = 40001 := List.length_replicate
theorem fillZ_length (i : Nat) (h : i ≤ 40001) : (fillZ i).length = 40001 := by unfold fillZ; rw [List.length_append, List.length_replicate, List.length_replicate]; omega
theorem fillZ_set (i : Nat) (h : i < 40001) : setCells (fillZ i) i [.int .u8 32] = fillZ (i + 1) := by
  unfold setCells fillZ
  have e : 40001 - i = (40001 - (i + 1)) + 1 := by omega
  rw [e, List.replicate_succ]
  have h1 : (List.replicate i (A.int .u8 32)).length = i := List.length_replicate
  rw [show i + [A.int .u8 32].length = i + 1 from rfl]
  rw [List.take_left' h1]
  rw [List.drop_append, h1, List.drop_of_length_le (by rw [h1]; omega), List.nil_append, show i + 1 - i = 1 by omega, List.drop_one, List.tail_cons]
  rw [List.replicate_succ' (n := i)]
theorem fillZ_closed (i nb nr : Nat) : (fillZ i).all (closed nb nr) = true := by
  unfold fillZ
  rw [List.all_append, List.all_replicate, List.all_replicate]
  simp
theorem bytesS_rep (n : Nat) : bytesS (List.replicate n (.int .u8 32)) = some (List.replicate n 32) := by
  induction n with
  | zero => rfl
  | succ n ih => rw [List.replicate_succ, bytesS, ih]; rfl
theorem fillZ_all : fillZ 40001 = List.replicate 40001 (.int .u8 32) := by unfold fillZ; rw [Nat.sub_self, List.replicate_zero, List.append_nil]
theorem make_blank (bx : List (List A)) (R : List Row) : makeSliceA Tryz.prog 31 (.int .i64 40001) (.int .i64 40001) ⟨bx, R⟩ = some (.sl R.length 40001 0 40001, ⟨bx, R ++ [⟨5, fillZ 0⟩]⟩) := by
  have hf : (List.replicate 40001 [A.int .u8 0]).flatten = fillZ 0 := by
    unfold fillZ
    rw [List.replicate_zero, List.nil_append, Nat.sub_zero]
    generalize 40001 = n
    induction n with
    | zero => rfl
    | succ n ih => rw [List.replicate_succ, List.flatten_cons, ih]; rfl
  unfold makeSliceA
  simp [-List.reduceReplicate, -List.flatten_replicate_singleton, hf]
theorem str_blank (bx : List (List A)) (R : List Row) (t : TypeId) : strM Tryz.prog 31 9 (.sl R.length 40001 0 40001) ⟨bx, R ++ [⟨t, fillZ 40001⟩]⟩ = some (.str blanks) := by
  have h1 := fillZ_length 40001 (by omega)
  have h2 : bytesS ((fillZ 40001).take 40001) = some (List.replicate 40001 32) := by
    rw [List.take_of_length_le (by omega), fillZ_all, bytesS_rep]
  have h3 : (List.replicate 40001 (32 : Int)).map (fun b => UInt8.ofNat b.toNat) = blanks := by
    rw [List.map_replicate]; rfl
  unfold strM
  simp [-List.reduceReplicate, isU8, isStr, h1, h2, h3]
attribute [irreducible] fillZ blanks
theorem ev_RSameZ (m : Mem) : evCall C0 14 [.agg [.int .i64 0, .int .i64 0, .int .i64 0, .isl false 0 []], .agg [.int .i64 0, .int .i64 0, .int .i64 0, .nils]] m = some (.ret (.bool true), m) := by
  rw [evCall_body C0 (C0_ext _ (by decide)) (by rw [C0_P]; exact Tryz.func14) rfl (by rw [C0_ann]; rfl) (by rw [C0_ann]; rfl) (by decide) (by simp [Tryz.f14])]
  simp [Tryz.f14, a14, reg14, loop14, draw14, dok14]
  rw [evCode_loop]
  simp [round, Tryz.f14, a14, reg14, loop14, draw14, dok14]
theorem readL_cost {s : List UInt8} (hs : s.length ≤ 1000000) {a : Fm} (h : readL s = some a) : a.nodes ≤ 1000000 := by
  unfold readL at h
  split at h
  · cases h
  · rename_i l hl
    have := (lok_ok s.length s l (Nat.le_refl _) hs hl).2
    split at h
    · rename_i b hb
      cases h
      have := fmL_cost _ _ _ _ hb
      simp at this
      omega
    · cases h
theorem refL_small {f : Fun} {s : List UInt8} (hs : s.length ≤ 1000000) : (refL f s).1.nodes ≤ 1000000 := by
  unfold refL
  split
  · decide
  · split
    · decide
    · rename_i a ha
      split
      · exact readL_cost hs ha
      · decide
set_option maxHeartbeats 16000000 in
theorem ev_LogicTexts (f : Fun) (a : Fm) (s : List UInt8) (huge : Bool) (m : Mem) : evCall C0 3 [.agg f.cells, .agg a.cells, .str s, .bool huge] m = some (.ret (.bool true), m) := by
  rw [evCall_body C0 (C0_ext _ (by decide)) (by rw [C0_P]; exact Tryz.func3) rfl (by rw [C0_ann]; rfl) (by rw [C0_ann]; rfl) (by decide) (by simp [Tryz.f3])]
  have h1 := fun m => ev_Few f 100 m (by omega) (by omega)
  have h2 := fun m => ev_FewA a 4000 m (by omega) (by omega)
  have haw := ev_awake
  simp at h1 h2
  by_cases c1 : 0 < leftF f 101
  case neg => simp [Tryz.f3, a3, reg3, loop3, h1, c1, haw]
  by_cases c2 : 0 < leftA a 4001
  case neg => simp [Tryz.f3, a3, reg3, loop3, h1, c1, h2, c2, haw]
  by_cases hsl : 6000 < s.length
  case pos => simp [Tryz.f3, a3, reg3, loop3, h1, c1, h2, c2, haw, show (6000 : Int) < s.length by omega]
  have hsl' : ¬ (6000 : Int) < s.length := by omega
  have n1 : f.nodes ≤ 1000000000 := by rw [leftF_nodes f 101 (by omega)] at c1; omega
  have n2 : a.nodes ≤ 1000000000 := by rw [leftA_nodes a 4001 (by omega)] at c2; omega
  have e4 := ev_faultA f a n1 n2
  have hS := ev_LString f a n1 n2
  have hI := ev_Is f n1
  rw [show (decide (0 < leftF f 21) && decide (f.depth ≤ 8) && shapedF f) = isF f from rfl, isF_okF] at hI
  have key : ∀ q : List UInt8, q.length ≤ 1000000 → (∀ m, evCall C0 13 [.agg f.cells, .str q] m = some (.ret (.tup [.agg (parseL f q).1.cells, .int .i64 (parseL f q).2]), m)) ∧
      (okF f = true → parseL f q = refL f q ∧ (∀ m, evCall C0 16 [.agg f.cells, .str q] m = some (.ret (.tup [.agg (refL f q).1.cells, .int .i64 (refL f q).2]), m)) ∧ ∀ m, evCall C0 14 [.agg (refL f q).1.cells, .agg (refL f q).1.cells] m = some (.ret (.bool true), m)) := fun q hq => by
    refine ⟨ev_LParse f n1 q hq, fun hok => ⟨by rw [parseL_refL, if_pos hok], ev_RParse7 f ((okF_iff f).1 hok).2.2 q hq, fun m => ?_⟩⟩
    have := ev_RSameA (refL f q).1.nodes (refL f q).1 (refL f q).1 (Nat.le_refl _) (by have := refL_small (f := f) hq; omega) m
    rwa [sameA_refl] at this
  have hzz := ev_RSameZ
  cases huge with
  | false =>
    obtain ⟨k1, k2⟩ := key s (by omega)
    cases hok : okF f with
    | false =>
      have hp : parseL f s = (zeroM, 10) := by rw [parseL_refL, hok]; rfl
      rw [hp] at k1
      simp [hok] at e4 hS hI
      simp [zeroM] at k1
      simp [Tryz.f3, a3, reg3, loop3, h1, c1, h2, c2, hsl', e4, hS, hI, k1, hzz, haw]
    | true =>
      obtain ⟨k0, k3, k4⟩ := k2 hok
      rw [k0] at k1
      generalize refL f s = p at k1 k3 k4
      simp at k1 k3 k4
      cases hfm : isFm f a with
      | false =>
        simp [hok, hfm] at e4 hS hI
        simp [Tryz.f3, a3, reg3, loop3, h1, c1, h2, c2, hsl', e4, hS, hI, k1, k3, k4, haw]
      | true =>
        have hshp := isFm_shp ((okF_iff f).1 hok).2.2 hfm
        have hT := ev_RText7 a.nodes a (Nat.le_refl _) (by omega) hshp.1
        have hlen := textA_len a hshp.1
        obtain ⟨t1, t2⟩ := key (textA a) (by omega)
        obtain ⟨t0, _, _⟩ := t2 hok
        rw [t0] at t1
        have hsame := ev_RSameA a.nodes a a (Nat.le_refl _) n2
        rw [sameA_refl] at hsame
        simp [hok, hfm] at e4 hS hI
        simp at hT hsame
        by_cases hbig : 40000 < (textA a).length
        · have hr : refL f (textA a) = (zeroM, 2) := by unfold refL; rw [if_pos hbig]
          rw [hr] at t1
          simp [zeroM] at t1
          simp [Tryz.f3, a3, reg3, loop3, h1, c1, h2, c2, hsl', e4, hS, hI, hT, t1, show ¬ ((textA a).length : Int) ≤ 40000 by omega, k1, k3, k4, haw]
        · have hr : refL f (textA a) = (a, 0) := by unfold refL; rw [if_neg hbig, text_read hshp.1]; dsimp only; rw [if_pos hfm]
          rw [hr] at t1
          simp at t1
          simp [Tryz.f3, a3, reg3, loop3, h1, c1, h2, c2, hsl', e4, hS, hI, hT, t1, hsame, show ((textA a).length : Int) ≤ 40000 by omega, k1, k3, k4, haw]
  | true =>
    have hbl : s.length + blanks.length ≤ 9223372036854775807 := by rw [blanks_length]; omega
    simp [Tryz.f3, a3, reg3, loop3, h1, c1, h2, c2, hsl', make_blank]
    refine loop_in (fun i : Nat => ⟨[(2, .str s), (4, .ptr m.bx.length 0), (5, .ptr (m.bx.length + 1) 0), (9, .sl m.rw.length 40001 0 40001), (37, .int .i64 40001), (38, .int .i64 i)], ⟨m.bx ++ [f.cells, a.cells], m.rw ++ [⟨5, fillZ i⟩]⟩⟩)
      (fun _ => some (.ret (.bool true), m)) (fun i => 40001 - i) (fun i => i ≤ 40001) 0 ?_ ?_ ?_ ?_ ?_
    · simp
    · simp
    · simp
    · intro x; simp [Tryz.f3, a3, reg3, loop3]
    · intro i hi hrec
      by_cases hlt : i < 40001
      · have hlt' : (i : Int) < 40001 := by omega
        have w2 : IntKind.i64.wrap (i + 1) = i + 1 := wrap_id _ (by omega)
        have h1 := fillZ_length i (by omega)
        have h2 := fillZ_set i hlt
        simp [setCells] at h2
        have h3 : i + 1 ≤ 40001 := by omega
        simp [round, Tryz.f3, a3, reg3, loop3, hlt', w2, h1, h2, h3, endRound_R, fillZ_closed]
        refine hrec (i + 1) _ _ ?_ ?_ ?_ ?_
        · omega
        · omega
        · simp
        · simp
      · clear hrec
        obtain rfl : i = 40001 := by omega
        obtain ⟨k1, k2⟩ := key (s ++ blanks) (by rw [List.length_append, blanks_length]; omega)
        cases hok : okF f with
        | false =>
          have hp : parseL f (s ++ blanks) = (zeroM, 10) := by rw [parseL_refL, hok]; rfl
          rw [hp] at k1
          simp [hok] at e4 hS hI
          simp [zeroM] at k1
          simp [round, Tryz.f3, a3, reg3, loop3, str_blank, hbl, h1, c1, h2, c2, hsl', e4, hS, hI, k1, hzz, haw]
        | true =>
          obtain ⟨k0, k3, k4⟩ := k2 hok
          rw [k0] at k1
          generalize refL f (s ++ blanks) = p at k1 k3 k4
          simp at k1 k3 k4
          cases hfm : isFm f a with
          | false =>
            simp [hok, hfm] at e4 hS hI
            simp [round, Tryz.f3, a3, reg3, loop3, str_blank, hbl, h1, c1, h2, c2, hsl', e4, hS, hI, k1, k3, k4, haw]
          | true =>
            have hshp := isFm_shp ((okF_iff f).1 hok).2.2 hfm
            have hT := ev_RText7 a.nodes a (Nat.le_refl _) (by omega) hshp.1
            have hlen := textA_len a hshp.1
            obtain ⟨t1, t2⟩ := key (textA a) (by omega)
            obtain ⟨t0, _, _⟩ := t2 hok
            rw [t0] at t1
            have hsame := ev_RSameA a.nodes a a (Nat.le_refl _) n2
            rw [sameA_refl] at hsame
            simp [hok, hfm] at e4 hS hI
            simp at hT hsame
            by_cases hbig : 40000 < (textA a).length
            · have hr : refL f (textA a) = (zeroM, 2) := by unfold refL; rw [if_pos hbig]
              rw [hr] at t1
              simp [zeroM] at t1
              simp [round, Tryz.f3, a3, reg3, loop3, str_blank, hbl, h1, c1, h2, c2, hsl', e4, hS, hI, hT, t1, show ¬ ((textA a).length : Int) ≤ 40000 by omega, k1, k3, k4, haw]
            · have hr : refL f (textA a) = (a, 0) := by unfold refL; rw [if_neg hbig, text_read hshp.1]; dsimp only; rw [if_pos hfm]
              rw [hr] at t1
              simp at t1
              simp [round, Tryz.f3, a3, reg3, loop3, str_blank, hbl, h1, c1, h2, c2, hsl', e4, hS, hI, hT, t1, hsame, show ((textA a).length : Int) ≤ 40000 by omega, k1, k3, k4, haw]
end AE
end Go.Proofs.YtopfodhjlhpdmaaGreatDoor
/- Trees of values that came in. -/
set_option linter.unusedVariables false
set_option linter.unusedSimpArgs false
namespace Go.Proofs.YtopfodhjlhpdmaaGreatDoor
namespace AE
open Go Go.RowKit
theorem Val.flat : ∀ l : List Val, l.flatMap Val.cells = Val.cellsL l
  | [] => by simp
  | f :: r => by rw [List.flatMap_cons, Val.flat r, Val.cellsL]
end AE
end Go.Proofs.YtopfodhjlhpdmaaGreatDoor
/- Trees of formulas that came in. -/
set_option linter.unusedVariables false
set_option linter.unusedSimpArgs false
namespace Go.Proofs.YtopfodhjlhpdmaaGreatDoor
namespace AE
open Go Go.RowKit
set_option maxRecDepth 1000000 in
theorem cFm : Tryz.prog.cellsOf 27 = 4 := by kernel_rfl
set_option maxRecDepth 1000000 in
theorem cFms : Tryz.prog.cellsOf 25 = 1 := by kernel_rfl
theorem Fm.flat : ∀ l : List Fm, l.flatMap Fm.cells = Fm.cellsL l
  | [] => by simp
  | f :: r => by rw [List.flatMap_cons, Fm.flat r, Fm.cellsL]
set_option maxRecDepth 100000 in
theorem open_fm {H : Type} {enc : TypeId × Value → H} {W : World} : ∀ (N fuel : Nat), fuel ≤ N → ∀ (cs : List Value) (x : DataW H × List MemPlace), DataW.trod enc Tryz.prog W 0 (fun _ => true) true fuel 27 cs = some x → ∃ f : Fm, VRs W (g0 W) f.cells cs := by
  intro N
  induction N with
  | zero =>
    intro fuel hfu cs x h
    obtain rfl : fuel = 0 := by omega
    simp [DataW.trod] at h
  | succ N ih =>
    intro fuel hfu cs x h
    obtain ⟨xs, n, hn, rfl, hlen, hxl, hf⟩ := DataW.trod_struct Tryz.underlying27 h
    rw [cFm] at hlen
    have hxl3 : xs.length = 4 := hxl
    clear hxl
    obtain ⟨a0, a1, a2, a3, rfl⟩ : ∃ a0 a1 a2 a3, cs = [a0, a1, a2, a3] := by
      match cs, hlen with
      | [a0, a1, a2, a3], _ => exact ⟨a0, a1, a2, a3, rfl⟩
    obtain ⟨x0, x1, x2, x3, rfl⟩ : ∃ x0 x1 x2 x3, xs = [x0, x1, x2, x3] := by
      match xs, hxl3 with
      | [a0, a1, a2, a3], _ => exact ⟨a0, a1, a2, a3, rfl⟩
    have h0 := hf 0 _ rfl
    have h1 := hf 1 _ rfl
    have h2 := hf 2 _ rfl
    have h3 := hf 3 _ rfl
    simp [cInt, cFms] at h0 h1 h2 h3
    obtain ⟨k, e0, _, _⟩ := DataW.trod_int Tryz.underlying3 h0
    obtain ⟨m, e1, _, _⟩ := DataW.trod_int Tryz.underlying3 h1
    obtain ⟨q, e2, _, _⟩ := DataW.trod_int Tryz.underlying3 h2
    simp at e0 e1 e2
    subst e0 e1 e2
    obtain ⟨l, v, e3, hv⟩ := open_slice (by decide) Tryz.underlying25 cFm Fm.cells Fm.cells_length (fun n' hn' ds y hy => ih n' (by omega) ds y hy) h3
    simp at e3
    subst e3
    rw [Fm.flat] at hv
    refine ⟨.mk k m q l, ?_⟩
    rw [Fm.cells_eq]
    exact .mk_cons VR.mkInt (.mk_cons VR.mkInt (.mk_cons VR.mkInt (.mk_cons hv VRs.mk_nil)))
end AE
end Go.Proofs.YtopfodhjlhpdmaaGreatDoor
/- The row of the statement LogicTexts. Printed by mkrow.py. -/
set_option linter.unusedVariables false
set_option linter.unusedSimpArgs false
namespace Go.Proofs.YtopfodhjlhpdmaaGreatDoor
namespace AE
open Go Go.ChangeShapes Go.WideShapes Go.ChangeAt Go.RowKit
theorem own : ownKnob Tryz.prog.godebug = none := by kernel_rfl
theorem laidOut : laidOutB Tryz.prog = true := by kernel_rfl
theorem door_met_logicTexts (os : Os) (args : Array Value) : laidMetH Tryz.prog Rows.logicTextsRow.laid ((World.laidAll Tryz.prog os Rows.logicTextsRow.laid).forCall (fun _ _ => 0) ⟨#[], args, []⟩).memory := by
  rw [MakeChecks.laidMetH_plain _ _ _ (by kernel_rfl)]
  exact laidMet_laidAll _ (by kernel_rfl) (by kernel_rfl)
set_option maxRecDepth 100000 in
theorem lifted_logicTexts (os : Os) (started : os.Started) (H : Type) (enc : TypeId × Value → H) :
    ReturnsInHanded {} Tryz.checked os 3 .any (fun w args => (Rows.logicTextsSpec.pre enc Tryz.prog Tryz.f3 [] false w args ∧ laidMetH Tryz.prog Rows.logicTextsRow.laid w) ∧ sizedMet enc Tryz.prog Tryz.f3 (OpenSpec.ofChange Rows.logicTextsSpec) false w args)
      (Rows.logicTextsSpec.post enc Tryz.prog Tryz.f3 false true false false) := by
  refine returnsInHanded_of_change_and (C := Tryz.checked) (X := fun w _ => laidMetH Tryz.prog Rows.logicTextsRow.laid w) (fun _ _ _ hh h => h.of_heap hh) own started (by kernel_rfl) Tryz.func3
    (ChangeSpec.witness_shaped (enc := enc) (C := Tryz.checked) (os := os) (X := fun w _ => laidMetH Tryz.prog Rows.logicTextsRow.laid w) false (World.laidAll Tryz.prog os Rows.logicTextsRow.laid) #[.agg #[.int .i64 0, .int .i64 0, .slice none 0 0], .agg #[.int .i64 0, .int .i64 0, .int .i64 0, .slice none 0 0], .string ByteArray.empty, .bool false] 8 rfl (World.shaped_of_ZipB (by kernel_rfl) (by kernel_rfl)) (by kernel_rfl) (by kernel_rfl) (by kernel_rfl) (door_met_logicTexts os _)) ?_
  intro W base args ds gs before hval0 hW _ _ hL _
  have hW' := hW
  obtain ⟨p, q, hA0, hV, rfl, hfz, hnd⟩ := hW
  have hA : DataW.TrodAll enc Tryz.prog W 0 (fun _ => true) true Tryz.f3.params.toList args.toList ds p := hA0
  rw [Tryz.params3] at hA
  obtain ⟨v0, v1, v2, v3, d0, d1, d2, d3, p0, p1, p2, p3, rfl, rfl, rfl, h0, h1, h2, h3⟩ := trodAll_four hA
  obtain ⟨rfl, rfl⟩ := trodVars_none hV
  have k0 := h0
  have k1 := h1
  have k2 := h2
  have k3 := h3
  have lt0 : ∀ x ∈ p0, x.block < W.heap.size := by obtain ⟨m, hm⟩ := k0; exact DataW.trod_lt m _ _ _ hm
  have lt1 : ∀ x ∈ p1, x.block < W.heap.size := by obtain ⟨m, hm⟩ := k1; exact DataW.trod_lt m _ _ _ hm
  have lt2 : ∀ x ∈ p2, x.block < W.heap.size := by obtain ⟨m, hm⟩ := k2; exact DataW.trod_lt m _ _ _ hm
  have lt3 : ∀ x ∈ p3, x.block < W.heap.size := by obtain ⟨m, hm⟩ := k3; exact DataW.trod_lt m _ _ _ hm
  obtain ⟨n0, h0⟩ := h0
  obtain ⟨x0, hx0⟩ := open_fun n0 n0 (Nat.le_refl _) _ _ h0
  obtain ⟨n1, h1⟩ := h1
  obtain ⟨x1, hx1⟩ := open_fm n1 n1 (Nat.le_refl _) _ _ h1
  obtain ⟨x2, rfl, _, _, _⟩ := Go.ChangeMaps.open_string Tryz.underlying9 (hval0 2 9 v2 rfl rfl) h2
  obtain ⟨x3, rfl, _, _⟩ := open_bool Tryz.underlying4 (hval0 3 4 v3 rfl rfl) h3
  have hs := sr0 (P := Tryz.prog) (gl_of_laid (laid := Rows.logicTextsRow.laid) (by kernel_rfl) (by simp [Rows.logicTextsRow]) (by simp [Rows.logicTextsRow]) (by simp [Rows.logicTextsRow]) hL) (tb_of_laid (laid := Rows.logicTextsRow.laid) (by kernel_rfl) (by simp [Rows.logicTextsRow]) hL)
  have hcall := (sound ok0 3 [.agg x0.cells, .agg x1.cells, .str x2.data.toList, .bool x3] ⟨[], []⟩ _ (ev_LogicTexts x0 x1 x2.data.toList x3 ⟨[], []⟩)).2 W (g0 W) W [v0, v1, .string x2, .bool x3] (by rw [C0_P, C0_gl]; exact hs) ?_
  · rw [C0_P] at hcall
    refine Calls.mono hcall fun e W' hR => ?_
    obtain ⟨g', hs', _, hres⟩ := hR
    cases e with
    | panicked ch => exact hres.elim
    | outgrown => exact hres.elim
    | returned v =>
      have hv : v = .bool true := hres
      subst hv
      have bel := hs'.below
      exact ⟨_, rfl, _, _, _, [], _, [], hW', trodAll_mk1 (shut_bool Tryz.underlying4 _), (trodAll_cons_mk (Below.trod laidOut (by kernel_rfl) (of_decide_eq_true (by kernel_rfl)) k0 bel lt0) (trodAll_cons_mk (Below.trod laidOut (by kernel_rfl) (of_decide_eq_true (by kernel_rfl)) k1 bel lt1) (trodAll_cons_mk (Below.trod laidOut (by kernel_rfl) (of_decide_eq_true (by kernel_rfl)) k2 bel lt2) (trodAll_cons_mk (Below.trod laidOut (by kernel_rfl) (of_decide_eq_true (by kernel_rfl)) k3 bel lt3) trodAll_mk0)))), rfl, bel.frame _, fun h => by cases h⟩
  · exact .mk_cons (agg_of hx0 (by simp)) (.mk_cons (agg_of hx1 (by simp)) (.mk_cons (VR_str x2) (.mk_cons VR.mkBool VRs.mk_nil)))
theorem said_logicTexts : Rows.LogicTextsSaid :=
  OpenClaim.holds_of_wide 3 Tryz.f3 rfl rfl rfl rfl rfl rfl rfl ⟨rfl, rfl, rfl, rfl, rfl⟩ rfl rfl rfl rfl rfl (by kernel_rfl) Tryz.func3 (by kernel_rfl)
    (of_decide_eq_true (by kernel_rfl)) (by unfold Func.isWrapper; first | (rw [if_pos (by decide +kernel)]; kernel_rfl) | (rw [if_neg (by decide +kernel)]; exact ⟨rfl, rfl⟩))
    (fun os started H enc _ => lifted_logicTexts os started H enc)
end AE
end Go.Proofs.YtopfodhjlhpdmaaGreatDoor
/- The card of the statement LogicTexts. Printed by mkrow.py. -/
set_option linter.unusedVariables false
set_option linter.unusedSimpArgs false
namespace Go.Proofs.YtopfodhjlhpdmaaGreatDoor
namespace AE
open Go
theorem card_logicTexts : Rows.LogicTextsCardSaid :=
  Claim7.holds_tied_plain_at .later [] [.data, .data, .data, .data, .sentinel, .sentinel, .data, .widerDeep, .pinned] true (true, "349f599f2653259ee691a80dc6316517cf16022bd8f25b19cea14736449477c5") true
    said_logicTexts (fun _ h => by cases h) (by kernel_rfl) (fun _ h => by cases h) logicTexts_row_tie rfl ⟨rfl, rfl⟩ (by kernel_rfl) rfl
    (fun f fn hf hfn => by
      obtain rfl : f = 3 := Option.some.inj ((show Tryz.prog.funcNamed "ectype/ectypelaw07.LogicTexts" = some 3 by kernel_rfl).symm.trans hf) |>.symm
      obtain rfl : fn = Tryz.f3 := (Option.some.inj (Tryz.func3.symm.trans hfn)).symm
      exact ⟨by kernel_rfl, fun j t ht => by
        rw [Tryz.params3] at ht
        have h3 : t = 24 ∨ t = 27 ∨ t = 9 ∨ t = 4 := by
          rcases j with _ | _ | _ | _ | j
          · exact .inl (by simpa using ht.symm)
          · exact .inr (.inl (by simpa using ht.symm))
          · exact .inr (.inr (.inl (by simpa using ht.symm)))
          · exact .inr (.inr (.inr ((by simpa using ht.symm))))
          · simp at ht
        rcases h3 with rfl | rfl | rfl | rfl
        · exact (show Tryz.prog.wantsStandIn 24 = false by kernel_rfl)
        · exact (show Tryz.prog.wantsStandIn 27 = false by kernel_rfl)
        · exact (show Tryz.prog.wantsStandIn 9 = false by kernel_rfl)
        · exact (show Tryz.prog.wantsStandIn 4 = false by kernel_rfl)
      ⟩)
    (by kernel_rfl)
#print axioms card_logicTexts
end AE
end Go.Proofs.YtopfodhjlhpdmaaGreatDoor
