/- Numbers read and written. -/
import Derived.Test.YtdifmcdgnbnhiaaDoorAF5
set_option linter.unusedVariables false
set_option linter.unusedSimpArgs false
namespace Go.Proofs.YtdifmcdgnbnhiaaDoor
namespace AE
open Go

def isDig (b : UInt8) : Bool := decide (48 ≤ b.toNat) && decide (b.toNat ≤ 57)
theorem isDig_iff {b : UInt8} : isDig b = true ↔ 48 ≤ b.toNat ∧ b.toNat ≤ 57 := by simp [isDig]
def valD (n : Nat) (s : List UInt8) : Nat := s.foldl (fun n b => n * 10 + (b.toNat - 48)) n
@[simp] theorem valD_nil (n : Nat) : valD n [] = n := by unfold valD; exact List.foldl_nil
@[simp] theorem valD_cons (n : Nat) (b : UInt8) (r : List UInt8) : valD n (b :: r) = valD (n * 10 + (b.toNat - 48)) r := by unfold valD; exact List.foldl_cons ..

def bytesL (s : List UInt8) : List A := s.map fun b => .int .u8 (b.toNat : Int)
@[simp] theorem bytesL_length (s : List UInt8) : (bytesL s).length = s.length := by simp [bytesL]
theorem bytesL_at {s : List UInt8} {i : Nat} (h : i < s.length) : ((bytesL s).drop i).take 1 = [.int .u8 (s[i].toNat : Int)] := by
  unfold bytesL
  rw [List.drop_eq_getElem_cons (by simpa using h)]
  simp
@[simp] theorem closed_bytesL (nb nr : Nat) (s : List UInt8) : (bytesL s).all (closed nb nr) = true := by simp [bytesL]
theorem drop_val {s : List UInt8} {i : Nat} (h : i < s.length) (n : Nat) : valD n (s.drop i) = valD (n * 10 + (s[i].toNat - 48)) (s.drop (i + 1)) := by rw [List.drop_eq_getElem_cons h, valD_cons]
theorem wrap8 (n : Int) (h : 0 ≤ n ∧ n ≤ 255) : IntKind.u8.wrap n = n := by
  unfold IntKind.wrap
  simp [IntKind.signed, IntKind.bits]
  omega
set_option maxHeartbeats 1000000 in
theorem ev_IAtoi (s : List UInt8) (h1 : s ≠ []) (h2 : s.length < 19) (hd : ∀ b, b ∈ s → isDig b = true) (m : Mem) : evCall C0 79 [.str s] m = some (.ret (.tup [.int .i64 (valD 0 s), .nili]), m) := by
  rw [evCall_body C0 (C0_ext _) (by rw [C0_P]; exact Tryd.func79) rfl (by rw [C0_ann]; rfl) (by decide) (by simp [Tryd.f79])]
  have l0 : (0 : Int) < s.length := by
    have := List.length_pos_iff.2 h1
    omega
  have l0' : 0 < s.length := List.length_pos_iff.2 h1
  have l19 : (s.length : Int) < 19 := by omega
  have hb0 := isDig_iff.1 (hd s[0] (List.getElem_mem l0'))
  have n45 : ¬ (s[0].toNat : Int) = 45 := by omega
  have n43 : ¬ (s[0].toNat : Int) = 43 := by omega
  have hbl : (s.map fun b => A.int .u8 (b.toNat : Int)) = bytesL s := rfl
  simp [Tryd.f79, evOps_cons, wantA_some, argsTm, ann_keep_79, ann_recov_79, ann_reg_79, reg79, ann_loop_79, loop79, headId, endRound_L, endRound_S, l0, l19, l0', n45, n43, hbl]
  refine loop_in (fun x : Nat × Nat => ⟨[(5, .str s), (6, .int .i64 x.2), (47, .isl false s.length (bytesL s)), (48, .int .i64 s.length), (49, .int .i64 x.1)], m⟩)
    (fun x => some (.ret (.tup [.int .i64 (valD x.2 (s.drop x.1) : Nat), .nili]), m)) (fun x => s.length - x.1) (fun x => x.1 ≤ s.length ∧ x.2 + 1 ≤ 10 ^ x.1) (0, 0) ?_ ?_ ?_ ?_ ?_
  · simp
  · simp
  · simp
  · intro x; simp [Tryd.f79, evOps_cons, wantA_some, argsTm, ann_keep_79, ann_recov_79, ann_reg_79, reg79, ann_loop_79, loop79, headId, endRound_L, endRound_S]
  · rintro ⟨i, n⟩ hI hrec
    simp only at hI
    obtain ⟨hi, hn⟩ := hI
    by_cases hlt : i < s.length
    · have hp : 10 ^ (i + 1) ≤ 10 ^ 18 := Nat.pow_le_pow_right (by omega) (by omega)
      have hp1 : 10 ^ (i + 1) = 10 ^ i * 10 := Nat.pow_succ ..
      have hp2 : (10 : Nat) ^ 18 = 1000000000000000000 := by decide
      have hb := isDig_iff.1 (hd s[i] (List.getElem_mem hlt))
      have w1 : IntKind.u8.wrap (s[i].toNat - 48) = s[i].toNat - 48 := wrap8 _ (by omega)
      have w2 : IntKind.i64.wrap (i + 1) = i + 1 := wrap_id _ (by omega)
      have w3 : IntKind.i64.wrap (s[i].toNat - 48) = s[i].toNat - 48 := wrap_id _ (by omega)
      have w4 : IntKind.i64.wrap (n * 10) = n * 10 := wrap_id _ (by omega)
      have w5 : IntKind.i64.wrap (n * 10 + (s[i].toNat - 48)) = n * 10 + (s[i].toNat - 48) := wrap_id _ (by omega)
      have c1 : ¬ (9 : Int) < s[i].toNat - 48 := by omega
      have h3 : i + 1 ≤ s.length := by omega
      simp [round, Tryd.f79, evOps_cons, wantA_some, argsTm, ann_keep_79, ann_recov_79, ann_reg_79, reg79, ann_loop_79, loop79, headId, endRound_L, endRound_S, hlt, bytesL_at hlt, w1, w2, w3, w4, w5, c1, h3, endRound_M0]
      refine hrec (i + 1, n * 10 + (s[i].toNat - 48)) _ _ ?_ ?_ ?_ ?_
      · simp; omega
      · simp only; omega
      · simp; omega
      · simp only
        rw [drop_val hlt]
    · clear hrec
      simp [round, Tryd.f79, evOps_cons, wantA_some, argsTm, ann_keep_79, ann_recov_79, ann_reg_79, reg79, ann_loop_79, loop79, headId, endRound_L, endRound_S, hlt, l0, l0', n45]
      rw [List.drop_eq_nil_of_le (by omega), valD_nil]
theorem ev_Atoi (s : List UInt8) (h1 : s ≠ []) (h2 : s.length < 19) (hd : ∀ b, b ∈ s → isDig b = true) (m : Mem) : evCall C0 71 [.str s] m = some (.ret (.tup [.int .i64 (valD 0 s), .nili]), m) := by
  rw [evCall_body C0 (C0_ext _) (by rw [C0_P]; exact Tryd.func71) rfl (by rw [C0_ann]; rfl) (by decide) (by simp [Tryd.f71])]
  simp [Tryd.f71, evOps_cons, wantA_some, argsTm, ann_keep_71, ann_recov_71, ann_reg_71, reg71, ev_IAtoi s h1 h2 hd]

/-- How many digits a string begins with. -/
def digN (s : List UInt8) : Nat := (s.takeWhile isDig).length
theorem digN_le (s : List UInt8) : digN s ≤ s.length := (List.takeWhile_prefix _).length_le
theorem digN_at : ∀ {s : List UInt8} {i : Nat} (h : i < s.length), i ≤ digN s → (i < digN s ↔ isDig s[i] = true)
  | b :: r, 0, _, _ => by
    unfold digN
    cases hb : isDig b <;> simp [hb]
  | b :: r, i + 1, h, hi => by
    unfold digN at hi ⊢
    cases hb : isDig b
    · simp [hb] at hi
    · simp only [List.takeWhile_cons, hb, if_true, List.length_cons] at hi ⊢
      have := digN_at (s := r) (i := i) (by simpa using h) (by unfold digN; omega)
      unfold digN at this
      simp only [List.getElem_cons_succ]
      rw [← this]
      omega
def atoiF (d : List UInt8) : Int := if d = [] then 0 else valD 0 d
/-- A number is read. -/
def numF (s : List UInt8) : Option Int × List UInt8 :=
  let t := dropC 32 s
  if digN t = 0 then (none, t) else (some (atoiF (dropC 48 (t.take (digN t)))), t.drop (digN t))
theorem dig_mem {s : List UInt8} {b : UInt8} (h : b ∈ dropC 48 (s.take (digN s))) : isDig b = true := by
  have h1 : b ∈ s.take (digN s) := by
    have : ∀ l : List UInt8, b ∈ dropC 48 l → b ∈ l := by
      intro l
      induction l with
      | nil => intro h; exact h
      | cons c r ih =>
        intro h
        by_cases hc : c = 48
        · subst hc; rw [dropC_same] at h; exact List.mem_cons_of_mem _ (ih h)
        · rw [dropC_ne hc] at h; exact h
    exact this _ h
  have : s.take (digN s) = s.takeWhile isDig := by
    unfold digN
    exact (List.prefix_iff_eq_take.1 (List.takeWhile_prefix _)).symm
  rw [this] at h1
  exact List.all_eq_true.1 (List.all_takeWhile) _ h1
set_option maxHeartbeats 1000000 in
theorem ev_number (id : Nat) (s : List UInt8) (hs : s.length ≤ 1000000) (h19 : (dropC 48 ((dropC 32 s).take (digN (dropC 32 s)))).length < 19) (m : Mem) (hbx : m.bx[id]? = some [.str s]) :
    evCall C0 59 [.ptr id 0] m = some (match (numF s).1 with | some k => .ret (.int .i64 k) | none => .pan wrongA, ⟨m.bx.set id [.str (numF s).2], m.rw⟩) := by
  have hid : id < m.bx.length := (List.getElem?_eq_some_iff.1 hbx).1
  have hg : m.bx[id] = [.str s] := (List.getElem?_eq_some_iff.1 hbx).2
  rw [evCall_body C0 (C0_ext _) (by rw [C0_P]; exact Tryd.func59) rfl (by rw [C0_ann]; rfl) (by decide) (by simp [Tryd.f59])]
  have he := ev_next id s m hbx
  have hlt := dropC_length 32 s
  unfold numF
  have hdm : ∀ b, b ∈ dropC 48 ((dropC 32 s).take (digN (dropC 32 s))) → isDig b = true := fun b h => dig_mem h
  generalize dropC 32 s = t at he hlt h19 hdm
  have hnl := digN_le t
  simp [Tryd.f59, evOps_cons, wantA_some, argsTm, ann_keep_59, ann_recov_59, ann_reg_59, reg59, ann_loop_59, loop59, headId, endRound_L, endRound_S, he]
  refine loop_in (fun i : Nat => ⟨[(0, .ptr id 0), (3, .int .i64 i)], ⟨m.bx.set id [.str t], m.rw⟩⟩)
    (fun _ => some (match (if digN t = 0 then (none, t) else (some (atoiF (dropC 48 (t.take (digN t)))), t.drop (digN t)) : Option Int × List UInt8).1 with | some k => .ret (.int .i64 k) | none => .pan wrongA, ⟨m.bx.set id [.str (if digN t = 0 then (none, t) else (some (atoiF (dropC 48 (t.take (digN t)))), t.drop (digN t)) : Option Int × List UInt8).2], m.rw⟩)) (fun i => t.length - i) (fun i => i ≤ digN t) 0 ?_ ?_ ?_ ?_ ?_
  · simp
  · simp
  · simp
  · intro x; simp [Tryd.f59, evOps_cons, wantA_some, argsTm, ann_keep_59, ann_recov_59, ann_reg_59, reg59, ann_loop_59, loop59, headId, endRound_L, endRound_S]
  · intro i hi hrec
    have ext : ∀ (hh : i = digN t), True := fun _ => trivial
    by_cases hlt : i < t.length
    · by_cases hdg : i < digN t
      · have hb := isDig_iff.1 ((digN_at hlt hi).1 hdg)
        have w2 : IntKind.i64.wrap (i + 1) = i + 1 := wrap_id _ (by omega)
        have d1 : (48 : Int) ≤ t[i].toNat := by omega
        have d2 : (t[i].toNat : Int) ≤ 57 := by omega
        simp [round, Tryd.f59, evOps_cons, wantA_some, argsTm, ann_keep_59, ann_recov_59, ann_reg_59, reg59, ann_loop_59, loop59, headId, endRound_L, endRound_S, hlt, hid, w2, d1, d2, endRound_M0]
        refine hrec (i + 1) _ _ ?_ ?_ ?_ ?_
        · omega
        · omega
        · simp
        · simp
      · have hnd : ¬ isDig t[i] = true := fun h => hdg ((digN_at hlt hi).2 h)
        rw [isDig_iff] at hnd
        by_cases d1 : (48 : Int) ≤ t[i].toNat
        · have d2 : ¬ (t[i].toNat : Int) ≤ 57 := by omega
          by_cases h0 : digN t = 0
          · have hi0 : i = 0 := by omega
            subst hi0
            simp [round, Tryd.f59, evOps_cons, wantA_some, argsTm, ann_keep_59, ann_recov_59, ann_reg_59, reg59, ann_loop_59, loop59, headId, endRound_L, endRound_S, hid, hlt, h0, d1, d2, leave_set0, panA, wrongA, at_lt, set_lt]
          · have hin : i = digN t := by omega
            have hi0 : ¬ (i : Int) = 0 := by omega
            have hle1 : (i : Int) ≤ t.length := by omega
            have hmin : min i t.length = i := by omega
            rw [← hin] at h19 hdm h0 ⊢
            have htl : (i : Int).toNat = i := by omega
            have het := ev_TrimLeft 48 (by decide) (t.take i)
            generalize hdd : dropC 48 (t.take i) = d at het h19 hdm
            by_cases hd0 : d = []
            · subst hd0
              simp [round, Tryd.f59, evOps_cons, wantA_some, argsTm, ann_keep_59, ann_recov_59, ann_reg_59, reg59, ann_loop_59, loop59, headId, endRound_L, endRound_S, hid, hlt, h0, hi0, d1, d2, leave_set0, at_lt, set_lt, hle1, htl, het, atoiF, hmin]
            · have hea := ev_Atoi d hd0 h19 hdm
              simp [round, Tryd.f59, evOps_cons, wantA_some, argsTm, ann_keep_59, ann_recov_59, ann_reg_59, reg59, ann_loop_59, loop59, headId, endRound_L, endRound_S, hid, hlt, h0, hi0, d1, d2, leave_set0, at_lt, set_lt, hle1, htl, het, atoiF, hd0, hea, hmin]
        · by_cases h0 : digN t = 0
          · have hi0 : i = 0 := by omega
            subst hi0
            simp [round, Tryd.f59, evOps_cons, wantA_some, argsTm, ann_keep_59, ann_recov_59, ann_reg_59, reg59, ann_loop_59, loop59, headId, endRound_L, endRound_S, hid, hlt, h0, d1, leave_set0, panA, wrongA, at_lt, set_lt]
          · have hin : i = digN t := by omega
            have hi0 : ¬ (i : Int) = 0 := by omega
            have hle1 : (i : Int) ≤ t.length := by omega
            have hmin : min i t.length = i := by omega
            rw [← hin] at h19 hdm h0 ⊢
            have htl : (i : Int).toNat = i := by omega
            have het := ev_TrimLeft 48 (by decide) (t.take i)
            generalize hdd : dropC 48 (t.take i) = d at het h19 hdm
            by_cases hd0 : d = []
            · subst hd0
              simp [round, Tryd.f59, evOps_cons, wantA_some, argsTm, ann_keep_59, ann_recov_59, ann_reg_59, reg59, ann_loop_59, loop59, headId, endRound_L, endRound_S, hid, hlt, h0, hi0, d1, leave_set0, at_lt, set_lt, hle1, htl, het, atoiF, hmin]
            · have hea := ev_Atoi d hd0 h19 hdm
              simp [round, Tryd.f59, evOps_cons, wantA_some, argsTm, ann_keep_59, ann_recov_59, ann_reg_59, reg59, ann_loop_59, loop59, headId, endRound_L, endRound_S, hid, hlt, h0, hi0, d1, leave_set0, at_lt, set_lt, hle1, htl, het, atoiF, hd0, hea, hmin]
    · have hdg : True := trivial
      by_cases h0 : digN t = 0
      · have hi0 : i = 0 := by omega
        subst hi0
        simp [round, Tryd.f59, evOps_cons, wantA_some, argsTm, ann_keep_59, ann_recov_59, ann_reg_59, reg59, ann_loop_59, loop59, headId, endRound_L, endRound_S, hid, hlt, h0, hdg, leave_set0, panA, wrongA, at_lt, set_lt]
      · have hin : i = digN t := by omega
        have hi0 : ¬ (i : Int) = 0 := by omega
        have hle1 : (i : Int) ≤ t.length := by omega
        have hmin : min i t.length = i := by omega
        rw [← hin] at h19 hdm h0 ⊢
        have htl : (i : Int).toNat = i := by omega
        have het := ev_TrimLeft 48 (by decide) (t.take i)
        generalize hdd : dropC 48 (t.take i) = d at het h19 hdm
        by_cases hd0 : d = []
        · subst hd0
          simp [round, Tryd.f59, evOps_cons, wantA_some, argsTm, ann_keep_59, ann_recov_59, ann_reg_59, reg59, ann_loop_59, loop59, headId, endRound_L, endRound_S, hid, hlt, h0, hi0, hdg, leave_set0, at_lt, set_lt, hle1, htl, het, atoiF, hmin]
        · have hea := ev_Atoi d hd0 h19 hdm
          simp [round, Tryd.f59, evOps_cons, wantA_some, argsTm, ann_keep_59, ann_recov_59, ann_reg_59, reg59, ann_loop_59, loop59, headId, endRound_L, endRound_S, hid, hlt, h0, hi0, hdg, leave_set0, at_lt, set_lt, hle1, htl, het, atoiF, hd0, hea, hmin]
end AE
end Go.Proofs.YtdifmcdgnbnhiaaDoor
