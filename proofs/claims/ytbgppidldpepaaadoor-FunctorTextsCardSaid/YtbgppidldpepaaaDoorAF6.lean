/- Numbers read and written. -/
import Derived.Test.YtbgppidldpepaaaDoorAF5
set_option linter.unusedVariables false
set_option linter.unusedSimpArgs false
namespace Go.Proofs.YtbgppidldpepaaaDoor
namespace AE
open Go

def isDig (b : UInt8) : Bool := decide (48 ≤ b.toNat) && decide (b.toNat ≤ 57)
theorem isDig_iff {b : UInt8} : isDig b = true ↔ 48 ≤ b.toNat ∧ b.toNat ≤ 57 := by simp [isDig]
def valD (n : Nat) (s : List UInt8) : Nat := s.foldl (fun n b => n * 10 + (b.toNat - 48)) n
@[simp] theorem valD_nil (n : Nat) : valD n [] = n := by unfold valD; exact List.foldl_nil
@[simp] theorem valD_cons (n : Nat) (b : UInt8) (r : List UInt8) : valD n (b :: r) = valD (n * 10 + (b.toNat - 48)) r := by unfold valD; exact List.foldl_cons ..

def bytesL (s : List UInt8) : List A := s.map fun b => .int .u8 (b.toNat : Int)
@[simp] theorem bytesL_length (s : List UInt8) : (bytesL s).length = s.length := by simp [bytesL]
theorem bytesL_at {s : List UInt8} {i : Nat} (h : i < s.length) : ((bytesL s).drop i).take 1 = [.int .u8 (s[i].toNat : Int)] := by
  unfold bytesL
  rw [List.drop_eq_getElem_cons (by simpa using h)]
  simp
@[simp] theorem closed_bytesL (nb nr : Nat) (s : List UInt8) : (bytesL s).all (closed nb nr) = true := by simp [bytesL]
theorem drop_val {s : List UInt8} {i : Nat} (h : i < s.length) (n : Nat) : valD n (s.drop i) = valD (n * 10 + (s[i].toNat - 48)) (s.drop (i + 1)) := by rw [List.drop_eq_getElem_cons h, valD_cons]
theorem wrap8 (n : Int) (h : 0 ≤ n ∧ n ≤ 255) : IntKind.u8.wrap n = n := by
  unfold IntKind.wrap
  simp [IntKind.signed, IntKind.bits]
  omega
theorem valD_ge : ∀ (l : List UInt8) (n : Nat), n ≤ valD n l
  | [], n => by simp
  | b :: r, n => by
    rw [valD_cons]
    have := valD_ge r (n * 10 + (b.toNat - 48))
    omega
theorem parse_digs : ∀ (l : List UInt8) (n : Nat), n < 18446744073709551616 → (∀ b, b ∈ l → isDig b = true) → Lib.parseUint10 n l = if valD n l < 18446744073709551616 then .ok (valD n l) else .range
  | [], n, hn, _ => by rw [Lib.parseUint10, valD_nil, if_pos hn]
  | b :: r, n, hn, h => by
    have hb := isDig_iff.1 (h b (by simp))
    have hg := valD_ge r (n * 10 + (b.toNat - 48))
    rw [Lib.parseUint10, if_pos hb, valD_cons]
    by_cases h1 : 1844674407370955162 ≤ n
    · rw [if_pos h1, if_neg (by omega)]
    · rw [if_neg h1]
      by_cases h2 : 18446744073709551616 ≤ n * 10 + (b.toNat - 48)
      · rw [if_pos h2, if_neg (by omega)]
      · rw [if_neg h2]
        exact parse_digs r _ (by omega) fun x hx => h x (by simp [hx])
theorem atoi_digs {l : List UInt8} (h0 : l ≠ []) (h : ∀ b, b ∈ l → isDig b = true) : Lib.atoiAll l = if valD 0 l < 9223372036854775808 then .ok (valD 0 l : Int) else .range := by
  cases l with
  | nil => exact absurd rfl h0
  | cons c r =>
    have hc := isDig_iff.1 (h c (by simp))
    have n1 : ¬ c.toNat = 43 := by omega
    have n2 : ¬ c.toNat = 45 := by omega
    have hp := parse_digs (c :: r) 0 (by omega) h
    generalize valD 0 (c :: r) = v at hp ⊢
    have hm : Lib.parseMag (c :: r) = Lib.parseUint10 0 (c :: r) := by unfold Lib.parseMag; rw [if_neg (by simp)]
    unfold Lib.atoiAll
    simp only [n1, n2, or_self, if_false, hm, hp]
    by_cases h1 : v < 18446744073709551616
    · by_cases h2 : v < 9223372036854775808
      · have h3 : ¬ 9223372036854775808 ≤ v := by omega
        simp [h1, h2, h3]
      · have h3 : 9223372036854775808 ≤ v := by omega
        simp [h1, h2, h3]
    · have h2 : ¬ v < 9223372036854775808 := by omega
      simp [h1, h2]
theorem ev_Atoi (s : List UInt8) (h1 : s ≠ []) (h2 : s.length ≤ 1000000) (hd : ∀ b, b ∈ s → isDig b = true) (m : Mem) : evCall C0 57 [.str s] m = some (.ret (.tup (if valD 0 s < 9223372036854775808 then [.int .i64 (valD 0 s), .nili] else [.int .i64 (Lib.atoiSat s), .ifc 112 .undef])), m) := by
  have hx : C0.ext 57 = some atoiG := C0_atoi
  rw [evCall, hx]
  show atoiG [.str s] m = _
  simp only [atoiG]
  rw [if_pos h2, atoi_digs h1 hd]
  by_cases hb : valD 0 s < 9223372036854775808
  · simp [hb]
  · simp [hb]

/-- How many digits a string begins with. -/
def digN (s : List UInt8) : Nat := (s.takeWhile isDig).length
theorem digN_le (s : List UInt8) : digN s ≤ s.length := (List.takeWhile_prefix _).length_le
theorem digN_at : ∀ {s : List UInt8} {i : Nat} (h : i < s.length), i ≤ digN s → (i < digN s ↔ isDig s[i] = true)
  | b :: r, 0, _, _ => by
    unfold digN
    cases hb : isDig b <;> simp [hb]
  | b :: r, i + 1, h, hi => by
    unfold digN at hi ⊢
    cases hb : isDig b
    · simp [hb] at hi
    · simp only [List.takeWhile_cons, hb, if_true, List.length_cons] at hi ⊢
      have := digN_at (s := r) (i := i) (by simpa using h) (by unfold digN; omega)
      unfold digN at this
      simp only [List.getElem_cons_succ]
      rw [← this]
      omega
def atoiF (d : List UInt8) : Int := if d = [] then 0 else if valD 0 d < 9223372036854775808 then valD 0 d else 17
/-- A number is read. -/
def numF (s : List UInt8) : Option Int × List UInt8 :=
  let t := dropC 32 s
  if digN t = 0 then (none, t) else (some (atoiF (dropC 48 (t.take (digN t)))), t.drop (digN t))
theorem dig_mem {s : List UInt8} {b : UInt8} (h : b ∈ dropC 48 (s.take (digN s))) : isDig b = true := by
  have h1 : b ∈ s.take (digN s) := by
    have : ∀ l : List UInt8, b ∈ dropC 48 l → b ∈ l := by
      intro l
      induction l with
      | nil => intro h; exact h
      | cons c r ih =>
        intro h
        by_cases hc : c = 48
        · subst hc; rw [dropC_same] at h; exact List.mem_cons_of_mem _ (ih h)
        · rw [dropC_ne hc] at h; exact h
    exact this _ h
  have : s.take (digN s) = s.takeWhile isDig := by
    unfold digN
    exact (List.prefix_iff_eq_take.1 (List.takeWhile_prefix _)).symm
  rw [this] at h1
  exact List.all_eq_true.1 (List.all_takeWhile) _ h1
set_option maxHeartbeats 1000000 in
theorem ev_number (id : Nat) (s : List UInt8) (hs : s.length ≤ 1000000) (m : Mem) (hbx : m.bx[id]? = some [.str s]) :
    evCall C0 45 [.ptr id 0] m = some (match (numF s).1 with | some k => .ret (.int .i64 k) | none => .pan wrongA, ⟨m.bx.set id [.str (numF s).2], m.rw⟩) := by
  have hid : id < m.bx.length := (List.getElem?_eq_some_iff.1 hbx).1
  have hg : m.bx[id] = [.str s] := (List.getElem?_eq_some_iff.1 hbx).2
  rw [evCall_body C0 (C0_ext _ (by decide)) (by rw [C0_P]; exact Tryd.func45) rfl (by rw [C0_ann]; rfl) (by decide) (by simp [Tryd.f45])]
  have he := ev_next id s m hbx
  have hlt := dropC_length 32 s
  unfold numF
  have hdm : ∀ b, b ∈ dropC 48 ((dropC 32 s).take (digN (dropC 32 s))) → isDig b = true := fun b h => dig_mem h
  have h19 : (dropC 48 ((dropC 32 s).take (digN (dropC 32 s)))).length ≤ 1000000 := by
    have h1 := dropC_length 48 ((dropC 32 s).take (digN (dropC 32 s)))
    have h2 : ((dropC 32 s).take (digN (dropC 32 s))).length ≤ (dropC 32 s).length := by rw [List.length_take]; omega
    omega
  generalize dropC 32 s = t at he hlt h19 hdm
  have hnl := digN_le t
  simp [Tryd.f45, evOps_cons, wantA_some, argsTm, ann_keep_45, ann_recov_45, ann_reg_45, reg45, ann_loop_45, loop45, headId, endRound_L, endRound_S, he]
  refine loop_in (fun i : Nat => ⟨[(0, .ptr id 0), (3, .int .i64 i)], ⟨m.bx.set id [.str t], m.rw⟩⟩)
    (fun _ => some (match (if digN t = 0 then (none, t) else (some (atoiF (dropC 48 (t.take (digN t)))), t.drop (digN t)) : Option Int × List UInt8).1 with | some k => .ret (.int .i64 k) | none => .pan wrongA, ⟨m.bx.set id [.str (if digN t = 0 then (none, t) else (some (atoiF (dropC 48 (t.take (digN t)))), t.drop (digN t)) : Option Int × List UInt8).2], m.rw⟩)) (fun i => t.length - i) (fun i => i ≤ digN t) 0 ?_ ?_ ?_ ?_ ?_
  · simp
  · simp
  · simp
  · intro x; simp [Tryd.f45, evOps_cons, wantA_some, argsTm, ann_keep_45, ann_recov_45, ann_reg_45, reg45, ann_loop_45, loop45, headId, endRound_L, endRound_S]
  · intro i hi hrec
    have ext : ∀ (hh : i = digN t), True := fun _ => trivial
    by_cases hlt : i < t.length
    · by_cases hdg : i < digN t
      · have hb := isDig_iff.1 ((digN_at hlt hi).1 hdg)
        have w2 : IntKind.i64.wrap (i + 1) = i + 1 := wrap_id _ (by omega)
        have d1 : (48 : Int) ≤ t[i].toNat := by omega
        have d2 : (t[i].toNat : Int) ≤ 57 := by omega
        simp [round, Tryd.f45, evOps_cons, wantA_some, argsTm, ann_keep_45, ann_recov_45, ann_reg_45, reg45, ann_loop_45, loop45, headId, endRound_L, endRound_S, hlt, hid, w2, d1, d2, endRound_M0]
        refine hrec (i + 1) _ _ ?_ ?_ ?_ ?_
        · omega
        · omega
        · simp
        · simp
      · have hnd : ¬ isDig t[i] = true := fun h => hdg ((digN_at hlt hi).2 h)
        rw [isDig_iff] at hnd
        by_cases d1 : (48 : Int) ≤ t[i].toNat
        · have d2 : ¬ (t[i].toNat : Int) ≤ 57 := by omega
          by_cases h0 : digN t = 0
          · have hi0 : i = 0 := by omega
            subst hi0
            simp [round, Tryd.f45, evOps_cons, wantA_some, argsTm, ann_keep_45, ann_recov_45, ann_reg_45, reg45, ann_loop_45, loop45, headId, endRound_L, endRound_S, hid, hlt, h0, d1, d2, leave_set0, panA, wrongA, at_lt, set_lt]
          · have hin : i = digN t := by omega
            have hi0 : ¬ (i : Int) = 0 := by omega
            have hle1 : (i : Int) ≤ t.length := by omega
            have hmin : min i t.length = i := by omega
            rw [← hin] at h19 hdm h0 ⊢
            have htl : (i : Int).toNat = i := by omega
            have het := ev_TrimLeft 48 (by decide) (t.take i)
            generalize hdd : dropC 48 (t.take i) = d at het h19 hdm
            by_cases hd0 : d = []
            · subst hd0
              simp [round, Tryd.f45, evOps_cons, wantA_some, argsTm, ann_keep_45, ann_recov_45, ann_reg_45, reg45, ann_loop_45, loop45, headId, endRound_L, endRound_S, hid, hlt, h0, hi0, d1, d2, leave_set0, at_lt, set_lt, hle1, htl, het, atoiF, hmin]
            · have hea := ev_Atoi d hd0 h19 hdm
              by_cases hbig : valD 0 d < 9223372036854775808
              · simp only [hbig, if_true] at hea
                simp [round, Tryd.f45, evOps_cons, wantA_some, argsTm, ann_keep_45, ann_recov_45, ann_reg_45, reg45, ann_loop_45, loop45, headId, endRound_L, endRound_S, hid, hlt, h0, hi0, d1, d2, leave_set0, at_lt, set_lt, hle1, htl, het, atoiF, hd0, hea, hmin, hbig]
              · simp only [hbig, if_false] at hea
                simp [round, Tryd.f45, evOps_cons, wantA_some, argsTm, ann_keep_45, ann_recov_45, ann_reg_45, reg45, ann_loop_45, loop45, headId, endRound_L, endRound_S, hid, hlt, h0, hi0, d1, d2, leave_set0, at_lt, set_lt, hle1, htl, het, atoiF, hd0, hea, hmin, hbig]
        · by_cases h0 : digN t = 0
          · have hi0 : i = 0 := by omega
            subst hi0
            simp [round, Tryd.f45, evOps_cons, wantA_some, argsTm, ann_keep_45, ann_recov_45, ann_reg_45, reg45, ann_loop_45, loop45, headId, endRound_L, endRound_S, hid, hlt, h0, d1, leave_set0, panA, wrongA, at_lt, set_lt]
          · have hin : i = digN t := by omega
            have hi0 : ¬ (i : Int) = 0 := by omega
            have hle1 : (i : Int) ≤ t.length := by omega
            have hmin : min i t.length = i := by omega
            rw [← hin] at h19 hdm h0 ⊢
            have htl : (i : Int).toNat = i := by omega
            have het := ev_TrimLeft 48 (by decide) (t.take i)
            generalize hdd : dropC 48 (t.take i) = d at het h19 hdm
            by_cases hd0 : d = []
            · subst hd0
              simp [round, Tryd.f45, evOps_cons, wantA_some, argsTm, ann_keep_45, ann_recov_45, ann_reg_45, reg45, ann_loop_45, loop45, headId, endRound_L, endRound_S, hid, hlt, h0, hi0, d1, leave_set0, at_lt, set_lt, hle1, htl, het, atoiF, hmin]
            · have hea := ev_Atoi d hd0 h19 hdm
              by_cases hbig : valD 0 d < 9223372036854775808
              · simp only [hbig, if_true] at hea
                simp [round, Tryd.f45, evOps_cons, wantA_some, argsTm, ann_keep_45, ann_recov_45, ann_reg_45, reg45, ann_loop_45, loop45, headId, endRound_L, endRound_S, hid, hlt, h0, hi0, d1, leave_set0, at_lt, set_lt, hle1, htl, het, atoiF, hd0, hea, hmin, hbig]
              · simp only [hbig, if_false] at hea
                simp [round, Tryd.f45, evOps_cons, wantA_some, argsTm, ann_keep_45, ann_recov_45, ann_reg_45, reg45, ann_loop_45, loop45, headId, endRound_L, endRound_S, hid, hlt, h0, hi0, d1, leave_set0, at_lt, set_lt, hle1, htl, het, atoiF, hd0, hea, hmin, hbig]
    · have hdg : True := trivial
      by_cases h0 : digN t = 0
      · have hi0 : i = 0 := by omega
        subst hi0
        simp [round, Tryd.f45, evOps_cons, wantA_some, argsTm, ann_keep_45, ann_recov_45, ann_reg_45, reg45, ann_loop_45, loop45, headId, endRound_L, endRound_S, hid, hlt, h0, hdg, leave_set0, panA, wrongA, at_lt, set_lt]
      · have hin : i = digN t := by omega
        have hi0 : ¬ (i : Int) = 0 := by omega
        have hle1 : (i : Int) ≤ t.length := by omega
        have hmin : min i t.length = i := by omega
        rw [← hin] at h19 hdm h0 ⊢
        have htl : (i : Int).toNat = i := by omega
        have het := ev_TrimLeft 48 (by decide) (t.take i)
        generalize hdd : dropC 48 (t.take i) = d at het h19 hdm
        by_cases hd0 : d = []
        · subst hd0
          simp [round, Tryd.f45, evOps_cons, wantA_some, argsTm, ann_keep_45, ann_recov_45, ann_reg_45, reg45, ann_loop_45, loop45, headId, endRound_L, endRound_S, hid, hlt, h0, hi0, hdg, leave_set0, at_lt, set_lt, hle1, htl, het, atoiF, hmin]
        · have hea := ev_Atoi d hd0 h19 hdm
          by_cases hbig : valD 0 d < 9223372036854775808
          · simp only [hbig, if_true] at hea
            simp [round, Tryd.f45, evOps_cons, wantA_some, argsTm, ann_keep_45, ann_recov_45, ann_reg_45, reg45, ann_loop_45, loop45, headId, endRound_L, endRound_S, hid, hlt, h0, hi0, hdg, leave_set0, at_lt, set_lt, hle1, htl, het, atoiF, hd0, hea, hmin, hbig]
          · simp only [hbig, if_false] at hea
            simp [round, Tryd.f45, evOps_cons, wantA_some, argsTm, ann_keep_45, ann_recov_45, ann_reg_45, reg45, ann_loop_45, loop45, headId, endRound_L, endRound_S, hid, hlt, h0, hi0, hdg, leave_set0, at_lt, set_lt, hle1, htl, het, atoiF, hd0, hea, hmin, hbig]
end AE
end Go.Proofs.YtbgppidldpepaaaDoor
