/- The parser's small functions. -/
import Derived.Test.YthoomlenmgdebaaGreatDoorGE
import Derived.Test.YthoomlenmgdebaaGreatDoorGF
import Derived.Test.YthoomlenmgdebaaGreatDoorGG
set_option linter.unusedVariables false
set_option linter.unusedSimpArgs false
namespace Go.Proofs.YthoomlenmgdebaaGreatDoor
namespace AE
open Go

/-- A string without the bytes c at its begin. -/
def dropC (c : UInt8) (s : List UInt8) : List UInt8 := s.dropWhile fun b => decide (b = c)
@[simp] theorem dropC_nil (c : UInt8) : dropC c [] = [] := rfl
theorem dropC_same (c : UInt8) (r : List UInt8) : dropC c (c :: r) = dropC c r := by simp [dropC]
theorem dropC_ne {c b : UInt8} (h : ¬ b = c) (r : List UInt8) : dropC c (b :: r) = b :: r := by simp [dropC, h]
theorem dropC_length (c : UInt8) : ∀ s, (dropC c s).length ≤ s.length
  | [] => Nat.le_refl _
  | b :: r => by
    by_cases h : b = c
    · subst h; rw [dropC_same]; have := dropC_length b r; simp; omega
    · rw [dropC_ne h]; exact Nat.le_refl _
theorem byte_eq (b c : UInt8) : ((b.toNat : Int) = c.toNat) ↔ b = c := by
  constructor
  · intro h; exact UInt8.toNat_inj.1 (by omega)
  · rintro rfl; rfl
theorem ev_trimByte (c : UInt8) (s : List UInt8) (m : Mem) : evCall C0 124 [.str s, .int .u8 c.toNat] m = some (.ret (.str (dropC c s)), m) := by
  rw [evCall_body C0 (C0_ext _ (by decide)) (by rw [C0_P]; exact Tryz.func124) rfl (by rw [C0_ann]; rfl) (by decide) (by simp [Tryz.f124])]
  simp [Tryz.f124, a124, reg124, loop124]
  refine loop_in (fun s : List UInt8 => ⟨[(0, .str s), (1, .int .u8 c.toNat)], m⟩) (fun s => some (.ret (.str (dropC c s)), m)) (fun s => s.length) (fun s => True) s ?_ ?_ ?_ ?_ ?_
  · simp
  · simp
  · trivial
  · intro x; simp [Tryz.f124, a124, reg124, loop124]
  · intro s hi hrec
    cases s with
    | nil => simp [round, Tryz.f124, a124, reg124, loop124]
    | cons b r =>
      by_cases h : b = c
      · subst h
        have hp : (0 : Int) < r.length + 1 := by omega
        have hp2 : (1 : Int) ≤ r.length + 1 := by omega
        simp [round, Tryz.f124, a124, reg124, loop124, hp, hp2, endRound_M0]
        refine hrec r _ _ ?_ ?_ ?_ ?_
        · simp
        · trivial
        · simp
        · rw [dropC_same]
      · have hp : (0 : Int) < r.length + 1 := by omega
        simp [round, Tryz.f124, a124, reg124, loop124, hp, byte_eq, h, dropC_ne h]

theorem ev_TrimLeft (c : UInt8) (hc : c.toNat < 128) (s : List UInt8) (m : Mem) : evCall C0 97 [.str s, .str [c]] m = some (.ret (.str (dropC c s)), m) := by
  rw [evCall_body C0 (C0_ext _ (by decide)) (by rw [C0_P]; exact Tryz.func97) rfl (by rw [C0_ann]; rfl) (by decide) (by simp [Tryz.f97])]
  have hc' : (c.toNat : Int) < 128 := by omega
  by_cases h : s = []
  · subst h; simp [Tryz.f97, a97, reg97]
  · simp [Tryz.f97, a97, reg97, h, hc', ev_trimByte]

def headN (s : List UInt8) : Int := match s with | [] => 0 | b :: _ => b.toNat
@[simp] theorem headN_nil : headN [] = 0 := rfl
@[simp] theorem headN_cons (b : UInt8) (r : List UInt8) : headN (b :: r) = b.toNat := rfl
/-- Is a byte next? -/
def isC (c : UInt8) (s : List UInt8) : Bool × List UInt8 := match dropC 32 s with
  | [] => (false, [])
  | b :: r => if b = c then (true, r) else (false, b :: r)
end AE
end Go.Proofs.YthoomlenmgdebaaGreatDoor

/- Numbers read and written. -/
set_option linter.unusedVariables false
set_option linter.unusedSimpArgs false
namespace Go.Proofs.YthoomlenmgdebaaGreatDoor
namespace AE
open Go

def isDig (b : UInt8) : Bool := decide (48 ≤ b.toNat) && decide (b.toNat ≤ 57)
theorem isDig_iff {b : UInt8} : isDig b = true ↔ 48 ≤ b.toNat ∧ b.toNat ≤ 57 := by simp [isDig]
def valD (n : Nat) (s : List UInt8) : Nat := s.foldl (fun n b => n * 10 + (b.toNat - 48)) n
@[simp] theorem valD_nil (n : Nat) : valD n [] = n := by unfold valD; exact List.foldl_nil
@[simp] theorem valD_cons (n : Nat) (b : UInt8) (r : List UInt8) : valD n (b :: r) = valD (n * 10 + (b.toNat - 48)) r := by unfold valD; exact List.foldl_cons ..

def bytesL (s : List UInt8) : List A := s.map fun b => .int .u8 (b.toNat : Int)
@[simp] theorem bytesL_length (s : List UInt8) : (bytesL s).length = s.length := by simp [bytesL]
@[simp] theorem closed_bytesL (nb nr : Nat) (s : List UInt8) : (bytesL s).all (closed nb nr) = true := by simp [bytesL]
theorem valD_ge : ∀ (l : List UInt8) (n : Nat), n ≤ valD n l
  | [], n => by simp
  | b :: r, n => by
    rw [valD_cons]
    have := valD_ge r (n * 10 + (b.toNat - 48))
    omega
theorem parse_digs : ∀ (l : List UInt8) (n : Nat), n < 18446744073709551616 → (∀ b, b ∈ l → isDig b = true) → Lib.parseUint10 n l = if valD n l < 18446744073709551616 then .ok (valD n l) else .range
  | [], n, hn, _ => by rw [Lib.parseUint10, valD_nil, if_pos hn]
  | b :: r, n, hn, h => by
    have hb := isDig_iff.1 (h b (by simp))
    have hg := valD_ge r (n * 10 + (b.toNat - 48))
    rw [Lib.parseUint10, if_pos hb, valD_cons]
    by_cases h1 : 1844674407370955162 ≤ n
    · rw [if_pos h1, if_neg (by omega)]
    · rw [if_neg h1]
      by_cases h2 : 18446744073709551616 ≤ n * 10 + (b.toNat - 48)
      · rw [if_pos h2, if_neg (by omega)]
      · rw [if_neg h2]
        exact parse_digs r _ (by omega) fun x hx => h x (by simp [hx])
theorem atoi_digs {l : List UInt8} (h0 : l ≠ []) (h : ∀ b, b ∈ l → isDig b = true) : Lib.atoiAll l = if valD 0 l < 9223372036854775808 then .ok (valD 0 l : Int) else .range := by
  cases l with
  | nil => exact absurd rfl h0
  | cons c r =>
    have hc := isDig_iff.1 (h c (by simp))
    have n1 : ¬ c.toNat = 43 := by omega
    have n2 : ¬ c.toNat = 45 := by omega
    have hp := parse_digs (c :: r) 0 (by omega) h
    generalize valD 0 (c :: r) = v at hp ⊢
    have hm : Lib.parseMag (c :: r) = Lib.parseUint10 0 (c :: r) := by unfold Lib.parseMag; rw [if_neg (by simp)]
    unfold Lib.atoiAll
    simp only [n1, n2, or_self, if_false, hm, hp]
    by_cases h1 : v < 18446744073709551616
    · by_cases h2 : v < 9223372036854775808
      · have h3 : ¬ 9223372036854775808 ≤ v := by omega
        simp [h1, h2, h3]
      · have h3 : 9223372036854775808 ≤ v := by omega
        simp [h1, h2, h3]
    · have h2 : ¬ v < 9223372036854775808 := by omega
      simp [h1, h2]
theorem ev_AtoiD (s : List UInt8) (h1 : s ≠ []) (h2 : s.length ≤ 1000000) (hd : ∀ b, b ∈ s → isDig b = true) (m : Mem) : evCall C0 123 [.str s] m = some (.ret (.tup (if valD 0 s < 9223372036854775808 then [.int .i64 (valD 0 s), .nili] else [.int .i64 (Lib.atoiSat s), .ifc 194 .undef])), m) := by
  have hx : C0.ext 123 = some atoiG := C0_atoi
  rw [evCall, hx]
  show atoiG [.str s] m = _
  simp only [atoiG]
  rw [if_pos h2, atoi_digs h1 hd]
  by_cases hb : valD 0 s < 9223372036854775808
  · simp [hb]
  · simp [hb]

/-- How many digits a string begins with. -/
def digN (s : List UInt8) : Nat := (s.takeWhile isDig).length
theorem digN_le (s : List UInt8) : digN s ≤ s.length := (List.takeWhile_prefix _).length_le
theorem digN_at : ∀ {s : List UInt8} {i : Nat} (h : i < s.length), i ≤ digN s → (i < digN s ↔ isDig s[i] = true)
  | b :: r, 0, _, _ => by
    unfold digN
    cases hb : isDig b <;> simp [hb]
  | b :: r, i + 1, h, hi => by
    unfold digN at hi ⊢
    cases hb : isDig b
    · simp [hb] at hi
    · simp only [List.takeWhile_cons, hb, if_true, List.length_cons] at hi ⊢
      have := digN_at (s := r) (i := i) (by simpa using h) (by unfold digN; omega)
      unfold digN at this
      simp only [List.getElem_cons_succ]
      rw [← this]
      omega
end AE
end Go.Proofs.YthoomlenmgdebaaGreatDoor

/- Strings that are read: what is left of them; plain. -/
set_option linter.unusedVariables false
set_option linter.unusedSimpArgs false
namespace Go.Proofs.YthoomlenmgdebaaGreatDoor
namespace AE
open Go

@[simp] theorem Fun.cellsL_cons (f : Fun) (r : List Fun) : Fun.cellsL (f :: r) = f.cells ++ Fun.cellsL r := by rw [Fun.cellsL]
/-- It is of a length that fits. -/
def Sm (s : List UInt8) : Prop := s.length ≤ 1000000
theorem Sm.suffix {s t : List UInt8} (h : Sm s) (k : t <:+ s) : Sm t := by have := k.length_le; unfold Sm at *; omega
theorem dropC_suffix (c : UInt8) (s : List UInt8) : dropC c s <:+ s := List.dropWhile_suffix _
theorem isC_suffix (c : UInt8) (s : List UInt8) : (isC c s).2 <:+ s := by
  have h := dropC_suffix 32 s
  unfold isC
  cases hd : dropC 32 s with
  | nil => exact List.nil_suffix
  | cons b r =>
    rw [hd] at h
    simp only
    split
    · exact (List.suffix_cons b r).trans h
    · exact h
theorem isC_true {c : UInt8} {s : List UInt8} (h : (isC c s).1 = true) : (isC c s).2.length < s.length := by
  have hl := dropC_length 32 s
  unfold isC at h ⊢
  cases hd : dropC 32 s with
  | nil => rw [hd] at h; cases h
  | cons b r =>
    rw [hd] at h hl
    simp only at h ⊢
    split at h
    · rename_i hb
      rw [if_pos hb]
      simp at hl ⊢
      omega
    · cases h

end AE
end Go.Proofs.YthoomlenmgdebaaGreatDoor

/- The reference's tokens and numbers, with the marks of values. Printed out of AR1. -/
set_option linter.unusedVariables false
set_option linter.unusedSimpArgs false
namespace Go.Proofs.YthoomlenmgdebaaGreatDoor
namespace AE
open Go

/-- The value of digits, at most the greatest int. -/
def numR (s : List UInt8) : Int := if valD 0 s < 9223372036854775808 then valD 0 s else 9223372036854775807
/-! ### Tokens -/
def strs (l : List (List UInt8)) : List A := l.map .str
@[simp] theorem strs_length (l : List (List UInt8)) : (strs l).length = l.length := by simp [strs]
@[simp] theorem strs_nil : strs [] = [] := rfl
@[simp] theorem strs_cons (t : List UInt8) (l : List (List UInt8)) : strs (t :: l) = .str t :: strs l := rfl
@[simp] theorem closed_strs (nb nr : Nat) (l : List (List UInt8)) : (strs l).all (closed nb nr) = true := by simp [strs]
@[simp] theorem er_strs (nb nr : Nat) (g) (l : List (List UInt8)) : (strs l).map (er1 nb nr g) = strs l := by
  unfold strs
  rw [List.map_map]
  exact List.map_congr_left fun x _ => rfl
@[simp] theorem take_strs (l : List (List UInt8)) : (strs l).take l.length = strs l := List.take_of_length_le (by simp)
def marks : List UInt8 := [40, 41, 91, 93, 123, 125, 44, 58, 108, 114]
end AE
end Go.Proofs.YthoomlenmgdebaaGreatDoor

/- The parser's small functions. -/
set_option linter.unusedVariables false
set_option linter.unusedSimpArgs false
namespace Go.Proofs.YthoomlenmgdebaaGreatDoor
namespace AE
open Go

theorem ev_vnext (id : Nat) (s : List UInt8) (m : Mem) (hbx : m.bx[id]? = some [.str s]) : evCall C0 75 [.ptr id 0] m = some (.ret (.int .u8 (headN (dropC 32 s))), ⟨m.bx.set id [.str (dropC 32 s)], m.rw⟩) := by
  have hid : id < m.bx.length := (List.getElem?_eq_some_iff.1 hbx).1
  have hg : m.bx[id] = [.str s] := (List.getElem?_eq_some_iff.1 hbx).2
  rw [evCall_body C0 (C0_ext _ (by decide)) (by rw [C0_P]; exact Tryz.func75) rfl (by rw [C0_ann]; rfl) (by decide) (by simp [Tryz.f75])]
  have he := ev_TrimLeft 32 (by decide) s
  cases h : dropC 32 s with
  | nil => simp [h] at he; simp [Tryz.f75, a75, reg75, hid, at_lt, set_lt, hg, he, leave_set0]
  | cons b r =>
    simp [h] at he
    have hp : (0 : Int) < r.length + 1 := by omega
    simp [Tryz.f75, a75, reg75, hid, at_lt, set_lt, hg, he, leave_set0]
theorem ev_vis (id : Nat) (c : UInt8) (h0 : c ≠ 0) (s : List UInt8) (m : Mem) (hbx : m.bx[id]? = some [.str s]) : evCall C0 95 [.ptr id 0, .int .u8 c.toNat] m = some (.ret (.bool (isC c s).1), ⟨m.bx.set id [.str (isC c s).2], m.rw⟩) := by
  have hid : id < m.bx.length := (List.getElem?_eq_some_iff.1 hbx).1
  have hg : m.bx[id] = [.str s] := (List.getElem?_eq_some_iff.1 hbx).2
  rw [evCall_body C0 (C0_ext _ (by decide)) (by rw [C0_P]; exact Tryz.func95) rfl (by rw [C0_ann]; rfl) (by decide) (by simp [Tryz.f95])]
  have he := ev_vnext id s m hbx
  unfold isC
  cases h : dropC 32 s with
  | nil =>
    have hc : ¬ (0 : Int) = c.toNat := by
      intro e
      apply h0
      exact UInt8.toNat_inj.1 (by simp; omega)
    simp [h] at he
    simp [Tryz.f95, a95, reg95, hid, at_lt, set_lt, hg, he, leave_set0, hc]
  | cons b r =>
    simp [h] at he
    by_cases hc : b = c
    · subst hc
      have hp2 : (1 : Int) ≤ r.length + 1 := by omega
      simp [Tryz.f95, a95, reg95, hid, at_lt, set_lt, hg, he, leave_set0, hp2]
    · simp [Tryz.f95, a95, reg95, hid, at_lt, set_lt, hg, he, leave_set0, byte_eq, hc]
def wrongV : A := .ifc 91 (.agg [])
theorem ev_vtake (id : Nat) (c : UInt8) (h0 : c ≠ 0) (s : List UInt8) (m : Mem) (hbx : m.bx[id]? = some [.str s]) : evCall C0 94 [.ptr id 0, .int .u8 c.toNat] m = some (if (isC c s).1 then .ret (.tup []) else .pan wrongV, ⟨m.bx.set id [.str (isC c s).2], m.rw⟩) := by
  have hid : id < m.bx.length := (List.getElem?_eq_some_iff.1 hbx).1
  rw [evCall_body C0 (C0_ext _ (by decide)) (by rw [C0_P]; exact Tryz.func94) rfl (by rw [C0_ann]; rfl) (by decide) (by simp [Tryz.f94])]
  have he := ev_vis id c h0 s m hbx
  cases h : (isC c s).1
  · simp [h] at he
    simp [Tryz.f94, a94, reg94, hid, at_lt, set_lt, he, leave_set0, h, panA, wrongV]
  · simp [h] at he
    simp [Tryz.f94, a94, reg94, hid, at_lt, set_lt, he, leave_set0, h]
/-- A number is read. -/
def pNum (s : List UInt8) : Option Int × List UInt8 :=
  if digN (dropC 32 s) = 0 ∨ (headN (dropC 32 s) = 48 ∧ 1 < digN (dropC 32 s)) then (none, dropC 32 s) else (some (numR ((dropC 32 s).take (digN (dropC 32 s)))), (dropC 32 s).drop (digN (dropC 32 s)))
theorem take_dig {s : List UInt8} {b : UInt8} (h : b ∈ s.take (digN s)) : isDig b = true := by
  have : s.take (digN s) = s.takeWhile isDig := by
    unfold digN
    exact (List.prefix_iff_eq_take.1 (List.takeWhile_prefix _)).symm
  rw [this] at h
  exact List.all_eq_true.1 (List.all_takeWhile) _ h
set_option maxHeartbeats 2000000 in
theorem ev_vnumber (id : Nat) (s : List UInt8) (hs : s.length ≤ 1000000) (m : Mem) (hbx : m.bx[id]? = some [.str s]) :
    evCall C0 93 [.ptr id 0] m = some (match (pNum s).1 with | some k => .ret (.int .i64 k) | none => .pan wrongV, ⟨m.bx.set id [.str (pNum s).2], m.rw⟩) := by
  have hid : id < m.bx.length := (List.getElem?_eq_some_iff.1 hbx).1
  have hg : m.bx[id] = [.str s] := (List.getElem?_eq_some_iff.1 hbx).2
  rw [evCall_body C0 (C0_ext _ (by decide)) (by rw [C0_P]; exact Tryz.func93) rfl (by rw [C0_ann]; rfl) (by decide) (by simp [Tryz.f93])]
  have he := ev_vnext id s m hbx
  have hlt := dropC_length 32 s
  unfold pNum
  have hdm : ∀ b, b ∈ (dropC 32 s).take (digN (dropC 32 s)) → isDig b = true := fun b h => take_dig h
  generalize dropC 32 s = t at he hlt hdm
  have hnl := digN_le t
  simp [Tryz.f93, a93, reg93, loop93, he]
  refine loop_in (fun i : Nat => ⟨[(0, .ptr id 0), (3, .int .i64 i)], ⟨m.bx.set id [.str t], m.rw⟩⟩)
    (fun _ => some (match (if digN t = 0 ∨ (headN t = 48 ∧ 1 < digN t) then (none, t) else (some (numR (t.take (digN t))), t.drop (digN t)) : Option Int × List UInt8).1 with | some k => .ret (.int .i64 k) | none => .pan wrongV, ⟨m.bx.set id [.str (if digN t = 0 ∨ (headN t = 48 ∧ 1 < digN t) then (none, t) else (some (numR (t.take (digN t))), t.drop (digN t)) : Option Int × List UInt8).2], m.rw⟩)) (fun i => t.length - i) (fun i => i ≤ digN t) 0 ?_ ?_ ?_ ?_ ?_
  · simp
  · simp
  · simp
  · intro x; simp [Tryz.f93, a93, reg93, loop93]
  · intro i hi hrec
    by_cases hdg : i < digN t
    · have hlt : i < t.length := by omega
      have hb := isDig_iff.1 ((digN_at hlt hi).1 hdg)
      have w2 : IntKind.i64.wrap (i + 1) = i + 1 := wrap_id _ (by omega)
      have d1 : (48 : Int) ≤ t[i].toNat := by omega
      have d2 : (t[i].toNat : Int) ≤ 57 := by omega
      simp [round, Tryz.f93, a93, reg93, loop93, hlt, hid, w2, d1, d2, endRound_M0]
      refine hrec (i + 1) _ _ ?_ ?_ ?_ ?_
      · omega
      · omega
      · simp
      · simp
    · clear hrec
      have hin : i = digN t := by omega
      have hstop : ∀ (f : Nat → Prop), True := fun _ => trivial
      have key : i < t.length → ¬ ((48 : Int) ≤ (t[i]?.getD 0).toNat ∧ ((t[i]?.getD 0).toNat : Int) ≤ 57) := fun hlt h => by
        have hnd : ¬ isDig t[i] = true := fun h => hdg ((digN_at hlt hi).2 h)
        rw [isDig_iff] at hnd
        rw [List.getElem?_eq_getElem hlt] at h
        simp at h
        omega
      by_cases h0 : digN t = 0
      · have hi0 : i = 0 := by omega
        subst hi0
        by_cases hlt : 0 < t.length
        · have := key hlt
          rw [List.getElem?_eq_getElem hlt] at this
          simp at this
          by_cases d1 : (48 : Int) ≤ t[0].toNat
          · have d2 : ¬ (t[0].toNat : Int) ≤ 57 := by omega
            simp [round, Tryz.f93, a93, reg93, loop93, hid, hlt, h0, d1, d2, leave_set0, panA, wrongV, at_lt, set_lt]
          · simp [round, Tryz.f93, a93, reg93, loop93, hid, hlt, h0, d1, leave_set0, panA, wrongV, at_lt, set_lt]
        · have ht : t = [] := List.eq_nil_of_length_eq_zero (by omega)
          subst ht
          simp [round, Tryz.f93, a93, reg93, loop93, hid, h0, leave_set0, panA, wrongV, at_lt, set_lt]
      · have hi0 : ¬ (i : Int) = 0 := by omega
        have hle1 : (i : Int) ≤ t.length := by omega
        have hmin : min i t.length = i := by omega
        have ht0 : 0 < t.length := by omega
        have hh : headN t = t[0].toNat := by
          cases t with
          | nil => simp at ht0
          | cons b r => rfl
        rw [hh]
        have htl : (i : Int).toNat = i := by omega
        have hdi : ∀ b, b ∈ t.take i → isDig b = true := by rw [hin]; exact hdm
        have htn : t.take i ≠ [] := fun e => by
          have := congrArg List.length e
          rw [List.length_take, hmin] at this
          have h1 : i = 0 := this
          omega
        have hea := ev_AtoiD (t.take i) htn (by rw [List.length_take]; omega) hdi
        rw [← hin] at h0 ⊢
        have hie : ¬ i = 0 := by omega
        by_cases hlt' : i < t.length
        · have hk := key hlt'
          rw [List.getElem?_eq_getElem hlt'] at hk
          simp at hk
          by_cases d1 : (48 : Int) ≤ t[i].toNat
          · have d2 : ¬ (t[i].toNat : Int) ≤ 57 := by omega
            by_cases hz : (t[0].toNat : Int) = 48 ∧ 1 < i
            · obtain ⟨hz1, hz2⟩ := hz
              have hz3 : (1 : Int) < i := by omega
              simp [round, Tryz.f93, a93, reg93, loop93, hid, hlt', d1, d2, h0, hi0, hie, hz1, hz2, hz3, ht0, leave_set0, panA, wrongV, at_lt, set_lt, hle1, htl, hmin]
            have hz' : (t[0].toNat : Int) = 48 → ¬ (1 : Int) < i := fun h1 h2 => hz ⟨h1, by omega⟩
            have hz'' : (t[0].toNat : Int) = 48 → ¬ 1 < i := fun h1 h2 => hz ⟨h1, h2⟩
            by_cases hbig : valD 0 (t.take i) < 9223372036854775808
            · simp only [hbig, if_true] at hea
              by_cases hz1 : (t[0].toNat : Int) = 48
              · simp [round, Tryz.f93, a93, reg93, loop93, hid, hlt', d1, d2, h0, hi0, hie, hz1, hz' hz1, hz'' hz1, ht0, leave_set0, at_lt, set_lt, hle1, htl, hmin, hea, hbig, numR]
              · simp [round, Tryz.f93, a93, reg93, loop93, hid, hlt', d1, d2, h0, hi0, hie, hz1, ht0, leave_set0, at_lt, set_lt, hle1, htl, hmin, hea, hbig, numR]
            · simp only [hbig, if_false] at hea
              by_cases hz1 : (t[0].toNat : Int) = 48
              · simp [round, Tryz.f93, a93, reg93, loop93, hid, hlt', d1, d2, h0, hi0, hie, hz1, hz' hz1, hz'' hz1, ht0, leave_set0, at_lt, set_lt, hle1, htl, hmin, hea, hbig, numR]
              · simp [round, Tryz.f93, a93, reg93, loop93, hid, hlt', d1, d2, h0, hi0, hie, hz1, ht0, leave_set0, at_lt, set_lt, hle1, htl, hmin, hea, hbig, numR]
          · by_cases hz : (t[0].toNat : Int) = 48 ∧ 1 < i
            · obtain ⟨hz1, hz2⟩ := hz
              have hz3 : (1 : Int) < i := by omega
              simp [round, Tryz.f93, a93, reg93, loop93, hid, hlt', d1, h0, hi0, hie, hz1, hz2, hz3, ht0, leave_set0, panA, wrongV, at_lt, set_lt, hle1, htl, hmin]
            have hz' : (t[0].toNat : Int) = 48 → ¬ (1 : Int) < i := fun h1 h2 => hz ⟨h1, by omega⟩
            have hz'' : (t[0].toNat : Int) = 48 → ¬ 1 < i := fun h1 h2 => hz ⟨h1, h2⟩
            by_cases hbig : valD 0 (t.take i) < 9223372036854775808
            · simp only [hbig, if_true] at hea
              by_cases hz1 : (t[0].toNat : Int) = 48
              · simp [round, Tryz.f93, a93, reg93, loop93, hid, hlt', d1, h0, hi0, hie, hz1, hz' hz1, hz'' hz1, ht0, leave_set0, at_lt, set_lt, hle1, htl, hmin, hea, hbig, numR]
              · simp [round, Tryz.f93, a93, reg93, loop93, hid, hlt', d1, h0, hi0, hie, hz1, ht0, leave_set0, at_lt, set_lt, hle1, htl, hmin, hea, hbig, numR]
            · simp only [hbig, if_false] at hea
              by_cases hz1 : (t[0].toNat : Int) = 48
              · simp [round, Tryz.f93, a93, reg93, loop93, hid, hlt', d1, h0, hi0, hie, hz1, hz' hz1, hz'' hz1, ht0, leave_set0, at_lt, set_lt, hle1, htl, hmin, hea, hbig, numR]
              · simp [round, Tryz.f93, a93, reg93, loop93, hid, hlt', d1, h0, hi0, hie, hz1, ht0, leave_set0, at_lt, set_lt, hle1, htl, hmin, hea, hbig, numR]
        · by_cases hz : (t[0].toNat : Int) = 48 ∧ 1 < i
          · obtain ⟨hz1, hz2⟩ := hz
            have hz3 : (1 : Int) < i := by omega
            simp [round, Tryz.f93, a93, reg93, loop93, hid, hlt', h0, hi0, hie, hz1, hz2, hz3, ht0, leave_set0, panA, wrongV, at_lt, set_lt, hle1, htl, hmin]
          have hz' : (t[0].toNat : Int) = 48 → ¬ (1 : Int) < i := fun h1 h2 => hz ⟨h1, by omega⟩
          have hz'' : (t[0].toNat : Int) = 48 → ¬ 1 < i := fun h1 h2 => hz ⟨h1, h2⟩
          by_cases hbig : valD 0 (t.take i) < 9223372036854775808
          · simp only [hbig, if_true] at hea
            by_cases hz1 : (t[0].toNat : Int) = 48
            · simp [round, Tryz.f93, a93, reg93, loop93, hid, hlt', h0, hi0, hie, hz1, hz' hz1, hz'' hz1, ht0, leave_set0, at_lt, set_lt, hle1, htl, hmin, hea, hbig, numR]
            · simp [round, Tryz.f93, a93, reg93, loop93, hid, hlt', h0, hi0, hie, hz1, ht0, leave_set0, at_lt, set_lt, hle1, htl, hmin, hea, hbig, numR]
          · simp only [hbig, if_false] at hea
            by_cases hz1 : (t[0].toNat : Int) = 48
            · simp [round, Tryz.f93, a93, reg93, loop93, hid, hlt', h0, hi0, hie, hz1, hz' hz1, hz'' hz1, ht0, leave_set0, at_lt, set_lt, hle1, htl, hmin, hea, hbig, numR]
            · simp [round, Tryz.f93, a93, reg93, loop93, hid, hlt', h0, hi0, hie, hz1, ht0, leave_set0, at_lt, set_lt, hle1, htl, hmin, hea, hbig, numR]
end AE
end Go.Proofs.YthoomlenmgdebaaGreatDoor

/- The parser of values: what it computes; plain. -/
set_option linter.unusedVariables false
set_option linter.unusedSimpArgs false
namespace Go.Proofs.YthoomlenmgdebaaGreatDoor
namespace AE
open Go

abbrev PRV := Option Val × List UInt8
def takeC (c : UInt8) (s : List UInt8) (k : List UInt8 → PRV) : PRV := if (isC c s).1 then k (isC c s).2 else (none, (isC c s).2)
def bindV (x : PRV) (k : Val → List UInt8 → PRV) : PRV := match x with
  | (some v, t) => k v t
  | (none, t) => (none, t)
def bindN (x : Option Int × List UInt8) (k : Int → List UInt8 → PRV) : PRV := match x with
  | (some v, t) => k v t
  | (none, t) => (none, t)
/-- Values up to a byte; w: each with a weight. -/
def listV (val : List UInt8 → PRV) (e : UInt8) (w : Bool) : Nat → List Val → List Int → List UInt8 → PRV
  | 0, _, _, s => (none, s)
  | n + 1, a, ws, s =>
    if (isC e s).1 then (some (.mk 0 a ws), (isC e s).2) else
      if a.length ≠ 0 ∧ (isC 44 (isC e s).2).1 = false then (none, (isC 44 (isC e s).2).2) else
        bindV (val (if a.length = 0 then (isC e s).2 else (isC 44 (isC e s).2).2)) fun x u =>
          if w then takeC 58 u fun t => bindN (pNum t) fun k v => listV val e w n (a ++ [x]) (ws ++ [k]) v
          else listV val e w n (a ++ [x]) ws u
def pV : Nat → Fun → List UInt8 → PRV
  | 0, _, s => (none, s)
  | N + 1, f, s =>
    if f.kind = 0 ∨ f.kind = 1 then bindN (pNum s) fun k t => (some (.mk k [] []), t)
    else if f.kind = 2 then takeC 40 s fun s => bindV (pV N (f.args.getD 0 fun0) s) fun x s => takeC 44 s fun s => bindV (pV N (f.args.getD 1 fun0) s) fun y s => takeC 41 s fun s => (some (.mk 0 [x, y] []), s)
    else if f.kind = 3 then (if (isC 108 s).1 then bindV (pV N (f.args.getD 0 fun0) (isC 108 s).2) fun x t => (some (.mk 0 [x] []), t) else takeC 114 (isC 108 s).2 fun s => bindV (pV N (f.args.getD 1 fun0) s) fun x t => (some (.mk 1 [x] []), t))
    else if f.kind = 4 then takeC 91 s fun s => bindV (listV (pV N (f.args.getD 0 fun0)) 93 false (s.length + 1) [] [] s) fun v t => if (v.args.length : Int) = f.num then (some v, t) else (none, t)
    else takeC 123 s fun s => listV (pV N (f.args.getD 0 fun0)) 125 (decide (6 ≤ f.kind)) (s.length + 1) [] [] s

theorem pNum_suffix (s : List UInt8) : (pNum s).2 <:+ s := by
  have h := dropC_suffix 32 s
  unfold pNum
  split
  · exact h
  · exact (List.drop_suffix _ _).trans h
theorem takeC_suffix {c : UInt8} {s : List UInt8} {k : List UInt8 → PRV} (hk : ∀ t, (k t).2 <:+ t) : (takeC c s k).2 <:+ s := by
  unfold takeC
  split
  · exact (hk _).trans (isC_suffix _ _)
  · exact isC_suffix _ _
theorem bindV_suffix {x : PRV} {s : List UInt8} {k : Val → List UInt8 → PRV} (hx : x.2 <:+ s) (hk : ∀ v t, (k v t).2 <:+ t) : (bindV x k).2 <:+ s := by
  obtain ⟨o, t⟩ := x
  cases o with
  | none => exact hx
  | some v => exact (hk v t).trans hx
theorem bindN_suffix {x : Option Int × List UInt8} {s : List UInt8} {k : Int → List UInt8 → PRV} (hx : x.2 <:+ s) (hk : ∀ v t, (k v t).2 <:+ t) : (bindN x k).2 <:+ s := by
  obtain ⟨o, t⟩ := x
  cases o with
  | none => exact hx
  | some v => exact (hk v t).trans hx
theorem listV_suffix {val : List UInt8 → PRV} (hv : ∀ s, (val s).2 <:+ s) (e : UInt8) (w : Bool) : ∀ (n : Nat) (a : List Val) (ws : List Int) (s : List UInt8), (listV val e w n a ws s).2 <:+ s
  | 0, a, ws, s => by rw [listV]; exact List.suffix_refl _
  | n + 1, a, ws, s => by
    rw [listV]
    have h1 := isC_suffix e s
    have h2 := isC_suffix 44 (isC e s).2
    split
    · exact h1
    split
    · exact h2.trans h1
    refine bindV_suffix (s := s) ((hv _).trans ?_) fun x u => ?_
    · split
      · exact h1
      · exact h2.trans h1
    split
    · exact takeC_suffix fun t => bindN_suffix (pNum_suffix t) fun k v => listV_suffix hv e w n _ _ v
    · exact listV_suffix hv e w n _ _ u
theorem pV_suffix : ∀ (N : Nat) (f : Fun) (s : List UInt8), (pV N f s).2 <:+ s
  | 0, f, s => by rw [pV]; exact List.suffix_refl _
  | N + 1, f, s => by
    have ih := pV_suffix N
    rw [pV]
    split
    · exact bindN_suffix (pNum_suffix s) fun _ _ => List.suffix_refl _
    split
    · exact takeC_suffix fun s => bindV_suffix (ih _ s) fun x s => takeC_suffix fun s => bindV_suffix (ih _ s) fun y s => takeC_suffix fun s => List.suffix_refl _
    split
    · split
      · exact bindV_suffix ((ih _ _).trans (isC_suffix _ _)) fun _ _ => List.suffix_refl _
      · exact (takeC_suffix fun s => bindV_suffix (ih _ s) fun _ _ => List.suffix_refl _).trans (isC_suffix _ _)
    split
    · refine takeC_suffix fun s => bindV_suffix (listV_suffix (ih _) _ _ _ _ _ s) fun v t => ?_
      split <;> exact List.suffix_refl _
    · exact takeC_suffix fun s => listV_suffix (ih _) _ _ _ _ _ s
/-! ### A value that is read takes bytes, as many as it has nodes and weights -/
def CostV (val : List UInt8 → PRV) : Prop := ∀ s v t, val s = (some v, t) → v.nodes + t.length ≤ s.length ∧ slimV v
theorem pNum_cost {s t : List UInt8} {k : Int} (h : pNum s = (some k, t)) : 1 + t.length ≤ s.length := by
  have hl := dropC_length 32 s
  unfold pNum at h
  split at h
  · cases h
  · rename_i h0
    simp only [Prod.mk.injEq] at h
    have hd := digN_le (dropC 32 s)
    rw [← h.2, List.length_drop]
    omega
theorem takeC_some {c : UInt8} {s : List UInt8} {k : List UInt8 → PRV} {v : Val} {t : List UInt8} (h : takeC c s k = (some v, t)) : (isC c s).1 = true ∧ (isC c s).2.length < s.length ∧ k (isC c s).2 = (some v, t) := by
  unfold takeC at h
  split at h
  · rename_i hc
    exact ⟨hc, isC_true hc, h⟩
  · cases h
theorem bindV_some {x : PRV} {k : Val → List UInt8 → PRV} {v : Val} {t : List UInt8} (h : bindV x k = (some v, t)) : ∃ y u, x = (some y, u) ∧ k y u = (some v, t) := by
  obtain ⟨o, u⟩ := x
  cases o with
  | none => cases h
  | some y => exact ⟨y, u, rfl, h⟩
theorem bindN_some {x : Option Int × List UInt8} {k : Int → List UInt8 → PRV} {v : Val} {t : List UInt8} (h : bindN x k = (some v, t)) : ∃ y u, x = (some y, u) ∧ k y u = (some v, t) := by
  obtain ⟨o, u⟩ := x
  cases o with
  | none => cases h
  | some y => exact ⟨y, u, rfl, h⟩
theorem nodesL_append : ∀ a b : List Val, Val.nodesL (a ++ b) = Val.nodesL a + Val.nodesL b
  | [], b => by simp [Val.nodesL]
  | x :: r, b => by rw [List.cons_append, Val.nodesL, Val.nodesL, nodesL_append r b]; omega
theorem slimL_append {a b : List Val} (ha : slimL a) (hb : slimL b) : slimL (a ++ b) := slimL_of fun x hx => by
  rcases List.mem_append.1 hx with h | h
  · exact slimL_mem ha h
  · exact slimL_mem hb h
theorem listV_cost {val : List UInt8 → PRV} (hv : CostV val) (e : UInt8) (w : Bool) : ∀ (n : Nat) (a : List Val) (ws : List Int) (s : List UInt8) (v : Val) (t : List UInt8), listV val e w n a ws s = (some v, t) → slimL a → ws.length + s.length ≤ 1000000000 → v.nodes + t.length + 1 ≤ 1 + Val.nodesL a + s.length ∧ slimV v ∧ v.num = 0 ∧ a.length ≤ v.args.length
  | 0, a, ws, s, v, t, h, _, _ => by rw [listV] at h; cases h
  | n + 1, a, ws, s, v, t, h, ha, hw => by
    rw [listV] at h
    split at h
    · rename_i hc
      simp only [Prod.mk.injEq, Option.some.injEq] at h
      obtain ⟨rfl, rfl⟩ := h
      have := isC_true hc
      rw [Val.nodes_eq, slimV_eq]
      simp only [Val.args_mk, Val.ws_mk, Val.num_mk]
      exact ⟨by omega, ⟨by omega, ha⟩, trivial, Nat.le_refl _⟩
    split at h
    · cases h
    obtain ⟨x, u, h1, h2⟩ := bindV_some h
    have hx := hv _ _ _ h1
    have hle : (if a.length = 0 then (isC e s).2 else (isC 44 (isC e s).2).2).length ≤ s.length := by
      have h1 := (isC_suffix e s).length_le
      have h2 := (isC_suffix 44 (isC e s).2).length_le
      split <;> omega
    have hpos := x.nodes_pos
    have hn := nodesL_append a [x]
    have hs := slimL_append (b := [x]) ha (by rw [slimL, slimL]; exact ⟨hx.2, trivial⟩)
    simp only [Val.nodesL] at hn
    split at h2
    · obtain ⟨_, h4, h5⟩ := takeC_some h2
      obtain ⟨k, q, h6, h7⟩ := bindN_some h5
      have h8 := pNum_cost h6
      obtain ⟨r1, r2, r3, r4⟩ := listV_cost hv e w n _ _ _ _ _ h7 hs (by simp; omega)
      simp at r4
      exact ⟨by omega, r2, r3, by omega⟩
    · obtain ⟨r1, r2, r3, r4⟩ := listV_cost hv e w n _ _ _ _ _ h2 hs (by omega)
      simp at r4
      exact ⟨by omega, r2, r3, by omega⟩
theorem pV_cost : ∀ (N : Nat) (f : Fun) (s : List UInt8), s.length ≤ 1000000 → ∀ v t, pV N f s = (some v, t) → v.nodes + t.length ≤ s.length ∧ slimV v
  | 0, f, s, _, v, t, h => by rw [pV] at h; cases h
  | N + 1, f, s, hs, v, t, h => by
    have ih := pV_cost N
    have leaf : ∀ k : Int, (Val.mk k [] []).nodes = 1 ∧ slimV (.mk k [] []) := fun k => by rw [Val.nodes_eq, slimV_eq]; simp [Val.nodesL, slimL]
    rw [pV] at h
    split at h
    · obtain ⟨k, u, h1, h2⟩ := bindN_some h
      have := pNum_cost h1
      simp only [Prod.mk.injEq, Option.some.injEq] at h2
      obtain ⟨rfl, rfl⟩ := h2
      have := leaf k
      exact ⟨by omega, this.2⟩
    split at h
    · obtain ⟨_, h1, h2⟩ := takeC_some h
      obtain ⟨x, u, h3, h4⟩ := bindV_some h2
      obtain ⟨_, h5, h6⟩ := takeC_some h4
      obtain ⟨y, q, h7, h8⟩ := bindV_some h6
      obtain ⟨_, h9, h10⟩ := takeC_some h8
      simp only [Prod.mk.injEq, Option.some.injEq] at h10
      obtain ⟨rfl, rfl⟩ := h10
      have a := ih _ _ (by omega) _ _ h3
      have b := ih _ _ (by omega) _ _ h7
      rw [Val.nodes_eq, slimV_eq]
      simp only [Val.args_mk, Val.ws_mk, Val.nodesL, slimL, List.length_nil]
      exact ⟨by omega, by omega, a.2, b.2, trivial⟩
    split at h
    · split at h
      · rename_i hc
        have hl := isC_true hc
        obtain ⟨x, u, h3, h4⟩ := bindV_some h
        simp only [Prod.mk.injEq, Option.some.injEq] at h4
        obtain ⟨rfl, rfl⟩ := h4
        have a := ih _ _ (by omega) _ _ h3
        rw [Val.nodes_eq, slimV_eq]
        simp only [Val.args_mk, Val.ws_mk, Val.nodesL, slimL, List.length_nil]
        exact ⟨by omega, by omega, a.2, trivial⟩
      · have hl := (isC_suffix 108 s).length_le
        obtain ⟨_, h1, h2⟩ := takeC_some h
        obtain ⟨x, u, h3, h4⟩ := bindV_some h2
        simp only [Prod.mk.injEq, Option.some.injEq] at h4
        obtain ⟨rfl, rfl⟩ := h4
        have a := ih _ _ (by omega) _ _ h3
        rw [Val.nodes_eq, slimV_eq]
        simp only [Val.args_mk, Val.ws_mk, Val.nodesL, slimL, List.length_nil]
        exact ⟨by omega, by omega, a.2, trivial⟩
    have hsub : ∀ s' : List UInt8, s'.length ≤ s.length → CostV fun q => if q.length ≤ s'.length then pV N (f.args.getD 0 fun0) q else (none, q) := fun s' hs' q v t hq => by
      simp only at hq
      split at hq
      · exact ih _ _ (by omega) _ _ hq
      · cases hq
    have hlist : ∀ (e : UInt8) (w : Bool) (s' : List UInt8) (v : Val) (t : List UInt8), s'.length < s.length → listV (pV N (f.args.getD 0 fun0)) e w (s'.length + 1) [] [] s' = (some v, t) → v.nodes + t.length ≤ s.length ∧ slimV v := fun e w s' v t hl hq => by
      have key : ∀ (n : Nat) (a : List Val) (ws : List Int) (q : List UInt8), q.length ≤ s'.length → listV (pV N (f.args.getD 0 fun0)) e w n a ws q = listV (fun q => if q.length ≤ s'.length then pV N (f.args.getD 0 fun0) q else (none, q)) e w n a ws q := by
        intro n
        induction n with
        | zero => intro a ws q _; rw [listV, listV]
        | succ n ihn =>
          intro a ws q hq
          have h1 := (isC_suffix e q).length_le
          have h2 := (isC_suffix 44 (isC e q).2).length_le
          rw [listV, listV]
          have hle : (if a.length = 0 then (isC e q).2 else (isC 44 (isC e q).2).2).length ≤ s'.length := by split <;> omega
          rw [if_pos hle]
          have hsuf := pV_suffix N (f.args.getD 0 fun0) (if a.length = 0 then (isC e q).2 else (isC 44 (isC e q).2).2)
          generalize pV N (f.args.getD 0 fun0) (if a.length = 0 then (isC e q).2 else (isC 44 (isC e q).2).2) = x at hsuf ⊢
          obtain ⟨o, u⟩ := x
          have hu := hsuf.length_le
          simp only at hu
          cases o with
          | none => rfl
          | some y =>
            simp only [bindV]
            cases w with
            | false => simp only [Bool.false_eq_true, if_false]; rw [ihn _ _ u (by omega)]
            | true =>
              simp only [if_true, takeC]
              have h3 := (isC_suffix 58 u).length_le
              have h4 := (pNum_suffix (isC 58 u).2).length_le
              generalize pNum (isC 58 u).2 = z at h4
              obtain ⟨o2, r⟩ := z
              simp only at h4
              cases o2 with
              | none => rfl
              | some k => simp only [bindN]; rw [ihn _ _ r (by omega)]
      rw [key _ _ _ _ (Nat.le_refl _)] at hq
      obtain ⟨r1, r2, _⟩ := listV_cost (hsub s' (by omega)) e w _ _ _ _ _ _ hq (by rw [slimL]; trivial) (by simp; omega)
      simp only [Val.nodesL] at r1
      exact ⟨by omega, r2⟩
    split at h
    · obtain ⟨_, h1, h2⟩ := takeC_some h
      obtain ⟨x, u, h3, h4⟩ := bindV_some h2
      split at h4
      · simp only [Prod.mk.injEq, Option.some.injEq] at h4
        obtain ⟨rfl, rfl⟩ := h4
        exact hlist _ _ _ _ _ h1 h3
      · cases h4
    · obtain ⟨_, h1, h2⟩ := takeC_some h
      exact hlist _ _ _ _ _ h1 h2
end AE
end Go.Proofs.YthoomlenmgdebaaGreatDoor

/- The parser of values; evaluated. -/
set_option linter.unusedVariables false
set_option linter.unusedSimpArgs false
namespace Go.Proofs.YthoomlenmgdebaaGreatDoor
namespace AE
open Go

/-- A box that was there, local ones and rows. -/
theorem endRound_SJ {l : List Nat} {M L L' : List (List A)} {k : Nat} {x x' : List A} {R J J' : List Row} {tm : List (Nat × A)} (hJ : J'.all (fun r => r.cs.all (closed 0 0)) = true) (hx : x'.all (closed (M.length + L.length) (R.length + J'.length)) = true) (hL : L.length ≤ L'.length) (hl : l.all (fun t => closed (M.length + L.length) (R.length + J'.length) (lk t tm)) = true) (hc : (L'.take L.length).all (fun cs => cs.all (closed (M.length + L.length) (R.length + J'.length))) = true) :
    endRound (some l) ⟨M.set k x ++ L, R ++ J⟩ ⟨tm, ⟨M.set k x' ++ L', R ++ J'⟩⟩ = some ⟨prune (some l) tm, ⟨M.set k x' ++ L'.take L.length, R ++ J'⟩⟩ := by
  refine endRound_eq (B := M.set k x' ++ L'.take L.length) (J := L'.drop L.length) (by simp) (by simp; omega) (by simpa using List.all_eq_true.1 hl) (fun i hi => ?_) (fun i hi => ?_)
  · simp only [List.length_append, List.length_set] at hi ⊢
    by_cases h : i < M.length
    · rw [List.getElem?_append_left (by simpa using h), List.getElem?_append_left (by simpa using h)]
      by_cases hk : k = i
      · subst hk; right; exact ⟨x', by simp [h], hx⟩
      · left; simp [hk]
    · right
      have := all_take (B := M.set k x') hc (by simpa using h) (by simpa using hi) hL
      simpa using this
  · by_cases h : i < R.length
    · left; rw [List.getElem?_append_left h, List.getElem?_append_left h]
    · right
      have hi' : i < (R ++ J').length := hi
      simp only [List.length_append] at hi
      refine ⟨(R ++ J')[i], List.getElem?_eq_getElem hi', ?_⟩
      rw [List.getElem_append_right (by omega)]
      exact closed_up (List.all_eq_true.1 hJ _ (List.getElem_mem (l := J') (n := i - R.length) (by omega)))
theorem endRound_SJ0 {l : List Nat} {M L L' : List (List A)} {k : Nat} {x x' : List A} {R J' : List Row} {tm : List (Nat × A)} (hJ : J'.all (fun r => r.cs.all (closed 0 0)) = true) (hx : x'.all (closed (M.length + L.length) (R.length + J'.length)) = true) (hL : L.length ≤ L'.length) (hl : l.all (fun t => closed (M.length + L.length) (R.length + J'.length) (lk t tm)) = true) (hc : (L'.take L.length).all (fun cs => cs.all (closed (M.length + L.length) (R.length + J'.length))) = true) :
    endRound (some l) ⟨M.set k x ++ L, R⟩ ⟨tm, ⟨M.set k x' ++ L', R ++ J'⟩⟩ = some ⟨prune (some l) tm, ⟨M.set k x' ++ L'.take L.length, R ++ J'⟩⟩ := by
  have := endRound_SJ (J := []) (x := x) (k := k) hJ hx hL hl hc
  simpa using this
def resV (x : PRV) : Res := match x.1 with
  | some v => .ret (.agg v.cells)
  | none => .pan wrongV
@[simp] theorem resV_some (v : Val) (t : List UInt8) : resV (some v, t) = .ret (.agg v.cells) := rfl
@[simp] theorem resV_none (t : List UInt8) : resV (none, t) = .pan wrongV := rfl
/-- What lies of a list under way. -/
def lvR (w : Bool) (a : List Val) (ws : List Int) : List Row := if a.length = 0 then [] else if w then [⟨28, Val.cellsL a⟩, ⟨3, ints ws⟩] else [⟨28, Val.cellsL a⟩]
def lvW (w : Bool) (n : Nat) (a : List Val) (ws : List Int) : A := if a.length = 0 ∨ w = false then .nils else .sl (n + 1) ws.length 0 ws.length
def ValOk (id : Nat) (f : Fun) (val : List UInt8 → PRV) : Prop := ∀ s (m : Mem), Sm s → m.bx[id]? = some [.str s] → evCall C0 74 [.ptr id 0, .agg f.cells] m = some (resV (val s), ⟨m.bx.set id [.str (val s).2], m.rw⟩)
structure LvS where
  n : Nat
  a : List Val
  ws : List Int
  s : List UInt8
set_option maxHeartbeats 16000000 in
theorem ev_vlist (id : Nat) (f : Fun) (val : List UInt8 → PRV) (hsuf : ∀ s, (val s).2 <:+ s) (hval : ValOk id f val) (hcost : ∀ s v t, Sm s → val s = (some v, t) → t.length < s.length) (e : UInt8) (he0 : e ≠ 0) (w : Bool) (s : List UInt8) (hs : Sm s) (m : Mem) (hbx : m.bx[id]? = some [.str s]) :
    evCall C0 96 [.ptr id 0, .agg f.cells, .int .u8 e.toNat, .bool w] m = some (resV (listV val e w (s.length + 1) [] [] s), ⟨m.bx.set id [.str (listV val e w (s.length + 1) [] [] s).2], m.rw⟩) := by
  have hid : id < m.bx.length := (List.getElem?_eq_some_iff.1 hbx).1
  have hg : m.bx[id] = [.str s] := (List.getElem?_eq_some_iff.1 hbx).2
  have hset : m.bx.set id [.str s] = m.bx := by rw [← hg]; exact List.set_getElem_self hid
  have hidk : ∀ k, id < m.bx.length + k := fun k => by omega
  rw [evCall_body C0 (C0_ext _ (by decide)) (by rw [C0_P]; exact Tryz.func96) rfl (by rw [C0_ann]; rfl) (by decide) (by simp [Tryz.f96])]
  simp [Tryz.f96, a96, reg96, loop96, draw96, dok96]
  refine loop_in (fun x : LvS => ⟨[(0, .ptr id 0), (2, .int .u8 e.toNat), (3, .bool w), (5, .ptr m.bx.length 0), (8, .ptr (m.bx.length + 1) 0), (9, .ptr (m.bx.length + 2) 0)],
      ⟨m.bx.set id [.str x.s] ++ [f.cells, [.int .i64 0, .nils, .nils], [.int .i64 0, xA m.rw.length x.a, lvW w m.rw.length x.a x.ws]], m.rw ++ lvR w x.a x.ws⟩⟩)
    (fun x => some (resV (listV val e w x.n x.a x.ws x.s), ⟨m.bx.set id [.str (listV val e w x.n x.a x.ws x.s).2], m.rw⟩)) (fun x => x.s.length)
    (fun x => Sm x.s ∧ x.s.length < x.n ∧ x.a.length + x.s.length ≤ 1000000 ∧ (w = true → x.ws.length = x.a.length) ∧ (w = false → x.ws = [])) ⟨s.length + 1, [], [], s⟩ ?_ ?_ ?_ ?_ ?_
  · simp [xA, lvW, lvR, hset]
  · rfl
  · simp [hs]; exact hs
  · intro x; simp [Tryz.f96, a96, reg96, loop96, draw96, dok96]
  · rintro ⟨n, a, ws, t⟩ ⟨ht, hn, hal, hwt, hwf⟩ hrec
    simp only at ht hn hal hwt hwf ⊢
    obtain ⟨n, rfl⟩ : ∃ k, n = k + 1 := ⟨n - 1, by omega⟩
    have ht1 : Sm (isC e t).2 := ht.suffix (isC_suffix e t)
    have ht1l := (isC_suffix e t).length_le
    rw [listV]
    cases a with
    | nil =>
      have hws : ws = [] := by
        cases w
        · exact hwf rfl
        · exact List.eq_nil_of_length_eq_zero (hwt rfl)
      subst hws
      have e1 := ev_vis id e he0 t ⟨m.bx.set id [.str t] ++ [f.cells, [.int .i64 0, .nils, .nils], [.int .i64 0, .nils, .nils]], m.rw⟩ (by simp [at_lt, hid])
      cases hc : (isC e t).1 with
      | true =>
        clear hrec
        simp [set_lt, hid, hc] at e1
        simp [round, Tryz.f96, a96, reg96, loop96, draw96, dok96, hid, hidk, at_lt, set_lt, app_at, app_set, app_at0, app_set0, leave_set, leave_setb, xA, lvW, lvR, e1]
      | false =>
      have e2 := hval (isC e t).2 ⟨m.bx.set id [.str (isC e t).2] ++ [f.cells, [.int .i64 0, .nils, .nils], [.int .i64 0, .nils, .nils]], m.rw⟩ ht1 (by simp [at_lt, hid])
      have hvs := hsuf (isC e t).2
      have hvc := hcost (isC e t).2
      simp [set_lt, hid, hc] at e1
      simp only [Bool.false_eq_true, if_false, List.length_nil, ne_eq, not_true_eq_false, false_and, if_true]
      cases hv : val (isC e t).2 with
      | mk o u =>
      rw [hv] at e2 hvs
      have hu := ht1.suffix hvs
      have hul := hvs.length_le
      simp only at hu hul
      cases o with
      | none =>
        clear hrec
        simp [set_lt, hid] at e2
        simp [round, Tryz.f96, a96, reg96, loop96, draw96, dok96, hid, hidk, at_lt, set_lt, app_at, app_set, app_at0, app_set0, leave_set, leave_setb, xA, lvW, lvR, e1, e2, bindV, afterP, maskTm]
        try simp [wrongV]
      | some x =>
      have hult := hvc x u ht1 hv
      simp at hal
      simp [set_lt, hid] at e2
      cases w with
      | false =>
        simp [round, Tryz.f96, a96, reg96, loop96, draw96, dok96, hid, hidk, at_lt, set_lt, app_at, app_set, app_at0, app_set0, leave_set, leave_setb, xA, lvW, lvR, e1, e2, bindV, endRound_SJ, endRound_SJ0]
        refine hrec ⟨n, [x], [], u⟩ _ _ ?_ ?_ ?_ ?_
        · simp only; omega
        · exact ⟨hu, by simp only; omega, by simp; omega, (fun h => by cases h), fun _ => rfl⟩
        · simp [xA, lvW, lvR, Val.cellsL, Val.cellsL_append]
        · simp
      | true =>
        have e3 := ev_vtake id 58 (by decide) u ⟨m.bx.set id [.str u] ++ [f.cells, [.int .i64 0, .nils, .nils], [.int .i64 0, .sl m.rw.length 3 0 1, .nils]], m.rw ++ [⟨28, x.cells⟩]⟩ (by simp [at_lt, hid])
        have hu2 : Sm (isC 58 u).2 := hu.suffix (isC_suffix 58 u)
        have hu2l := (isC_suffix 58 u).length_le
        cases h58 : (isC 58 u).1 with
        | false =>
          clear hrec
          simp [set_lt, hid, h58] at e3
          simp [round, Tryz.f96, a96, reg96, loop96, draw96, dok96, hid, hidk, at_lt, set_lt, app_at, app_set, app_at0, app_set0, leave_set, leave_setb, xA, lvW, lvR, e1, e2, e3, bindV, takeC, h58, afterP, maskTm]
          try simp [wrongV]
        | true =>
        have e4 := ev_vnumber id (isC 58 u).2 hu2 ⟨m.bx.set id [.str (isC 58 u).2] ++ [f.cells, [.int .i64 0, .nils, .nils], [.int .i64 0, .sl m.rw.length 3 0 1, .nils]], m.rw ++ [⟨28, x.cells⟩]⟩ (by simp [at_lt, hid])
        have hql := (pNum_suffix (isC 58 u).2).length_le
        have hqs := hu2.suffix (pNum_suffix (isC 58 u).2)
        simp [set_lt, hid, h58] at e3
        cases hp : pNum (isC 58 u).2 with
        | mk o2 q =>
        rw [hp] at e4 hql hqs
        simp only at hql hqs
        cases o2 with
        | none =>
          clear hrec
          simp [set_lt, hid] at e4
          simp [round, Tryz.f96, a96, reg96, loop96, draw96, dok96, hid, hidk, at_lt, set_lt, app_at, app_set, app_at0, app_set0, leave_set, leave_setb, xA, lvW, lvR, e1, e2, e3, e4, bindV, takeC, bindN, h58, hp, afterP, maskTm]
          try simp [wrongV]
        | some k =>
          simp [set_lt, hid] at e4
          simp [round, Tryz.f96, a96, reg96, loop96, draw96, dok96, hid, hidk, at_lt, set_lt, app_at, app_set, app_at0, app_set0, leave_set, leave_setb, xA, lvW, lvR, e1, e2, e3, e4, bindV, takeC, bindN, h58, hp, endRound_SJ, endRound_SJ0]
          refine hrec ⟨n, [x], [k], q⟩ _ _ ?_ ?_ ?_ ?_
          · simp only; omega
          · exact ⟨hqs, by simp only; omega, by simp; omega, fun _ => by simp, (fun h => by cases h)⟩
          · simp [xA, lvW, lvR, Val.cellsL, Val.cellsL_append, ints_append, ints]
          · simp
    | cons b r =>
      simp at hal
      have hsz : (r.length + 1 + 1) * 56 ≤ 70368744177664 ∧ r.length + 1 + 1 ≤ 70368744177664 ∧ (r.length + 1 + 1) * 8 ≤ 70368744177664 := by omega
      have e1 := ev_vis id e he0 t ⟨m.bx.set id [.str t] ++ [f.cells, [.int .i64 0, .nils, .nils], [.int .i64 0, xA m.rw.length (b :: r), lvW w m.rw.length (b :: r) ws]], m.rw ++ lvR w (b :: r) ws⟩ (by simp [at_lt, hid])
      cases hc : (isC e t).1 with
      | true =>
        clear hrec
        have hall : List.take ((r.length + 1) * 3) (Val.cellsL (b :: r)) = Val.cellsL (b :: r) := List.take_of_length_le (by simp)
        have hallw : List.take ws.length (ints ws) = ints ws := take_ints ws
        cases w with
        | false =>
          have hwe : ws = [] := hwf rfl
          subst hwe
          simp [set_lt, hid, hc, xA, lvW, lvR] at e1
          simp [round, Tryz.f96, a96, reg96, loop96, draw96, dok96, hid, hidk, at_lt, set_lt, app_at, app_set, app_at0, app_set0, leave_set, leave_setb, xA, lvW, lvR, e1, hall]
        | true =>
          have hwl : ws.length = r.length + 1 := by simpa using hwt rfl
          simp [set_lt, hid, hc, xA, lvW, lvR] at e1
          simp [round, Tryz.f96, a96, reg96, loop96, draw96, dok96, hid, hidk, at_lt, set_lt, app_at, app_set, app_at0, app_set0, leave_set, leave_setb, xA, lvW, lvR, e1, hall]
      | false =>
      have e0 := ev_vtake id 44 (by decide) (isC e t).2 ⟨m.bx.set id [.str (isC e t).2] ++ [f.cells, [.int .i64 0, .nils, .nils], [.int .i64 0, xA m.rw.length (b :: r), lvW w m.rw.length (b :: r) ws]], m.rw ++ lvR w (b :: r) ws⟩ (by simp [at_lt, hid])
      have ht2 : Sm (isC 44 (isC e t).2).2 := ht1.suffix (isC_suffix 44 _)
      have ht2l := (isC_suffix 44 (isC e t).2).length_le
      cases h44 : (isC 44 (isC e t).2).1 with
      | false =>
        clear hrec
        cases w with
        | false =>
          have hwe : ws = [] := hwf rfl
          subst hwe
          simp [set_lt, hid, hc, h44, xA, lvW, lvR] at e0 e1
          simp [round, Tryz.f96, a96, reg96, loop96, draw96, dok96, hid, hidk, at_lt, set_lt, app_at, app_set, app_at0, app_set0, leave_set, leave_setb, xA, lvW, lvR, e0, e1]
          try simp [wrongV]
        | true =>
          simp [set_lt, hid, hc, h44, xA, lvW, lvR] at e0 e1
          simp [round, Tryz.f96, a96, reg96, loop96, draw96, dok96, hid, hidk, at_lt, set_lt, app_at, app_set, app_at0, app_set0, leave_set, leave_setb, xA, lvW, lvR, e0, e1]
          try simp [wrongV]
      | true =>
      have e2 := hval (isC 44 (isC e t).2).2 ⟨m.bx.set id [.str (isC 44 (isC e t).2).2] ++ [f.cells, [.int .i64 0, .nils, .nils], [.int .i64 0, xA m.rw.length (b :: r), lvW w m.rw.length (b :: r) ws]], m.rw ++ lvR w (b :: r) ws⟩ ht2 (by simp [at_lt, hid])
      have hvs := hsuf (isC 44 (isC e t).2).2
      have hvc := hcost (isC 44 (isC e t).2).2
      simp only [Bool.false_eq_true, if_false, List.length_cons, Nat.succ_ne_zero, ne_eq, not_false_eq_true, true_and, reduceCtorEq]
      cases hv : val (isC 44 (isC e t).2).2 with
      | mk o u =>
      rw [hv] at e2 hvs
      have hu := ht2.suffix hvs
      have hul := hvs.length_le
      simp only at hu hul
      cases o with
      | none =>
        clear hrec
        cases w with
        | false =>
          have hwe : ws = [] := hwf rfl
          subst hwe
          simp [set_lt, hid, hc, h44, xA, lvW, lvR] at e0 e1 e2
          simp [round, Tryz.f96, a96, reg96, loop96, draw96, dok96, hid, hidk, at_lt, set_lt, app_at, app_set, app_at0, app_set0, leave_set, leave_setb, xA, lvW, lvR, e0, e1, e2, bindV, afterP, maskTm]
          try simp [wrongV]
        | true =>
          simp [set_lt, hid, hc, h44, xA, lvW, lvR] at e0 e1 e2
          simp [round, Tryz.f96, a96, reg96, loop96, draw96, dok96, hid, hidk, at_lt, set_lt, app_at, app_set, app_at0, app_set0, leave_set, leave_setb, xA, lvW, lvR, e0, e1, e2, bindV, afterP, maskTm]
          try simp [wrongV]
      | some x =>
      have hult := hvc x u ht2 hv
      cases w with
      | false =>
        have hwe : ws = [] := hwf rfl
        subst hwe
        simp [set_lt, hid, hc, h44, xA, lvW, lvR] at e0 e1 e2
        simp [round, Tryz.f96, a96, reg96, loop96, draw96, dok96, hid, hidk, at_lt, set_lt, app_at, app_set, app_at0, app_set0, leave_set, leave_setb, xA, lvW, lvR, e0, e1, e2, bindV, endRound_SJ, endRound_SJ0, hsz]
        refine hrec ⟨n, b :: r ++ [x], [], u⟩ _ _ ?_ ?_ ?_ ?_
        · simp only; omega
        · exact ⟨hu, by simp only; omega, by simp; omega, (fun h => by cases h), fun _ => rfl⟩
        · simp [xA, lvW, lvR, Val.cellsL, Val.cellsL_append]
        · simp
      | true =>
        simp [set_lt, hid, hc, h44, xA, lvW, lvR] at e0 e1 e2
        have hwl : ws.length = r.length + 1 := by simpa using hwt rfl
        have hszw : (ws.length + 1) * 8 ≤ 70368744177664 ∧ ws.length + 1 ≤ 70368744177664 := by omega
        have e3 := ev_vtake id 58 (by decide) u ⟨m.bx.set id [.str u] ++ [f.cells, [.int .i64 0, .nils, .nils], [.int .i64 0, .sl m.rw.length ((r.length + 1 + 1) * 3) 0 (r.length + 1 + 1), .sl (m.rw.length + 1) ws.length 0 ws.length]], m.rw ++ [⟨28, Val.cellsL (b :: r) ++ x.cells⟩, ⟨3, ints ws⟩]⟩ (by simp [at_lt, hid])
        have hu2 : Sm (isC 58 u).2 := hu.suffix (isC_suffix 58 u)
        have hu2l := (isC_suffix 58 u).length_le
        cases h58 : (isC 58 u).1 with
        | false =>
          clear hrec
          simp [set_lt, hid, h58] at e3
          simp [round, Tryz.f96, a96, reg96, loop96, draw96, dok96, hid, hidk, at_lt, set_lt, app_at, app_set, app_at0, app_set0, leave_set, leave_setb, xA, lvW, lvR, e0, e1, e2, e3, bindV, takeC, h58, afterP, maskTm, hsz]
          try simp [wrongV]
        | true =>
        have e4 := ev_vnumber id (isC 58 u).2 hu2 ⟨m.bx.set id [.str (isC 58 u).2] ++ [f.cells, [.int .i64 0, .nils, .nils], [.int .i64 0, .sl m.rw.length ((r.length + 1 + 1) * 3) 0 (r.length + 1 + 1), .sl (m.rw.length + 1) ws.length 0 ws.length]], m.rw ++ [⟨28, Val.cellsL (b :: r) ++ x.cells⟩, ⟨3, ints ws⟩]⟩ (by simp [at_lt, hid])
        have hql := (pNum_suffix (isC 58 u).2).length_le
        have hqs := hu2.suffix (pNum_suffix (isC 58 u).2)
        simp [set_lt, hid, h58] at e3
        cases hp : pNum (isC 58 u).2 with
        | mk o2 q =>
        rw [hp] at e4 hql hqs
        simp only at hql hqs
        cases o2 with
        | none =>
          clear hrec
          simp [set_lt, hid] at e4
          simp [round, Tryz.f96, a96, reg96, loop96, draw96, dok96, hid, hidk, at_lt, set_lt, app_at, app_set, app_at0, app_set0, leave_set, leave_setb, xA, lvW, lvR, e0, e1, e2, e3, e4, bindV, takeC, bindN, h58, hp, afterP, maskTm, hsz]
          try simp [wrongV]
        | some k =>
          simp [set_lt, hid] at e4
          simp [round, Tryz.f96, a96, reg96, loop96, draw96, dok96, hid, hidk, at_lt, set_lt, app_at, app_set, app_at0, app_set0, leave_set, leave_setb, xA, lvW, lvR, e0, e1, e2, e3, e4, bindV, takeC, bindN, h58, hp, endRound_SJ, endRound_SJ0, hsz, hszw, flat_mem_ints]
          refine hrec ⟨n, b :: r ++ [x], ws ++ [k], q⟩ _ _ ?_ ?_ ?_ ?_
          · simp only; omega
          · exact ⟨hqs, by simp only; omega, by simp; omega, fun _ => by simp [hwl], (fun h => by cases h)⟩
          · simp [xA, lvW, lvR, Val.cellsL, Val.cellsL_append, ints_append, ints, hwl]
          · simp
end AE
end Go.Proofs.YthoomlenmgdebaaGreatDoor

/- The parser of values: a value; evaluated. -/
set_option linter.unusedVariables false
set_option linter.unusedSimpArgs false
namespace Go.Proofs.YthoomlenmgdebaaGreatDoor
namespace AE
open Go

section
variable {id N : Nat}
theorem pV_lt (N : Nat) (f : Fun) (s : List UInt8) (v : Val) (t : List UInt8) (hs : Sm s) (h : pV N f s = (some v, t)) : t.length < s.length := by
  have := (pV_cost N f s hs v t h).1
  have := v.nodes_pos
  omega
set_option maxHeartbeats 4000000 in
theorem value_leaf {f : Fun} (hk : f.kind = 0 ∨ f.kind = 1) : ValOk id f (pV (N + 1) f) := by
  intro s m hs hbx
  have hid : id < m.bx.length := (List.getElem?_eq_some_iff.1 hbx).1
  have hg : m.bx[id] = [.str s] := (List.getElem?_eq_some_iff.1 hbx).2
  have hidk : ∀ k, id < m.bx.length + k := fun k => by omega
  rw [pV, if_pos hk]
  rw [evCall_body C0 (C0_ext _ (by decide)) (by rw [C0_P]; exact Tryz.func74) rfl (by rw [C0_ann]; rfl) (by decide) (by simp [Tryz.f74])]
  have e1 := ev_vnumber id s hs ⟨m.bx ++ [f.cells, [.int .i64 0, .nils, .nils]], m.rw⟩ (by simp [at_lt, hid, hg])
  cases hp : pNum s with
  | mk o u =>
  rw [hp] at e1
  cases o with
  | none =>
    rcases hk with hk | hk
    · simp [set_lt, hid, hk] at e1
      simp [Tryz.f74, a74, reg74, draw74, dok74, hid, hidk, at_lt, set_lt, leave_setb, hk, e1, bindN]
      try simp [wrongV]
    · simp [set_lt, hid, hk] at e1
      simp [Tryz.f74, a74, reg74, draw74, dok74, hid, hidk, at_lt, set_lt, leave_setb, hk, e1, bindN]
      try simp [wrongV]
  | some k =>
    rcases hk with hk | hk
    · simp [set_lt, hid, hk] at e1
      simp [Tryz.f74, a74, reg74, draw74, dok74, hid, hidk, at_lt, set_lt, leave_setb, hk, e1, bindN]
    · simp [set_lt, hid, hk] at e1
      simp [Tryz.f74, a74, reg74, draw74, dok74, hid, hidk, at_lt, set_lt, leave_setb, hk, e1, bindN]
set_option maxHeartbeats 8000000 in
theorem value_prod {f : Fun} (hf : shapedF f = true) (hk : f.kind = 2) (hl : f.args.length = 2) (ih : ∀ g, g ∈ f.args → ValOk id g (pV N g)) : ValOk id f (pV (N + 1) f) := by
  intro s m hs hbx
  have hid : id < m.bx.length := (List.getElem?_eq_some_iff.1 hbx).1
  have hg : m.bx[id] = [.str s] := (List.getElem?_eq_some_iff.1 hbx).2
  have hidk : ∀ k, id < m.bx.length + k := fun k => by omega
  have f0 : 0 < f.args.length := by omega
  have f1 : 1 < f.args.length := by omega
  have b1 := Fun.at_cellsL f.args 0 f0
  have b2 := Fun.at_cellsL f.args 1 f1
  simp at b1 b2
  have g0 : f.args.getD 0 fun0 = f.args[0] := by rw [List.getD_eq_getElem?_getD, List.getElem?_eq_getElem f0]; rfl
  have g1 : f.args.getD 1 fun0 = f.args[1] := by rw [List.getD_eq_getElem?_getD, List.getElem?_eq_getElem f1]; rfl
  rw [pV, if_neg (by omega), if_pos hk, g0, g1]
  rw [evCall_body C0 (C0_ext _ (by decide)) (by rw [C0_P]; exact Tryz.func74) rfl (by rw [C0_ann]; rfl) (by decide) (by simp [Tryz.f74])]
  have e1 := ev_vtake id 40 (by decide) s ⟨m.bx ++ [f.cells, [.int .i64 0, .nils, .nils]], m.rw⟩ (by simp [at_lt, hid, hg])
  have s1 := hs.suffix (isC_suffix 40 s)
  cases h1 : (isC 40 s).1 with
  | false =>
    simp [set_lt, hid, hk, hl, h1] at e1
    simp [Tryz.f74, a74, reg74, draw74, dok74, hid, hidk, at_lt, set_lt, leave_setb, hk, hl, e1, takeC, h1]
    try simp [wrongV]
  | true =>
  have e2 := ih f.args[0] (List.getElem_mem f0) (isC 40 s).2 ⟨m.bx.set id [.str (isC 40 s).2] ++ [f.cells, [.int .i64 0, .nils, .nils]], m.rw⟩ s1 (by simp [at_lt, hid])
  have p2 := pV_suffix N f.args[0] (isC 40 s).2
  simp [set_lt, hid, hk, hl, h1] at e1
  cases h2 : pV N f.args[0] (isC 40 s).2 with
  | mk o u =>
  rw [h2] at e2 p2
  have s2 := s1.suffix p2
  cases o with
  | none =>
    simp [set_lt, hid, hk, hl] at e2
    simp [Tryz.f74, a74, reg74, draw74, dok74, hid, hidk, at_lt, set_lt, leave_setb, hk, hl, b1, b2, e1, e2, takeC, h1, h2, bindV]
    try simp [wrongV]
  | some x =>
  have e3 := ev_vtake id 44 (by decide) u ⟨m.bx.set id [.str u] ++ [f.cells, [.int .i64 0, .nils, .nils], x.cells], m.rw⟩ (by simp [at_lt, hid])
  have s3 := s2.suffix (isC_suffix 44 u)
  simp [set_lt, hid, hk, hl] at e2
  cases h3 : (isC 44 u).1 with
  | false =>
    simp [set_lt, hid, hk, hl, h3] at e3
    simp [Tryz.f74, a74, reg74, draw74, dok74, hid, hidk, at_lt, set_lt, leave_setb, hk, hl, b1, b2, e1, e2, e3, takeC, h1, h2, h3, bindV]
    try simp [wrongV]
  | true =>
  have e4 := ih f.args[1] (List.getElem_mem f1) (isC 44 u).2 ⟨m.bx.set id [.str (isC 44 u).2] ++ [f.cells, [.int .i64 0, .nils, .nils], x.cells], m.rw⟩ s3 (by simp [at_lt, hid])
  have p4 := pV_suffix N f.args[1] (isC 44 u).2
  simp [set_lt, hid, hk, hl, h3] at e3
  cases h4 : pV N f.args[1] (isC 44 u).2 with
  | mk o q =>
  rw [h4] at e4 p4
  have s4 := s3.suffix p4
  cases o with
  | none =>
    simp [set_lt, hid, hk, hl] at e4
    simp [Tryz.f74, a74, reg74, draw74, dok74, hid, hidk, at_lt, set_lt, leave_setb, hk, hl, b1, b2, e1, e2, e3, e4, takeC, h1, h2, h3, h4, bindV]
    try simp [wrongV]
  | some y =>
  have e5 := ev_vtake id 41 (by decide) q ⟨m.bx.set id [.str q] ++ [f.cells, [.int .i64 0, .nils, .nils], x.cells, y.cells], m.rw⟩ (by simp [at_lt, hid])
  simp [set_lt, hid, hk, hl] at e4
  cases h5 : (isC 41 q).1 with
  | false =>
    simp [set_lt, hid, hk, hl, h5] at e5
    simp [Tryz.f74, a74, reg74, draw74, dok74, hid, hidk, at_lt, set_lt, leave_setb, hk, hl, b1, b2, e1, e2, e3, e4, e5, takeC, h1, h2, h3, h4, h5, bindV]
    try simp [wrongV]
  | true =>
    simp [set_lt, hid, hk, hl, h5] at e5
    simp [Tryz.f74, a74, reg74, draw74, dok74, hid, hidk, at_lt, set_lt, leave_setb, hk, hl, b1, b2, e1, e2, e3, e4, e5, takeC, h1, h2, h3, h4, h5, bindV, Val.cellsL]
set_option maxHeartbeats 8000000 in
theorem value_sum {f : Fun} (hf : shapedF f = true) (hk : f.kind = 3) (hl : f.args.length = 2) (ih : ∀ g, g ∈ f.args → ValOk id g (pV N g)) : ValOk id f (pV (N + 1) f) := by
  intro s m hs hbx
  have hid : id < m.bx.length := (List.getElem?_eq_some_iff.1 hbx).1
  have hg : m.bx[id] = [.str s] := (List.getElem?_eq_some_iff.1 hbx).2
  have hidk : ∀ k, id < m.bx.length + k := fun k => by omega
  have f0 : 0 < f.args.length := by omega
  have f1 : 1 < f.args.length := by omega
  have b1 := Fun.at_cellsL f.args 0 f0
  have b2 := Fun.at_cellsL f.args 1 f1
  simp at b1 b2
  have g0 : f.args.getD 0 fun0 = f.args[0] := by rw [List.getD_eq_getElem?_getD, List.getElem?_eq_getElem f0]; rfl
  have g1 : f.args.getD 1 fun0 = f.args[1] := by rw [List.getD_eq_getElem?_getD, List.getElem?_eq_getElem f1]; rfl
  rw [pV, if_neg (by omega), if_neg (by omega), if_pos hk, g0, g1]
  rw [evCall_body C0 (C0_ext _ (by decide)) (by rw [C0_P]; exact Tryz.func74) rfl (by rw [C0_ann]; rfl) (by decide) (by simp [Tryz.f74])]
  have e1 := ev_vis id 108 (by decide) s ⟨m.bx ++ [f.cells, [.int .i64 0, .nils, .nils]], m.rw⟩ (by simp [at_lt, hid, hg])
  have s1 := hs.suffix (isC_suffix 108 s)
  cases h1 : (isC 108 s).1 with
  | true =>
    have e2 := ih f.args[0] (List.getElem_mem f0) (isC 108 s).2 ⟨m.bx.set id [.str (isC 108 s).2] ++ [f.cells, [.int .i64 0, .nils, .nils]], m.rw⟩ s1 (by simp [at_lt, hid])
    simp [set_lt, hid, hk, hl, h1] at e1
    cases h2 : pV N f.args[0] (isC 108 s).2 with
    | mk o u =>
    rw [h2] at e2
    cases o with
    | none =>
      simp [set_lt, hid, hk, hl] at e2
      simp [Tryz.f74, a74, reg74, draw74, dok74, hid, hidk, at_lt, set_lt, leave_setb, hk, hl, b1, b2, e1, e2, h1, h2, bindV]
      try simp [wrongV]
    | some x =>
      simp [set_lt, hid, hk, hl] at e2
      simp [Tryz.f74, a74, reg74, draw74, dok74, hid, hidk, at_lt, set_lt, leave_setb, hk, hl, b1, b2, e1, e2, h1, h2, bindV, Val.cellsL]
  | false =>
    have e3 := ev_vtake id 114 (by decide) (isC 108 s).2 ⟨m.bx.set id [.str (isC 108 s).2] ++ [f.cells, [.int .i64 0, .nils, .nils]], m.rw⟩ (by simp [at_lt, hid])
    have s3 := s1.suffix (isC_suffix 114 (isC 108 s).2)
    simp [set_lt, hid, hk, hl, h1] at e1
    cases h3 : (isC 114 (isC 108 s).2).1 with
    | false =>
      simp [set_lt, hid, hk, hl, h3] at e3
      simp [Tryz.f74, a74, reg74, draw74, dok74, hid, hidk, at_lt, set_lt, leave_setb, hk, hl, b1, b2, e1, e3, h1, takeC, h3, bindV]
      try simp [wrongV]
    | true =>
    have e2 := ih f.args[1] (List.getElem_mem f1) (isC 114 (isC 108 s).2).2 ⟨m.bx.set id [.str (isC 114 (isC 108 s).2).2] ++ [f.cells, [.int .i64 0, .nils, .nils]], m.rw⟩ s3 (by simp [at_lt, hid])
    simp [set_lt, hid, hk, hl, h3] at e3
    cases h2 : pV N f.args[1] (isC 114 (isC 108 s).2).2 with
    | mk o u =>
    rw [h2] at e2
    cases o with
    | none =>
      simp [set_lt, hid, hk, hl] at e2
      simp [Tryz.f74, a74, reg74, draw74, dok74, hid, hidk, at_lt, set_lt, leave_setb, hk, hl, b1, b2, e1, e2, e3, h1, h2, h3, takeC, bindV]
      try simp [wrongV]
    | some x =>
      simp [set_lt, hid, hk, hl] at e2
      simp [Tryz.f74, a74, reg74, draw74, dok74, hid, hidk, at_lt, set_lt, leave_setb, hk, hl, b1, b2, e1, e2, e3, h1, h2, h3, takeC, bindV, Val.cellsL]
set_option maxHeartbeats 8000000 in
theorem value_exp {f : Fun} (hf : shapedF f = true) (hk : f.kind = 4) (hl : f.args.length = 1) (ih : ∀ g, g ∈ f.args → ValOk id g (pV N g)) : ValOk id f (pV (N + 1) f) := by
  intro s m hs hbx
  have hid : id < m.bx.length := (List.getElem?_eq_some_iff.1 hbx).1
  have hg : m.bx[id] = [.str s] := (List.getElem?_eq_some_iff.1 hbx).2
  have hidk : ∀ k, id < m.bx.length + k := fun k => by omega
  have f0 : 0 < f.args.length := by omega
  have b1 := Fun.at_cellsL f.args 0 f0
  simp at b1
  have g0 : f.args.getD 0 fun0 = f.args[0] := by rw [List.getD_eq_getElem?_getD, List.getElem?_eq_getElem f0]; rfl
  rw [pV, if_neg (by omega), if_neg (by omega), if_neg (by omega), if_pos hk, g0]
  rw [evCall_body C0 (C0_ext _ (by decide)) (by rw [C0_P]; exact Tryz.func74) rfl (by rw [C0_ann]; rfl) (by decide) (by simp [Tryz.f74])]
  have e1 := ev_vtake id 91 (by decide) s ⟨m.bx ++ [f.cells, [.int .i64 0, .nils, .nils]], m.rw⟩ (by simp [at_lt, hid, hg])
  have s1 := hs.suffix (isC_suffix 91 s)
  cases h1 : (isC 91 s).1 with
  | false =>
    simp [set_lt, hid, hk, hl, h1] at e1
    simp [Tryz.f74, a74, reg74, draw74, dok74, hid, hidk, at_lt, set_lt, leave_setb, hk, hl, e1, takeC, h1]
    try simp [wrongV]
  | true =>
  have e2 := ev_vlist id f.args[0] _ (pV_suffix N f.args[0]) (ih _ (List.getElem_mem f0)) (pV_lt N f.args[0]) 93 (by decide) false (isC 91 s).2 s1 ⟨m.bx.set id [.str (isC 91 s).2] ++ [f.cells, [.int .i64 0, .nils, .nils]], m.rw⟩ (by simp [at_lt, hid])
  simp [set_lt, hid, hk, hl, h1] at e1
  cases h2 : listV (pV N f.args[0]) 93 false ((isC 91 s).2.length + 1) [] [] (isC 91 s).2 with
  | mk o u =>
  rw [h2] at e2
  cases o with
  | none =>
    simp [set_lt, hid, hk, hl] at e2
    simp [Tryz.f74, a74, reg74, draw74, dok74, hid, hidk, at_lt, set_lt, leave_setb, hk, hl, b1, e1, e2, takeC, h1, h2, bindV]
    try simp [wrongV]
  | some x =>
  simp [set_lt, hid, hk, hl] at e2
  by_cases h3 : (x.args.length : Int) = f.num
  · simp [Tryz.f74, a74, reg74, draw74, dok74, hid, hidk, at_lt, set_lt, leave_setb, hk, hl, b1, e1, e2, takeC, h1, h2, h3, bindV]
  · simp [Tryz.f74, a74, reg74, draw74, dok74, hid, hidk, at_lt, set_lt, leave_setb, hk, hl, b1, e1, e2, takeC, h1, h2, h3, bindV]
    try simp [wrongV]
set_option maxHeartbeats 8000000 in
theorem value_set {f : Fun} (hf : shapedF f = true) (hk : 5 ≤ f.kind) (hl : f.args.length = 1) (ih : ∀ g, g ∈ f.args → ValOk id g (pV N g)) : ValOk id f (pV (N + 1) f) := by
  intro s m hs hbx
  have hid : id < m.bx.length := (List.getElem?_eq_some_iff.1 hbx).1
  have hg : m.bx[id] = [.str s] := (List.getElem?_eq_some_iff.1 hbx).2
  have hidk : ∀ k, id < m.bx.length + k := fun k => by omega
  have f0 : 0 < f.args.length := by omega
  have b1 := Fun.at_cellsL f.args 0 f0
  simp at b1
  have g0 : f.args.getD 0 fun0 = f.args[0] := by rw [List.getD_eq_getElem?_getD, List.getElem?_eq_getElem f0]; rfl
  have n4 : ¬ f.kind = 0 ∧ ¬ f.kind = 1 ∧ ¬ f.kind = 2 ∧ ¬ f.kind = 3 ∧ ¬ f.kind = 4 := by omega
  rw [pV, if_neg (by omega), if_neg (by omega), if_neg (by omega), if_neg (by omega), g0]
  rw [evCall_body C0 (C0_ext _ (by decide)) (by rw [C0_P]; exact Tryz.func74) rfl (by rw [C0_ann]; rfl) (by decide) (by simp [Tryz.f74])]
  have e1 := ev_vtake id 123 (by decide) s ⟨m.bx ++ [f.cells, [.int .i64 0, .nils, .nils]], m.rw⟩ (by simp [at_lt, hid, hg])
  have s1 := hs.suffix (isC_suffix 123 s)
  cases h1 : (isC 123 s).1 with
  | false =>
    simp [set_lt, hid, hl, h1] at e1
    simp [Tryz.f74, a74, reg74, draw74, dok74, hid, hidk, at_lt, set_lt, leave_setb, n4, hl, e1, takeC, h1]
    try simp [wrongV]
  | true =>
  have e2 := ev_vlist id f.args[0] _ (pV_suffix N f.args[0]) (ih _ (List.getElem_mem f0)) (pV_lt N f.args[0]) 125 (by decide) (decide (6 ≤ f.kind)) (isC 123 s).2 s1 ⟨m.bx.set id [.str (isC 123 s).2] ++ [f.cells, [.int .i64 0, .nils, .nils]], m.rw⟩ (by simp [at_lt, hid])
  simp [set_lt, hid, hl, h1] at e1
  cases h2 : listV (pV N f.args[0]) 125 (decide (6 ≤ f.kind)) ((isC 123 s).2.length + 1) [] [] (isC 123 s).2 with
  | mk o u =>
  rw [h2] at e2
  cases o with
  | none =>
    simp [set_lt, hid, hl] at e2
    simp [Tryz.f74, a74, reg74, draw74, dok74, hid, hidk, at_lt, set_lt, leave_setb, n4, hl, b1, e1, e2, takeC, h1, h2, afterP, maskTm]
    try simp [wrongV]
  | some x =>
    simp [set_lt, hid, hl] at e2
    simp [Tryz.f74, a74, reg74, draw74, dok74, hid, hidk, at_lt, set_lt, leave_setb, n4, hl, b1, e1, e2, takeC, h1, h2]
end
theorem ev_vvalue (id : Nat) : ∀ (N : Nat) (f : Fun), f.nodes ≤ N → shapedF f = true → ValOk id f (pV N f) := by
  intro N
  induction N with
  | zero => intro f hN; have := f.nodes_pos; omega
  | succ N ih =>
  intro f hN hf
  have H : ∀ g, g ∈ f.args → ValOk id g (pV N g) := fun g hg => by
    obtain ⟨i, hi, rfl⟩ := List.getElem_of_mem hg
    exact ih _ (by have := Fun.nodes_arg hg; omega) (shaped_arg hf hi)
  rcases shaped_kind hf with ⟨h, hl⟩ | ⟨h, hl⟩ | ⟨h, hl⟩ | ⟨h, hl⟩ | ⟨h, hl⟩ | ⟨h, hl⟩ | ⟨h, hl⟩ | ⟨h, hl⟩
  · exact value_leaf (.inl h)
  · exact value_leaf (.inr h)
  · exact value_prod hf h hl H
  · exact value_sum hf h hl H
  · exact value_exp hf h hl H
  · exact value_set hf (by omega) hl H
  · exact value_set hf (by omega) hl H
  · exact value_set hf (by omega) hl H
end AE
end Go.Proofs.YthoomlenmgdebaaGreatDoor

/- Read and Parse of values; evaluated. -/
set_option linter.unusedVariables false
set_option linter.unusedSimpArgs false
namespace Go.Proofs.YthoomlenmgdebaaGreatDoor
namespace AE
open Go

noncomputable def restR : Code := match Tryz.f73.body with | some (.seq _ r) => r | _ => .skip
theorem rbR : recBody C0.P 73 = some (17, 5, 2, restR) := by
  rw [C0_P]
  unfold recBody
  rw [Tryz.func73]
  rfl
theorem adR_ret (x y : A) (s : St) : afterDefer C0 73 [x, y] (some (.ret, s)) = deferred C0 73 (17, 5, 2, restR) [x, y] .nili s := afterDefer_ret C0 _ _ rbR (by simp) s
theorem adR_pan (x y a : A) (s : St) : afterDefer C0 73 [x, y] (some (.pan a, s)) = deferred C0 73 (17, 5, 2, restR) [x, y] a s := afterDefer_pan C0 _ _ rbR (by simp) a s
/-- The value of a string, as it is written. -/
def readV (f : Fun) (s : List UInt8) : Val × Bool := match pV f.nodes f s with
  | (none, _) => (zeroV, false)
  | (some v, t) => (v, decide (dropC 32 t = []))
set_option maxHeartbeats 4000000 in
theorem ev_Read (f : Fun) (hf : shapedF f = true) (s : List UInt8) (hs : Sm s) (m : Mem) :
    evCall C0 44 [.agg f.cells, .str s] m = some (.ret (.tup [.agg (readV f s).1.cells, .bool (readV f s).2]), m) := by
  rw [evCall_rec C0 (C0_ext _ (by decide)) (by rw [C0_P]; exact Tryz.func44) rfl (by rw [C0_ann]; rfl) (by decide) (by simp [Tryz.f44])]
  unfold readV
  rw [evRec_seq _ _ _ _ _ _ rfl]
  simp [Tryz.f44, a44, reg44, draw44, dok44]
  rw [evRec_defer _ _ _ _ _ _ (d := (7, 73, [.tmp 4, .tmp 5])) rfl (by decide)]
  have e1 := ev_vvalue (m.bx.length + 3) f.nodes f (Nat.le_refl _) hf s ⟨m.bx ++ [f.cells, [.int .i64 0, .nils, .nils], [.bool false], [.str s]], m.rw⟩ hs (by simp)
  cases hp : pV f.nodes f s with
  | mk o t =>
  rw [hp] at e1
  cases o with
  | none =>
    simp at e1
    simp [Tryz.f44, a44, reg44, draw44, dok44, Tryz.f73, a73, reg73, e1, adR_pan, deferred, restR, zeroV, wrongV]
  | some v =>
  simp at e1
  have e2 := ev_vnext (m.bx.length + 3) t ⟨m.bx ++ [f.cells, v.cells, [.bool false], [.str t]], m.rw⟩ (by simp)
  simp at e2
  cases hd : dropC 32 t with
  | nil =>
    simp [hd] at e2
    simp [Tryz.f44, a44, reg44, draw44, dok44, Tryz.f73, a73, reg73, e1, e2, adR_ret, deferred, restR, hd]
  | cons b r =>
    simp [hd] at e2
    have : ¬ (b :: r : List UInt8) = [] := by simp
    by_cases hb : b.toNat = 0
    · have hb' := eq_true hb
      simp [Tryz.f44, a44, reg44, draw44, dok44, Tryz.f73, a73, reg73, e1, e2, adR_ret, deferred, restR, hb, hd]
    · simp [Tryz.f44, a44, reg44, draw44, dok44, Tryz.f73, a73, reg73, e1, e2, adR_ret, deferred, restR, hb, hd]
/-- The normal form of the value of a string, or the error. -/
def pParse (f : Fun) (n : Int) (s : List UInt8) : Val × Int := if errF f n = 0 then (if 40000 < s.length then (zeroV, 2) else if (readV f s).2 then rNorm f n (readV f s).1 else (zeroV, 11)) else (zeroV, errF f n)
theorem readV_cost {f : Fun} {s : List UInt8} (hs : Sm s) : (readV f s).1.nodes ≤ s.length + 1 ∧ slimV (readV f s).1 := by
  unfold readV
  cases hp : pV f.nodes f s with
  | mk o t =>
  cases o with
  | none => simp only; rw [Val.nodes_eq, slimV_eq]; simp [zeroV, Val.nodesL, slimL]
  | some v =>
    have := pV_cost _ _ _ hs _ _ hp
    exact ⟨by simp only; omega, this.2⟩
theorem ev_VParse (f : Fun) (n : Int) (hbf : f.nodes ≤ 1000000000) (s : List UInt8) (hs : Sm s) (m : Mem) :
    evCall C0 17 [.agg f.cells, .int .i64 n, .str s] m = some (.ret (.tup [.agg (pParse f n s).1.cells, .int .i64 (pParse f n s).2]), m) := by
  rw [evCall_body C0 (C0_ext _ (by decide)) (by rw [C0_P]; exact Tryz.func17) rfl (by rw [C0_ann]; rfl) (by decide) (by simp [Tryz.f17])]
  have he := ev_fine f n hbf
  simp at he
  unfold pParse
  by_cases h0 : errF f n = 0
  case neg => simp [Tryz.f17, a17, reg17, he, h0, zeroV]
  have hz := errF_zero h0
  simp [h0] at he
  by_cases hl : 40000 < s.length
  · simp [Tryz.f17, a17, reg17, he, h0, hl, show (40000 : Int) < s.length by omega, zeroV]
  have h1 := ev_Read f hz.1 s hs
  have hc := readV_cost (f := f) hs
  unfold Sm at hs
  have h2 := ev_vnormal f n (readV f s).1 hz.1 (by omega) hc.2
  simp at h1 h2
  cases hr : (readV f s).2 with
  | false =>
    simp [hr] at h1
    simp [Tryz.f17, a17, reg17, he, h0, hl, show ¬ (40000 : Int) < s.length by omega, h1, zeroV]
  | true =>
    simp [hr] at h1
    simp [Tryz.f17, a17, reg17, he, h0, hl, show ¬ (40000 : Int) < s.length by omega, h1, h2]
end AE
end Go.Proofs.YthoomlenmgdebaaGreatDoor

/- Strings of values: what they are; the program's; evaluated. -/
set_option linter.unusedVariables false
set_option linter.unusedSimpArgs false
namespace Go.Proofs.YthoomlenmgdebaaGreatDoor
namespace AE
open Go

/-- Strings with commas between them. -/
def joinC : List (List UInt8) → List UInt8
  | [] => []
  | [t] => t
  | t :: u :: r => t ++ ([44, 32] ++ joinC (u :: r))
/-- Each with its weight. -/
def wtx : List (List UInt8) → List Int → List (List UInt8)
  | t :: r, w :: q => (t ++ ([32, 58, 32] ++ Lib.itoa w)) :: wtx r q
  | l, _ => l
def elemsT (kind : Int) (ts : List (List UInt8)) (ws : List Int) : List (List UInt8) := if 6 ≤ kind then wtx ts ws else ts
def aroundV (kind k : Int) (ts : List (List UInt8)) (ws : List Int) : List UInt8 :=
  if kind = 2 then 40 :: (joinC ts ++ [41]) else if kind = 3 then (if k = 0 then [108, 32] else [114, 32]) ++ ts.headD [] else if kind = 4 then 91 :: (joinC ts ++ [93]) else 123 :: (joinC (elemsT kind ts ws) ++ [125])
mutual
/-- The string of a value. -/
def textV : Val → Fun → List UInt8
  | .mk k l w, f => if f.kind = 0 ∨ f.kind = 1 then Lib.itoa k else aroundV f.kind k (textL l (argF f k) 0) w
def textL : List Val → (Nat → Fun) → Nat → List (List UInt8)
  | [], _, _ => []
  | v :: r, g, i => textV v (g i) :: textL r g (i + 1)
end
theorem textV_eq (v : Val) (f : Fun) : textV v f = if f.kind = 0 ∨ f.kind = 1 then Lib.itoa v.num else aroundV f.kind v.num (textL v.args (argF f v.num) 0) v.ws := by cases v; rw [textV]; rfl
theorem textL_length : ∀ (l : List Val) (g : Nat → Fun) (i : Nat), (textL l g i).length = l.length
  | [], g, i => by rw [textL]; rfl
  | v :: r, g, i => by rw [textL, List.length_cons, List.length_cons, textL_length r g (i + 1)]
theorem textL_at : ∀ (l : List Val) (g : Nat → Fun) (i j : Nat) (h : j < l.length), (textL l g i)[j]'(by rw [textL_length]; exact h) = textV l[j] (g (i + j))
  | v :: r, g, i, 0, h => by simp only [textL]; rfl
  | v :: r, g, i, j + 1, h => by
    have := textL_at r g (i + 1) j (by simpa using h)
    simp only [textL, List.getElem_cons_succ]
    rw [this]
    congr 2
    omega
theorem joinC_snoc : ∀ (l : List (List UInt8)) (t : List UInt8), l ≠ [] → joinC (l ++ [t]) = joinC l ++ ([44, 32] ++ t)
  | [a], t, _ => rfl
  | a :: b :: r, t, _ => by
    have := joinC_snoc (b :: r) t (by simp)
    simp only [List.cons_append, joinC] at this ⊢
    rw [this]
    simp
theorem wtx_length : ∀ (ts : List (List UInt8)) (ws : List Int), (wtx ts ws).length = ts.length
  | [], ws => by rw [wtx]; intro t r w q h; cases h
  | t :: r, [] => by rw [wtx]; intro t r w q _ h; cases h
  | t :: r, w :: q => by rw [wtx, List.length_cons, List.length_cons, wtx_length r q]
theorem wtx_at : ∀ (ts : List (List UInt8)) (ws : List Int) (i : Nat) (h : i < ts.length) (h' : i < ws.length), (wtx ts ws)[i]'(by rw [wtx_length]; exact h) = ts[i] ++ ([32, 58, 32] ++ Lib.itoa ws[i])
  | t :: r, w :: q, 0, _, _ => by simp only [wtx]; rfl
  | t :: r, w :: q, i + 1, h, h' => by
    have := wtx_at r q i (by simpa using h) (by simpa using h')
    simp only [wtx, List.getElem_cons_succ]
    exact this
theorem dec_len : ∀ (k u : Nat), u < 10 ^ (k + 1) → (Lib.decDigits u).length ≤ k + 1
  | 0, u, h => by rw [Lib.decDigits, dif_pos (by simpa using h)]; simp
  | k + 1, u, h => by
    rw [Lib.decDigits]
    split
    · simp
    · rw [List.length_append]
      have := dec_len k (u / 10) (by rw [Nat.pow_succ] at h; omega)
      simp
      omega
theorem itoa_len {n : Int} (h0 : 0 ≤ n) (h1 : n < 10000000) : (Lib.itoa n).length ≤ 7 := by
  unfold Lib.itoa
  rw [if_neg (by omega)]
  exact dec_len 6 n.toNat (by omega)
def sumL (l : List (List UInt8)) : Nat := (l.map List.length).sum
theorem joinC_len : ∀ l : List (List UInt8), (joinC l).length ≤ sumL l + 2 * l.length
  | [] => by simp [joinC]
  | [t] => by simp [joinC, sumL]
  | t :: u :: r => by
    have := joinC_len (u :: r)
    simp only [joinC, sumL, List.length_append, List.map_cons, List.sum_cons, List.length_cons, List.length_nil] at this ⊢
    omega
theorem mem_sumL {l : List (List UInt8)} {t : List UInt8} (h : t ∈ l) : t.length ≤ sumL l := by
  induction l with
  | nil => cases h
  | cons a r ih =>
    unfold sumL at *
    simp only [List.map_cons, List.sum_cons]
    rcases List.mem_cons.1 h with rfl | h
    · omega
    · have := ih h; omega
theorem joinC_take (l : List (List UInt8)) (i : Nat) : (joinC (l.take i)).length ≤ sumL l + 2 * l.length := by
  have h1 := joinC_len (l.take i)
  have h2 : sumL (l.take i) ≤ sumL l := by
    unfold sumL
    have h3 : (l.map List.length).sum = ((l.take i).map List.length).sum + ((l.drop i).map List.length).sum := by
      rw [← List.sum_append, ← List.map_append, List.take_append_drop]
    omega
  have h4 : (l.take i).length ≤ l.length := List.length_take_le' i l
  omega
theorem wtx_sum : ∀ (ts : List (List UInt8)) (ws : List Int), (∀ w, w ∈ ws → 0 ≤ w ∧ w < 10000000) → sumL (wtx ts ws) ≤ sumL ts + 10 * ts.length
  | [], ws, _ => by rw [wtx]; · simp [sumL]
                    · intro t r w q h; cases h
  | t :: r, [], _ => by rw [wtx]; · omega
                        · intro t r w q _ h; cases h
  | t :: r, w :: q, h => by
    have := wtx_sum r q fun x hx => h x (List.mem_cons_of_mem _ hx)
    have hw := h w List.mem_cons_self
    have := itoa_len hw.1 hw.2
    rw [wtx]
    unfold sumL at *
    simp only [List.map_cons, List.sum_cons, List.length_append, List.length_cons, List.length_nil] at *
    omega
theorem int_mem_sum : ∀ {o : List Int} {q : Int}, (∀ p, p ∈ o → 1 ≤ p) → q ∈ o → q ≤ o.sum
  | p :: r, q, h, hq => by
    have h1 := int_sum_pos fun q hq => h q (List.mem_cons_of_mem p hq)
    have h2 := h p List.mem_cons_self
    simp only [List.sum_cons]
    rcases List.mem_cons.1 hq with rfl | hq
    · omega
    · have := int_mem_sum (fun q hq => h q (List.mem_cons_of_mem p hq)) hq
      omega
/-- The weights of a node are small. -/
theorem head_ws {n : Int} {f : Fun} {k : Int} {m : Nat} {w : List Int} (h : headL n f k m w = true) : (∀ x, x ∈ w → 1 ≤ x ∧ x ≤ 1048576) ∧ (wtd f.kind = true → w.length = m) := by
  have h2 := (head_num h).2.1
  unfold headL at h
  simp only [Bool.and_eq_true] at h
  obtain ⟨_, h3⟩ := h
  cases hw : wtd f.kind
  · rw [h2 hw]
    exact ⟨fun x hx => (List.not_mem_nil hx).elim, fun h => Bool.noConfusion h⟩
  · rw [hw, if_pos rfl] at h3
    simp only [Bool.and_eq_true, decide_eq_true_eq] at h3
    have h4 := (weighI_iff w 0 (by omega)).1 h3.1.1
    exact ⟨fun x hx => ⟨h4.1 x hx, by have := int_mem_sum h4.1 hx; omega⟩, fun _ => h3.1.2⟩
theorem head_range {n : Int} {f : Fun} {k : Int} {m : Nat} {w : List Int} (hf : shapedF f = true) (hn : n ≤ 1000000) (h : headL n f k m w = true) : 0 ≤ k ∧ k < 10000000 ∧ k ≤ (if f.kind = 0 then n - 1 else if f.kind = 1 then f.num - 1 else if f.kind = 3 then 1 else 0) := by
  unfold headL at h
  simp only [Bool.and_eq_true, decide_eq_true_eq] at h
  obtain ⟨⟨_, h2⟩, _⟩ := h
  have := shaped_num hf
  refine ⟨h2.1, ?_, h2.2⟩
  have h3 := h2.2
  split at h3
  · omega
  split at h3
  · omega
  split at h3 <;> omega
mutual
theorem textV_len {ex : Fun → List Val → List Int → Bool} {n : Int} (hn : n ≤ 1000000) : ∀ (v : Val) (f : Fun), shapedF f = true → okV ex n v f = true → (textV v f).length + 14 ≤ 30 * v.nodes
  | .mk k l w, f, hf, h => by
    rw [okV, Bool.and_eq_true, Bool.and_eq_true] at h
    obtain ⟨⟨hh, _⟩, hl⟩ := h
    have hr := head_range hf hn hh
    have hw := head_ws hh
    rw [textV]
    split
    · have := itoa_len hr.1 hr.2.1
      have := Val.nodes_pos (.mk k l w)
      omega
    · rename_i h01
      have hs := argF_shaped hf (fun e => h01 (.inl e)) (fun e => h01 (.inr e)) hh
      have ih := textL_len hn l (argF f k) 0 hs hl
      have hln := textL_length l (argF f k) 0
      have h1 := joinC_len (textL l (argF f k) 0)
      have h2 := joinC_len (elemsT f.kind (textL l (argF f k) 0) w)
      have h3 : sumL (elemsT f.kind (textL l (argF f k) 0) w) ≤ sumL (textL l (argF f k) 0) + 10 * (textL l (argF f k) 0).length ∧ (elemsT f.kind (textL l (argF f k) 0) w).length = (textL l (argF f k) 0).length := by
        unfold elemsT
        split
        · exact ⟨wtx_sum _ _ fun x hx => by have := hw.1 x hx; omega, wtx_length _ _⟩
        · exact ⟨by omega, rfl⟩
      rw [Val.nodes_eq]
      simp only [Val.args_mk]
      unfold aroundV
      split
      · simp; omega
      split
      · have h4 : ((textL l (argF f k) 0).headD []).length ≤ sumL (textL l (argF f k) 0) := by
          cases textL l (argF f k) 0 with
          | nil => simp
          | cons a r => simp [sumL]
        split <;> (simp only [List.length_append, List.length_cons, List.length_nil]; omega)
      split
      · simp; omega
      · simp; omega
theorem textL_len {ex : Fun → List Val → List Int → Bool} {n : Int} (hn : n ≤ 1000000) : ∀ (l : List Val) (g : Nat → Fun) (i : Nat), (∀ j, j < l.length → shapedF (g (i + j)) = true) → okL ex n l g i = true → sumL (textL l g i) + 14 * l.length ≤ 30 * Val.nodesL l
  | [], g, i, _, _ => by rw [textL]; simp [sumL]
  | v :: r, g, i, hs, h => by
    rw [okL, Bool.and_eq_true] at h
    have a := textV_len hn v (g i) (hs 0 (by simp)) h.1
    have b := textL_len hn r g (i + 1) (fun j hj => by have := hs (j + 1) (by simpa using hj); rwa [show i + (j + 1) = i + 1 + j by omega] at this) h.2
    rw [textL, Val.nodesL]
    unfold sumL at *
    simp only [List.map_cons, List.sum_cons, List.length_cons]
    omega
end
def TextAt (ex : Fun → List Val → List Int → Bool) (n : Int) (v : Val) : Prop := ∀ f, shapedF f = true → okV ex n v f = true → ∀ m : Mem, evCall C0 40 [.agg f.cells, .agg v.cells] m = some (.ret (.str (textV v f)), m)
section
variable {ex : Fun → List Val → List Int → Bool} {n : Int}
set_option maxHeartbeats 4000000 in
theorem text_plain (hn : n ≤ 1000000) (v : Val) (hb : v.nodes ≤ 1000000) (H : ∀ u, u ∈ v.args → TextAt ex n u) (f : Fun) (hf : shapedF f = true) (hok : okV ex n v f = true) (hk : f.kind ≤ 3) (m : Mem) :
    evCall C0 40 [.agg f.cells, .agg v.cells] m = some (.ret (.str (textV v f)), m) := by
  have hlen := textV_len hn v f hf hok
  rw [okV_eq, Bool.and_eq_true, Bool.and_eq_true] at hok
  obtain ⟨⟨hh, _⟩, hokl⟩ := hok
  have hr := head_range hf hn hh
  have hh' := hh
  unfold headL at hh'
  simp only [Bool.and_eq_true] at hh'
  obtain ⟨⟨q1, q2⟩, q3⟩ := hh'
  have hin := ev_Itoa v.num (by omega) (by omega)
  rw [textV_eq] at hlen ⊢
  rw [evCall_body C0 (C0_ext _ (by decide)) (by rw [C0_P]; exact Tryz.func40) rfl (by rw [C0_ann]; rfl) (by decide) (by simp [Tryz.f40])]
  rcases shaped_kind hf with ⟨h0, hl⟩ | ⟨h0, hl⟩ | ⟨h0, hl⟩ | ⟨h0, hl⟩ | ⟨h0, hl⟩ | ⟨h0, hl⟩ | ⟨h0, hl⟩ | ⟨h0, hl⟩
  · simp [Tryz.f40, a40, reg40, loop40, draw40, dok40, h0, hin]
  · simp [Tryz.f40, a40, reg40, loop40, draw40, dok40, h0, hin]
  · simp [h0, hl] at q1
    have a0 : 0 < v.args.length := by omega
    have a1 : 1 < v.args.length := by omega
    have f0 : 0 < f.args.length := by omega
    have f1 : 1 < f.args.length := by omega
    have g0 : argF f v.num 0 = f.args[0] := by unfold argF; rw [if_pos h0, List.getD_eq_getElem?_getD, List.getElem?_eq_getElem f0]; rfl
    have g1 : argF f v.num 1 = f.args[1] := by unfold argF; rw [if_pos h0, List.getD_eq_getElem?_getD, List.getElem?_eq_getElem f1]; rfl
    have b1 := Fun.at_cellsL f.args 0 f0
    have b2 := Fun.at_cellsL f.args 1 f1
    have b3 := Val.at_cellsL v.args 0 a0
    have b4 := Val.at_cellsL v.args 1 a1
    simp at b1 b2 b3 b4
    have o0 := okL_mem hokl 0 a0
    have o1 := okL_mem hokl 1 a1
    rw [Nat.zero_add] at o0 o1
    rw [g0] at o0
    rw [g1] at o1
    have he0 := H v.args[0] (List.getElem_mem a0) f.args[0] (shaped_arg hf f0) o0
    have he1 := H v.args[1] (List.getElem_mem a1) f.args[1] (shaped_arg hf f1) o1
    have hm : textL v.args (argF f v.num) 0 = [textV v.args[0] f.args[0], textV v.args[1] f.args[1]] := by
      have hl2 : (textL v.args (argF f v.num) 0).length = 2 := by rw [textL_length]; omega
      have t0 := textL_at v.args (argF f v.num) 0 0 a0
      have t1 := textL_at v.args (argF f v.num) 0 1 a1
      rw [Nat.zero_add] at t0 t1
      rw [g0] at t0
      rw [g1] at t1
      rw [← t0, ← t1]
      exact List.ext_getElem (by simp [hl2]) fun i h1 h2 => by
        match i, h2 with
        | 0, _ => rfl
        | 1, _ => rfl
    rw [hm] at hlen ⊢
    simp at he0 he1
    generalize textV v.args[0] f.args[0] = t0 at *
    generalize textV v.args[1] f.args[1] = t1 at *
    simp [h0, aroundV, joinC] at hlen
    simp [Tryz.f40, a40, reg40, loop40, draw40, dok40, h0, show v.args.length = 2 by omega, hl, b1, b2, b3, b4, he0, he1, aroundV, joinC]
    repeat (rw [if_pos (by omega)]; simp [Tryz.f40, a40, reg40, loop40, draw40, dok40, h0, show v.args.length = 2 by omega, hl, b1, b2, b3, b4, he0, he1, aroundV, joinC])
  · simp [h0] at q1
    have a0 : 0 < v.args.length := by omega
    have f0 : 0 < f.args.length := by omega
    have f1 : 1 < f.args.length := by omega
    have b1 := Fun.at_cellsL f.args 0 f0
    have b2 := Fun.at_cellsL f.args 1 f1
    have b3 := Val.at_cellsL v.args 0 a0
    simp at b1 b2 b3
    have o0 := okL_mem hokl 0 a0
    rw [Nat.zero_add] at o0
    have hm : textL v.args (argF f v.num) 0 = [textV v.args[0] (argF f v.num 0)] := by
      have hl2 : (textL v.args (argF f v.num) 0).length = 1 := by rw [textL_length]; omega
      have t0 := textL_at v.args (argF f v.num) 0 0 a0
      rw [Nat.zero_add] at t0
      rw [← t0]
      exact List.ext_getElem (by simp [hl2]) fun i h1 h2 => by
        match i, h2 with
        | 0, _ => rfl
    rw [hm] at hlen ⊢
    by_cases cn : v.num = 0
    · have g0 : argF f v.num 0 = f.args[0] := by unfold argF; rw [if_neg (by omega), if_pos h0, cn, List.getD_eq_getElem?_getD, List.getElem?_eq_getElem (by simpa using f0)]; rfl
      rw [g0] at o0 hlen ⊢
      have he0 := H v.args[0] (List.getElem_mem a0) f.args[0] (shaped_arg hf f0) o0
      simp at he0
      generalize textV v.args[0] f.args[0] = t0 at *
      simp [h0, aroundV, cn] at hlen
      simp [Tryz.f40, a40, reg40, loop40, draw40, dok40, h0, q1.2, hl, b1, b2, b3, he0, cn, aroundV]
      repeat (rw [if_pos (by omega)]; simp [Tryz.f40, a40, reg40, loop40, draw40, dok40, h0, q1.2, hl, b1, b2, b3, he0, cn, aroundV])
    · have cm : v.num = 1 := by omega
      have g0 : argF f v.num 0 = f.args[1] := by unfold argF; rw [if_neg (by omega), if_pos h0, cm, List.getD_eq_getElem?_getD, List.getElem?_eq_getElem (by simpa using f1)]; rfl
      rw [g0] at o0 hlen ⊢
      have he0 := H v.args[0] (List.getElem_mem a0) f.args[1] (shaped_arg hf f1) o0
      simp at he0
      generalize textV v.args[0] f.args[1] = t0 at *
      have w2 : IntKind.i64.wrap 2 = 2 := by decide
      simp [h0, aroundV, cm] at hlen
      simp [Tryz.f40, a40, reg40, loop40, draw40, dok40, h0, q1.2, hl, b1, b2, b3, he0, cm, aroundV, w2]
      repeat (rw [if_pos (by omega)]; simp [Tryz.f40, a40, reg40, loop40, draw40, dok40, h0, q1.2, hl, b1, b2, b3, he0, cm, aroundV, w2])
  all_goals omega
set_option maxHeartbeats 4000000 in
theorem text_many (hn : n ≤ 1000000) (v : Val) (hb : v.nodes ≤ 1000000) (H : ∀ u, u ∈ v.args → TextAt ex n u) (f : Fun) (hf : shapedF f = true) (hok : okV ex n v f = true) (hk : 4 ≤ f.kind) (m : Mem) :
    evCall C0 40 [.agg f.cells, .agg v.cells] m = some (.ret (.str (textV v f)), m) := by
  have hlen := textV_len hn v f hf hok
  rw [okV_eq, Bool.and_eq_true, Bool.and_eq_true] at hok
  obtain ⟨⟨hh, _⟩, hokl⟩ := hok
  have hws := head_ws hh
  have hlna := v.length_args
  have hfl : f.args.length = 1 := by have := shaped_kind hf; omega
  have hk7 : f.kind ≤ 7 := by have := shaped_kind hf; omega
  have f0 : 0 < f.args.length := by omega
  have b1 := Fun.at_cellsL f.args 0 f0
  simp at b1
  have hg : ∀ j, argF f v.num j = f.args[0] := fun j => by
    unfold argF
    rw [if_neg (by omega), if_neg (by omega), List.getD_eq_getElem?_getD, List.getElem?_eq_getElem f0]
    rfl
  have k4 : ¬ f.kind = 0 ∧ ¬ f.kind = 1 ∧ ¬ f.kind = 2 ∧ ¬ f.kind = 3 := by omega
  have hs4 := argF_shaped hf k4.1 k4.2.1 hh
  have hsum := textL_len hn v.args (argF f v.num) 0 hs4 hokl
  have hvn := v.nodes_eq
  have htl := textL_length v.args (argF f v.num) 0
  have hta := fun j h => textL_at v.args (argF f v.num) 0 j h
  rw [textV_eq, if_neg (by omega)]
  have hE : ∃ E : List (List UInt8), E = elemsT f.kind (textL v.args (argF f v.num) 0) v.ws ∧ E.length = v.args.length ∧ sumL E ≤ sumL (textL v.args (argF f v.num) 0) + 10 * v.args.length := by
    refine ⟨_, rfl, ?_, ?_⟩
    · unfold elemsT
      split
      · rw [wtx_length, htl]
      · exact htl
    · unfold elemsT
      split
      · have := wtx_sum (textL v.args (argF f v.num) 0) v.ws fun x hx => by have := hws.1 x hx; omega
        rw [htl] at this
        exact this
      · omega
  obtain ⟨E, hEe, hEl, hEs⟩ := hE
  have hEat : ∀ (j : Nat) (h : j < v.args.length), E[j]'(by omega) = textV v.args[j] f.args[0] ++ (if h6 : 6 ≤ f.kind then [32, 58, 32] ++ Lib.itoa (v.ws.getD j 0) else []) := fun j h => by
    have h1 := hta j h
    rw [hg] at h1
    subst hEe
    unfold elemsT
    by_cases h6 : 6 ≤ f.kind
    · have hwt : wtd f.kind = true := by unfold wtd; simp; omega
      have hwl := hws.2 hwt
      simp only [if_pos h6, dif_pos h6]
      rw [wtx_at _ _ j (by rw [htl]; exact h) (by omega), h1, List.getD_eq_getElem?_getD, List.getElem?_eq_getElem (by omega)]
      rfl
    · simp only [if_neg h6, dif_neg h6, List.append_nil]
      exact h1
  have hfin : aroundV f.kind v.num (textL v.args (argF f v.num) 0) v.ws = (if f.kind = 4 then [91] else [123]) ++ joinC E ++ (if f.kind = 4 then [93] else [125]) := by
    unfold aroundV
    rw [if_neg k4.2.2.1, if_neg k4.2.2.2, hEe]
    by_cases h4 : f.kind = 4
    · rw [if_pos h4, if_pos h4, if_pos h4]
      unfold elemsT
      rw [if_neg (by omega)]
      rfl
    · rw [if_neg h4, if_neg h4, if_neg h4]
      rfl
  rw [hfin]
  have hjl := fun i => joinC_take E i
  have hbig : sumL E + 2 * E.length ≤ 100000000 := by omega
  have hopn : ∃ o c : UInt8, (if f.kind = 4 then [91] else [123]) = [o] ∧ (if f.kind = 4 then ([93] : List UInt8) else [125]) = [c] ∧ (f.kind = 4 → o = 91 ∧ c = 93) ∧ (¬ f.kind = 4 → o = 123 ∧ c = 125) := by
    by_cases h4 : f.kind = 4
    · exact ⟨91, 93, by rw [if_pos h4], by rw [if_pos h4], fun _ => ⟨rfl, rfl⟩, fun h => absurd h4 h⟩
    · exact ⟨123, 125, by rw [if_neg h4], by rw [if_neg h4], fun h => absurd h h4, fun _ => ⟨rfl, rfl⟩⟩
  obtain ⟨op, cl, ho, hc, ho4, hc4⟩ := hopn
  rw [ho, hc]
  rw [evCall_body C0 (C0_ext _ (by decide)) (by rw [C0_P]; exact Tryz.func40) rfl (by rw [C0_ann]; rfl) (by decide) (by simp [Tryz.f40])]
  by_cases h4 : f.kind = 4
  case' pos =>
    obtain ⟨e1, e2⟩ := ho4 h4
    have h6 : ¬ 6 ≤ f.kind := by omega
    simp [Tryz.f40, a40, reg40, loop40, draw40, dok40, h4]
  case' neg =>
    obtain ⟨e1, e2⟩ := hc4 h4
    simp [Tryz.f40, a40, reg40, loop40, draw40, dok40, k4, h4]
  all_goals
    refine loop_in (fun i : Nat => ⟨[(2, .ptr m.bx.length 0), (3, .ptr (m.bx.length + 1) 0), (5, .str (op :: joinC (E.take i))), (6, .str [cl]), (66, .isl false v.args.length (Val.cellsL v.args)), (67, .int .i64 v.args.length), (68, .int .i64 i)],
        ⟨m.bx ++ [f.cells, v.cells], m.rw⟩⟩)
      (fun i => some (.ret (.str (op :: (joinC E ++ [cl]))), m)) (fun i => v.args.length - i) (fun i => i ≤ v.args.length) 0 ?_ ?_ ?_ ?_ ?_
    · simp [joinC, h4, e1, e2]
    · simp
    · omega
    · intro x; simp [Tryz.f40, a40, reg40, loop40, draw40, dok40]
    · intro i hi hrec
      by_cases hlt : i < v.args.length
      · have w2 : IntKind.i64.wrap (i + 1) = i + 1 := wrap_id _ (by omega)
        have h3 : (i + 1) * 3 ≤ v.args.length * 3 := by omega
        have o0 := okL_mem hokl i hlt
        rw [Nat.zero_add, hg] at o0
        have he := H v.args[i] (List.getElem_mem hlt) f.args[0] (shaped_arg hf f0) o0
        have hEi := hEat i hlt
        have hiE : i < E.length := by omega
        have htk : E.take (i + 1) = E.take i ++ [E[i]] := List.take_succ_eq_append_getElem hiE
        have hml := mem_sumL (List.getElem_mem hiE)
        have hj := hjl i
        have hd0 := Val.at_cellsL v.args i hlt
        simp at he hd0
        have hnx : joinC (E.take (i + 1)) = if i = 0 then E[i] else joinC (E.take i) ++ ([44, 32] ++ E[i]) := by
          rw [htk]
          split
          · rename_i h0
            subst h0
            rfl
          · exact joinC_snoc _ _ fun h => by
              have := congrArg List.length h
              rw [List.length_take, List.length_nil] at this
              omega
        rw [hEi] at hnx hml
        generalize textV v.args[i] f.args[0] = T at *
        by_cases h6 : 6 ≤ f.kind
        · first | (exfalso; omega) | skip
          all_goals
            rw [dif_pos h6] at hnx hml
            have hwt : wtd f.kind = true := by unfold wtd; simp; omega
            have hiw : i < v.ws.length := by rw [hws.2 hwt]; exact hlt
            have hwx := hws.1 _ (List.getElem_mem hiw)
            have hgd : v.ws.getD i 0 = v.ws[i] := by rw [List.getD_eq_getElem?_getD, List.getElem?_eq_getElem hiw]; rfl
            rw [hgd] at hnx hml
            have hat := ints_at hiw
            have hit := ev_Itoa v.ws[i] (by omega) (by omega)
            generalize Lib.itoa v.ws[i] = W at *
            simp at hml
            by_cases hi0 : i = 0
            · rw [if_pos hi0] at hnx
              have hJ : joinC (E.take i) = [] := by rw [hi0]; rfl
              rw [hJ] at hj ⊢
              subst hi0
              simp at he hd0 hat
              simp [round, Tryz.f40, a40, reg40, loop40, draw40, dok40, h4, k4, hlt, w2, h3, hfl, b1, he, hd0, h6, hat, hit, hiw, show 1 ≤ v.ws.length by omega, endRound_M]
              repeat (rw [if_pos (by omega)]; simp [round, Tryz.f40, a40, reg40, loop40, draw40, dok40, h4, k4, hlt, w2, h3, hfl, b1, he, hd0, h6, hat, hit, hiw, show 1 ≤ v.ws.length by omega, endRound_M])
              refine hrec 1 _ _ ?_ ?_ ?_ ?_
              · omega
              · omega
              · simp [hnx, hfl, h4]
              · simp
            · rw [if_neg hi0] at hnx
              have hi1 : 0 < i := by omega
              generalize joinC (E.take i) = J at *
              simp [round, Tryz.f40, a40, reg40, loop40, draw40, dok40, h4, k4, hlt, w2, h3, hfl, b1, he, hd0, hi0, hi1, h6, hat, hit, hiw, show i + 1 ≤ v.ws.length by omega, endRound_M]
              repeat (rw [if_pos (by omega)]; simp [round, Tryz.f40, a40, reg40, loop40, draw40, dok40, h4, k4, hlt, w2, h3, hfl, b1, he, hd0, hi0, hi1, h6, hat, hit, hiw, show i + 1 ≤ v.ws.length by omega, endRound_M])
              refine hrec (i + 1) _ _ ?_ ?_ ?_ ?_
              · omega
              · omega
              · simp [hnx, hfl, h4]
              · simp
        · rw [dif_neg h6] at hnx hml
          simp at hml
          by_cases hi0 : i = 0
          · rw [if_pos hi0] at hnx
            have hJ : joinC (E.take i) = [] := by rw [hi0]; rfl
            rw [hJ] at hj ⊢
            subst hi0
            simp at he hd0
            simp [round, Tryz.f40, a40, reg40, loop40, draw40, dok40, h4, k4, hlt, w2, h3, hfl, b1, he, hd0, h6, endRound_M]
            repeat (rw [if_pos (by omega)]; simp [round, Tryz.f40, a40, reg40, loop40, draw40, dok40, h4, k4, hlt, w2, h3, hfl, b1, he, hd0, h6, endRound_M])
            refine hrec 1 _ _ ?_ ?_ ?_ ?_
            · omega
            · omega
            · simp [hnx, hfl, h4]
            · simp
          · rw [if_neg hi0] at hnx
            have hi1 : 0 < i := by omega
            generalize joinC (E.take i) = J at *
            simp [round, Tryz.f40, a40, reg40, loop40, draw40, dok40, h4, k4, hlt, w2, h3, hfl, b1, he, hd0, hi0, hi1, h6, endRound_M]
            repeat (rw [if_pos (by omega)]; simp [round, Tryz.f40, a40, reg40, loop40, draw40, dok40, h4, k4, hlt, w2, h3, hfl, b1, he, hd0, hi0, hi1, h6, endRound_M])
            refine hrec (i + 1) _ _ ?_ ?_ ?_ ?_
            · omega
            · omega
            · simp [hnx, hfl, h4]
            · simp
      · clear hrec
        have hie : i = v.args.length := by omega
        subst hie
        rw [List.take_of_length_le (by omega)]
        have hj := hjl E.length
        rw [List.take_of_length_le (by omega)] at hj
        generalize joinC E = J at *
        simp [round, Tryz.f40, a40, reg40, loop40, draw40, dok40, hlt]
        repeat (rw [if_pos (by omega)]; simp [round, Tryz.f40, a40, reg40, loop40, draw40, dok40, hlt])
theorem ev_VText (hn : n ≤ 1000000) (N : Nat) : ∀ (v : Val), v.nodes ≤ N → v.nodes ≤ 1000000 → TextAt ex n v := by
  induction N with
  | zero => intro v hN; have := v.nodes_pos; omega
  | succ N ih =>
  intro v hN hb f hf hok m
  have H : ∀ u, u ∈ v.args → TextAt ex n u := fun u hu => ih u (by have := Val.nodes_arg hu; omega) (by have := Val.nodes_arg hu; omega)
  by_cases hk : f.kind ≤ 3
  · exact text_plain hn v hb H f hf hok hk m
  · exact text_many hn v hb H f hf hok (by omega) m
end
/-- The string of a value, or the error. -/
def pStr (f : Fun) (n : Int) (v : Val) : List UInt8 × Int := if errV f n v = 0 then (textV v f, 0) else ([], errV f n v)
theorem ev_VString (f : Fun) (n : Int) (v : Val) (hbf : f.nodes ≤ 1000000000) (hb : v.nodes ≤ 1000000) (hs : slimV v) (m : Mem) :
    evCall C0 15 [.agg f.cells, .int .i64 n, .agg v.cells] m = some (.ret (.tup [.str (pStr f n v).1, .int .i64 (pStr f n v).2]), m) := by
  rw [evCall_body C0 (C0_ext _ (by decide)) (by rw [C0_P]; exact Tryz.func15) rfl (by rw [C0_ann]; rfl) (by decide) (by simp [Tryz.f15])]
  have he := ev_whole f n v hbf (by omega) hs
  simp at he
  unfold pStr
  by_cases h0 : errV f n v = 0
  case neg => simp [Tryz.f15, a15, reg15, he, h0]
  obtain ⟨h1, h2, h3⟩ := errV_zero h0
  have hz := errF_zero h1
  have ht := ev_VText (n := n) (ex := exS) (by omega) v.nodes v (Nat.le_refl _) hb f hz.1 h2
  simp at ht
  simp [h0] at he
  simp [Tryz.f15, a15, reg15, he, h0, ht]
end AE
end Go.Proofs.YthoomlenmgdebaaGreatDoor

/- The string of a value is parsed back to it; plain. -/
set_option linter.unusedVariables false
set_option linter.unusedSimpArgs false
namespace Go.Proofs.YthoomlenmgdebaaGreatDoor
namespace AE
open Go

theorem isC_yes {c : UInt8} {s r : List UInt8} (h : dropC 32 s = c :: r) : isC c s = (true, r) := by unfold isC; rw [h]; simp
theorem isC_no {c b : UInt8} {s r : List UInt8} (h : dropC 32 s = b :: r) (hb : ¬ b = c) : isC c s = (false, b :: r) := by unfold isC; rw [h]; simp [hb]
theorem drop_same {b : UInt8} {r : List UInt8} (h : ¬ b = 32) : dropC 32 (b :: r) = b :: r := dropC_ne h r
theorem digN_cons {b : UInt8} (h : isDig b = false) (r : List UInt8) : digN (b :: r) = 0 := by unfold digN; simp [h]
theorem digN_consT {b : UInt8} (h : isDig b = true) (r : List UInt8) : digN (b :: r) = digN r + 1 := by unfold digN; simp [h]
/-- No digit is next. -/
def NoD (r : List UInt8) : Prop := digN r = 0
theorem digN_append {r : List UInt8} (h : NoD r) : ∀ v : List UInt8, (∀ b, b ∈ v → isDig b = true) → digN (v ++ r) = v.length
  | [], _ => h
  | b :: q, hv => by
    rw [List.cons_append, digN_consT (hv b List.mem_cons_self), digN_append h q fun x hx => hv x (List.mem_cons_of_mem _ hx)]
    rfl
theorem dec_dig : ∀ (u : Nat) (b : UInt8), b ∈ Lib.decDigits u → isDig b = true := by
  intro u
  induction u using Nat.strongRecOn with
  | _ u ih =>
    intro b hb
    have one : ∀ k, k < 10 → isDig (UInt8.ofNat (48 + k)) = true := fun k hk => by
      rw [isDig_iff]
      have : (UInt8.ofNat (48 + k)).toNat = 48 + k := by simp; omega
      omega
    rw [Lib.decDigits] at hb
    split at hb
    · rename_i h
      rw [List.mem_singleton] at hb
      rw [hb]
      exact one u h
    · rcases List.mem_append.1 hb with h | h
      · exact ih (u / 10) (by omega) b h
      · rw [List.mem_singleton] at h
        rw [h]
        exact one _ (by omega)
theorem valD_append (n : Nat) : ∀ (a b : List UInt8), valD n (a ++ b) = valD (valD n a) b := by
  intro a b
  unfold valD
  exact List.foldl_append
theorem dec_val : ∀ u : Nat, valD 0 (Lib.decDigits u) = u := by
  intro u
  induction u using Nat.strongRecOn with
  | _ u ih =>
    have one : ∀ n k, k < 10 → valD n [UInt8.ofNat (48 + k)] = n * 10 + k := fun n k hk => by
      have : (UInt8.ofNat (48 + k)).toNat = 48 + k := by simp; omega
      rw [valD_cons, valD_nil, this]
      omega
    rw [Lib.decDigits]
    split
    · rename_i h
      rw [one 0 u h]
      omega
    · rename_i h
      rw [valD_append, ih (u / 10) (by omega), one _ _ (by omega)]
      omega
theorem dec_head : ∀ u : Nat, 1 ≤ u → ∃ b r, Lib.decDigits u = b :: r ∧ 49 ≤ b.toNat := by
  intro u
  induction u using Nat.strongRecOn with
  | _ u ih =>
    intro h1
    rw [Lib.decDigits]
    split
    · rename_i h
      exact ⟨_, [], rfl, by have : (UInt8.ofNat (48 + u)).toNat = 48 + u := by simp; omega
                            omega⟩
    · rename_i h
      obtain ⟨b, r, h2, h3⟩ := ih (u / 10) (by omega) (by omega)
      exact ⟨b, r ++ [UInt8.ofNat (48 + u % 10)], by rw [h2]; rfl, h3⟩
theorem dec_ne (u : Nat) : ∃ b r, Lib.decDigits u = b :: r ∧ isDig b = true := by
  cases h : Lib.decDigits u with
  | nil =>
    rw [Lib.decDigits] at h
    split at h <;> simp at h
  | cons b r => exact ⟨b, r, rfl, dec_dig u b (by rw [h]; exact List.mem_cons_self)⟩
/-- A number is read back. -/
theorem num_back {k : Int} (h0 : 0 ≤ k) (h1 : k < 10000000) {s r : List UInt8} (hr : NoD r) (hs : dropC 32 s = Lib.itoa k ++ r) : pNum s = (some k, r) := by
  have hi : Lib.itoa k = Lib.decDigits k.toNat := by unfold Lib.itoa; rw [if_neg (by omega)]
  rw [hi] at hs
  have hd := digN_append hr _ (dec_dig k.toNat)
  obtain ⟨b, q, hb, hbd⟩ := dec_ne k.toNat
  have hpos : 0 < (Lib.decDigits k.toNat).length := by rw [hb]; simp
  unfold pNum
  rw [hs, hd, if_neg]
  · rw [List.take_left, List.drop_left]
    have : numR (Lib.decDigits k.toNat) = k := by
      unfold numR
      rw [dec_val, if_pos (by omega)]
      omega
    rw [this]
  · rintro (h | ⟨h2, h3⟩)
    · omega
    · by_cases hk : k.toNat = 0
      · rw [hk, Lib.decDigits, dif_pos (by omega)] at h3
        simp at h3
      · obtain ⟨b', q', h4, h5⟩ := dec_head k.toNat (by omega)
        rw [h4, List.cons_append, headN_cons] at h2
        omega
theorem text_head {ex : Fun → List Val → List Int → Bool} {n : Int} (v : Val) (f : Fun) (h : okV ex n v f = true) (hn : n ≤ 1000000) (hf : shapedF f = true) : ∃ b r, textV v f = b :: r ∧ ¬ b = 32 ∧ ¬ b = 93 ∧ ¬ b = 125 ∧ ¬ b = 44 := by
  rw [okV_eq, Bool.and_eq_true, Bool.and_eq_true] at h
  have hr := head_range hf hn h.1.1
  rw [textV_eq]
  split
  · unfold Lib.itoa
    rw [if_neg (by omega)]
    obtain ⟨b, q, hb, hbd⟩ := dec_ne v.num.toNat
    rw [isDig_iff] at hbd
    refine ⟨b, q, hb, ?_, ?_, ?_, ?_⟩ <;> (rintro rfl; revert hbd; decide)
  · unfold aroundV
    split
    · exact ⟨40, _, rfl, by decide, by decide, by decide, by decide⟩
    split
    · split
      · exact ⟨108, _, rfl, by decide, by decide, by decide, by decide⟩
      · exact ⟨114, _, rfl, by decide, by decide, by decide, by decide⟩
    split
    · exact ⟨91, _, rfl, by decide, by decide, by decide, by decide⟩
    · exact ⟨123, _, rfl, by decide, by decide, by decide, by decide⟩
/-- Strings with commas before each. -/
def tailT : List (List UInt8) → List UInt8
  | [] => []
  | t :: r => 44 :: 32 :: (t ++ tailT r)
theorem join_tail : ∀ (t : List UInt8) (r : List (List UInt8)), joinC (t :: r) = t ++ tailT r
  | t, [] => by simp [joinC, tailT]
  | t, u :: r => by
    rw [joinC, join_tail u r, tailT]
    rfl
/-- What stands behind an element. -/
theorem tail_noD (e : UInt8) (he : isDig e = false) (l : List (List UInt8)) (r : List UInt8) : NoD (tailT l ++ e :: r) := by
  cases l with
  | nil => exact digN_cons he r
  | cons t q => exact digN_cons (by decide) _
/-- Elements with weights as the parser reads them. -/
def elT (w : Bool) (T : Val → List UInt8) : List Val → List Int → List (List UInt8)
  | x :: r, ws => (T x ++ (if w then [32, 58, 32] ++ Lib.itoa (ws.headD 0) else [])) :: elT w T r ws.tail
  | [], _ => []
theorem list_back {val : List UInt8 → PRV} {T : Val → List UInt8} {e : UInt8} {w : Bool} (he32 : ¬ e = 32) (he44 : ¬ (44 : UInt8) = e) (hed : isDig e = false) (r : List UInt8) :
    ∀ (l : List Val) (wl : List Int) (n : Nat) (a : List Val) (ws : List Int) (s : List UInt8), a ≠ [] → (w = true → wl.length = l.length) → (w = false → wl = []) → (∀ k, k ∈ wl → 0 ≤ k ∧ k < 10000000) → l.length < n →
      (∀ x, x ∈ l → ∀ s r, NoD r → dropC 32 s = T x ++ r → val s = (some x, r)) → (∀ x, x ∈ l → ∃ b q, T x = b :: q ∧ ¬ b = 32) →
      dropC 32 s = tailT (elT w T l wl) ++ e :: r → listV val e w n a ws s = (some (.mk 0 (a ++ l) (ws ++ wl)), r)
  | [], wl, n, a, ws, s, ha, h1, h2, h3, hn, hv, hT, hs => by
    obtain ⟨n, rfl⟩ : ∃ k, n = k + 1 := ⟨n - 1, by omega⟩
    have hw : wl = [] := by
      cases w
      · exact h2 rfl
      · exact List.eq_nil_of_length_eq_zero (h1 rfl)
    subst hw
    have hs' : dropC 32 s = e :: r := hs
    rw [listV, isC_yes hs']
    simp
  | x :: l, wl, n, a, ws, s, ha, h1, h2, h3, hn, hv, hT, hs => by
    obtain ⟨n, rfl⟩ : ∃ k, n = k + 1 := ⟨n - 1, by omega⟩
    obtain ⟨b, q, hTx, hb⟩ := hT x List.mem_cons_self
    have hs' : dropC 32 s = 44 :: 32 :: ((T x ++ (if w then [32, 58, 32] ++ Lib.itoa (wl.headD 0) else [])) ++ tailT (elT w T l wl.tail) ++ e :: r) := by
      rw [hs]
      rfl
    have hal : ¬ a.length = 0 := fun h => ha (List.eq_nil_of_length_eq_zero h)
    have hd2 : dropC 32 (44 :: 32 :: ((T x ++ (if w then [32, 58, 32] ++ Lib.itoa (wl.headD 0) else [])) ++ tailT (elT w T l wl.tail) ++ e :: r)) = 44 :: 32 :: ((T x ++ (if w then [32, 58, 32] ++ Lib.itoa (wl.headD 0) else [])) ++ tailT (elT w T l wl.tail) ++ e :: r) := drop_same (by decide)
    rw [listV, isC_no hs' he44]
    simp only [Bool.false_eq_true, if_false]
    rw [isC_yes hd2]
    simp only [Bool.true_eq_false, and_false, if_false, if_neg hal]
    have hdT : ∀ q', dropC 32 (32 :: (T x ++ q')) = T x ++ q' := fun q' => by
      rw [dropC_same, hTx, List.cons_append, drop_same hb]
    have hne : a ++ [x] ≠ [] := by simp
    cases w with
    | false =>
      have hw := h2 rfl
      subst hw
      simp only [Bool.false_eq_true, if_false, List.append_nil]
      have hx := hv x List.mem_cons_self (32 :: (T x ++ tailT (elT false T l []) ++ e :: r)) (tailT (elT false T l []) ++ e :: r) (tail_noD e hed _ _) (by rw [List.append_assoc]; exact hdT _)
      have ht0 : ([] : List Int).tail = [] := rfl
      rw [ht0, hx]
      simp only [bindV, if_false, Bool.false_eq_true]
      have := list_back (val := val) (T := T) (w := false) he32 he44 hed r l [] n (a ++ [x]) ws (tailT (elT false T l []) ++ e :: r) hne (fun h => by cases h) (fun _ => rfl) (fun k hk => by cases hk) (by simpa using hn) (fun y hy => hv y (List.mem_cons_of_mem _ hy)) (fun y hy => hT y (List.mem_cons_of_mem _ hy)) ?_
      · rw [this]
        simp
      · cases hq : elT false T l [] with
        | nil => exact drop_same he32
        | cons t q => exact drop_same (by decide)
    | true =>
      have hwl := h1 rfl
      obtain ⟨k, wr, rfl⟩ : ∃ k wr, wl = k :: wr := by
        cases wl with
        | nil => simp at hwl
        | cons k wr => exact ⟨k, wr, rfl⟩
      have hk := h3 k List.mem_cons_self
      simp only [if_true, List.headD_cons, List.tail_cons]
      have hx := hv x List.mem_cons_self (32 :: (T x ++ ([32, 58, 32] ++ Lib.itoa k) ++ tailT (elT true T l wr) ++ e :: r)) ([32, 58, 32] ++ Lib.itoa k ++ (tailT (elT true T l wr) ++ e :: r)) (by rw [List.append_assoc]; exact digN_cons (b := 32) (by decide) _) (by rw [List.append_assoc, List.append_assoc, List.append_assoc]; exact hdT _)
      rw [hx]
      have h58 : dropC 32 ([32, 58, 32] ++ Lib.itoa k ++ (tailT (elT true T l wr) ++ e :: r)) = 58 :: 32 :: (Lib.itoa k ++ (tailT (elT true T l wr) ++ e :: r)) := by
        show dropC 32 (32 :: 58 :: 32 :: (Lib.itoa k ++ (tailT (elT true T l wr) ++ e :: r))) = _
        rw [dropC_same, drop_same (by decide)]
      simp only [bindV, takeC, isC_yes h58, if_true]
      have hdk : dropC 32 (32 :: (Lib.itoa k ++ (tailT (elT true T l wr) ++ e :: r))) = Lib.itoa k ++ (tailT (elT true T l wr) ++ e :: r) := by
        rw [dropC_same]
        have : Lib.itoa k = Lib.decDigits k.toNat := by unfold Lib.itoa; rw [if_neg (by omega)]
        rw [this]
        obtain ⟨b', q', hb', hd'⟩ := dec_ne k.toNat
        rw [hb', List.cons_append]
        refine drop_same ?_
        rintro rfl
        revert hd'
        decide
      rw [num_back hk.1 hk.2 (tail_noD e hed _ _) hdk]
      simp only [bindN]
      have := list_back (val := val) (T := T) (w := true) he32 he44 hed r l wr n (a ++ [x]) (ws ++ [k]) (tailT (elT true T l wr) ++ e :: r) hne (fun _ => by simpa using hwl) (fun h => by cases h) (fun y hy => h3 y (List.mem_cons_of_mem _ hy)) (by simpa using hn) (fun y hy => hv y (List.mem_cons_of_mem _ hy)) (fun y hy => hT y (List.mem_cons_of_mem _ hy)) ?_
      · rw [this]
        simp
      · cases hq : elT true T l wr with
        | nil => exact drop_same he32
        | cons t q => exact drop_same (by decide)
/-- The elements that a list begins with. -/
theorem list_back0 {val : List UInt8 → PRV} {T : Val → List UInt8} {e : UInt8} {w : Bool} (he32 : ¬ e = 32) (he44 : ¬ (44 : UInt8) = e) (hed : isDig e = false) (r : List UInt8) (l : List Val) (wl : List Int) (n : Nat) (s : List UInt8) (h1 : w = true → wl.length = l.length) (h2 : w = false → wl = []) (h3 : ∀ k, k ∈ wl → 0 ≤ k ∧ k < 10000000) (hn : l.length < n)
    (hv : ∀ x, x ∈ l → ∀ s r, NoD r → dropC 32 s = T x ++ r → val s = (some x, r)) (hT : ∀ x, x ∈ l → ∃ b q, T x = b :: q ∧ ¬ b = 32 ∧ ¬ b = e) (hs : dropC 32 s = joinC (elT w T l wl) ++ e :: r) : listV val e w n [] [] s = (some (.mk 0 l wl), r) := by
  obtain ⟨n, rfl⟩ : ∃ k, n = k + 1 := ⟨n - 1, by omega⟩
  cases l with
  | nil =>
    have hw : wl = [] := by
      cases w
      · exact h2 rfl
      · exact List.eq_nil_of_length_eq_zero (h1 rfl)
    subst hw
    have hs' : dropC 32 s = e :: r := hs
    rw [listV, isC_yes hs']
    simp
  | cons x l =>
    obtain ⟨b, q, hTx, hb, hbe⟩ := hT x List.mem_cons_self
    rw [elT, join_tail] at hs
    have hT' : ∀ y, y ∈ l → ∃ b q, T y = b :: q ∧ ¬ b = 32 := fun y hy => by
      obtain ⟨b, q, h4, h5, _⟩ := hT y (List.mem_cons_of_mem _ hy)
      exact ⟨b, q, h4, h5⟩
    have hs' : dropC 32 s = b :: (q ++ (if w then [32, 58, 32] ++ Lib.itoa (wl.headD 0) else []) ++ tailT (elT w T l wl.tail) ++ e :: r) := by
      rw [hs, hTx]
      simp
    have hdd : ∀ q', dropC 32 (b :: q') = b :: q' := fun q' => drop_same hb
    rw [listV, isC_no hs' hbe]
    simp only [Bool.false_eq_true, if_false, List.length_nil, ne_eq, not_true_eq_false, false_and, if_true, List.nil_append]
    cases w with
    | false =>
      have hw := h2 rfl
      subst hw
      simp only [Bool.false_eq_true, if_false, List.append_nil]
      have ht0 : ([] : List Int).tail = [] := rfl
      have hx := hv x List.mem_cons_self (b :: (q ++ tailT (elT false T l []) ++ e :: r)) (tailT (elT false T l []) ++ e :: r) (tail_noD e hed _ _) (by rw [hdd, hTx]; simp)
      rw [ht0, hx]
      simp only [bindV, if_false, Bool.false_eq_true]
      have := list_back (val := val) (T := T) (w := false) he32 he44 hed r l [] n [x] [] (tailT (elT false T l []) ++ e :: r) (by simp) (fun h => by cases h) (fun _ => rfl) (fun k hk => by cases hk) (by simpa using hn) (fun y hy => hv y (List.mem_cons_of_mem _ hy)) hT' ?_
      · rw [this]
        simp
      · cases hq : elT false T l [] with
        | nil => exact drop_same he32
        | cons t q => exact drop_same (by decide)
    | true =>
      have hwl := h1 rfl
      obtain ⟨k, wr, rfl⟩ : ∃ k wr, wl = k :: wr := by
        cases wl with
        | nil => simp at hwl
        | cons k wr => exact ⟨k, wr, rfl⟩
      have hk := h3 k List.mem_cons_self
      simp only [if_true, List.headD_cons, List.tail_cons]
      have hx := hv x List.mem_cons_self (b :: (q ++ ([32, 58, 32] ++ Lib.itoa k) ++ tailT (elT true T l wr) ++ e :: r)) ([32, 58, 32] ++ Lib.itoa k ++ (tailT (elT true T l wr) ++ e :: r)) (by rw [List.append_assoc]; exact digN_cons (b := 32) (by decide) _) (by rw [hdd, hTx]; simp)
      rw [hx]
      have h58 : dropC 32 ([32, 58, 32] ++ Lib.itoa k ++ (tailT (elT true T l wr) ++ e :: r)) = 58 :: 32 :: (Lib.itoa k ++ (tailT (elT true T l wr) ++ e :: r)) := by
        show dropC 32 (32 :: 58 :: 32 :: (Lib.itoa k ++ (tailT (elT true T l wr) ++ e :: r))) = _
        rw [dropC_same, drop_same (by decide)]
      simp only [bindV, takeC, isC_yes h58, if_true]
      have hdk : dropC 32 (32 :: (Lib.itoa k ++ (tailT (elT true T l wr) ++ e :: r))) = Lib.itoa k ++ (tailT (elT true T l wr) ++ e :: r) := by
        rw [dropC_same]
        have : Lib.itoa k = Lib.decDigits k.toNat := by unfold Lib.itoa; rw [if_neg (by omega)]
        rw [this]
        obtain ⟨b', q', hb', hd'⟩ := dec_ne k.toNat
        rw [hb', List.cons_append]
        refine drop_same ?_
        rintro rfl
        revert hd'
        decide
      rw [num_back hk.1 hk.2 (tail_noD e hed _ _) hdk]
      simp only [bindN]
      have := list_back (val := val) (T := T) (w := true) he32 he44 hed r l wr n [x] [k] (tailT (elT true T l wr) ++ e :: r) (by simp) (fun _ => by simpa using hwl) (fun h => by cases h) (fun y hy => h3 y (List.mem_cons_of_mem _ hy)) (by simpa using hn) (fun y hy => hv y (List.mem_cons_of_mem _ hy)) hT' ?_
      · rw [this]
        simp
      · cases hq : elT true T l wr with
        | nil => exact drop_same he32
        | cons t q => exact drop_same (by decide)
theorem elT_text (w : Bool) (c : Fun) : ∀ (l : List Val) (g : Nat → Fun) (i : Nat) (ws : List Int), (∀ j, g j = c) → (w = true → ws.length = l.length) → elT w (fun x => textV x c) l ws = if w then wtx (textL l g i) ws else textL l g i
  | [], g, i, ws, hg, hw => by
    rw [elT, textL]
    cases w
    · rfl
    · have : ws = [] := List.eq_nil_of_length_eq_zero (by simpa using hw rfl)
      subst this
      rfl
  | x :: r, g, i, ws, hg, hw => by
    have ih := elT_text w c r g (i + 1) ws.tail hg fun h => by have := hw h; rw [List.length_tail, this]; rfl
    rw [elT, textL, ih, hg]
    cases w
    · simp
    · have := hw rfl
      cases ws with
      | nil => simp at this
      | cons k q => simp [wtx]
theorem text_back {ex : Fun → List Val → List Int → Bool} {n : Int} (hn : n ≤ 1000000) : ∀ (N : Nat) (v : Val) (f : Fun), f.nodes ≤ N → shapedF f = true → okV ex n v f = true → ∀ s r, NoD r → dropC 32 s = textV v f ++ r → pV N f s = (some v, r)
  | 0, v, f, hN, _, _, s, r, _, _ => by have := f.nodes_pos; omega
  | N + 1, v, f, hN, hf, hok, s, r, hr, hs => by
    have ih := text_back (ex := ex) hn N
    have hok' := hok
    rw [okV_eq, Bool.and_eq_true, Bool.and_eq_true] at hok
    obtain ⟨⟨hh, _⟩, hokl⟩ := hok
    have hrg := head_range hf hn hh
    have hws := head_ws hh
    obtain ⟨hd1, hd2, hd3⟩ := head_num hh
    have hh' := hh
    unfold headL at hh'
    simp only [Bool.and_eq_true] at hh'
    obtain ⟨⟨q1, q2⟩, q3⟩ := hh'
    rw [textV_eq] at hs
    rw [pV]
    have hvm : v = .mk v.num v.args v.ws := v.eta
    rcases shaped_kind hf with ⟨h0, hl⟩ | ⟨h0, hl⟩ | ⟨h0, hl⟩ | ⟨h0, hl⟩ | h4
    · rw [if_pos (.inl h0)] at hs ⊢
      rw [num_back hrg.1 hrg.2.1 hr hs]
      have ha : v.args = [] := List.eq_nil_of_length_eq_zero (hd3 (.inl h0))
      have hw : v.ws = [] := hd2 (by rw [h0]; rfl)
      rw [ha, hw] at hvm
      rw [hvm]
      rfl
    · rw [if_pos (.inr h0)] at hs ⊢
      rw [num_back hrg.1 hrg.2.1 hr hs]
      have ha : v.args = [] := List.eq_nil_of_length_eq_zero (hd3 (.inr h0))
      have hw : v.ws = [] := hd2 (by rw [h0]; rfl)
      rw [ha, hw] at hvm
      rw [hvm]
      rfl
    · simp [h0, hl] at q1
      have a0 : 0 < v.args.length := by omega
      have a1 : 1 < v.args.length := by omega
      have f0 : 0 < f.args.length := by omega
      have f1 : 1 < f.args.length := by omega
      have g0 : argF f v.num 0 = f.args[0] := by unfold argF; rw [if_pos h0, List.getD_eq_getElem?_getD, List.getElem?_eq_getElem f0]; rfl
      have g1 : argF f v.num 1 = f.args[1] := by unfold argF; rw [if_pos h0, List.getD_eq_getElem?_getD, List.getElem?_eq_getElem f1]; rfl
      have o0 := okL_mem hokl 0 a0
      have o1 := okL_mem hokl 1 a1
      rw [Nat.zero_add] at o0 o1
      rw [g0] at o0
      rw [g1] at o1
      have d0 : f.args.getD 0 fun0 = f.args[0] := by rw [List.getD_eq_getElem?_getD, List.getElem?_eq_getElem f0]; rfl
      have d1 : f.args.getD 1 fun0 = f.args[1] := by rw [List.getD_eq_getElem?_getD, List.getElem?_eq_getElem f1]; rfl
      have n0 := Fun.nodes_arg (List.getElem_mem f0)
      have n1 := Fun.nodes_arg (List.getElem_mem f1)
      obtain ⟨x, y, hxy⟩ : ∃ x y, v.args = [x, y] := by
        match h : v.args, q1 with
        | [x, y], _ => exact ⟨x, y, rfl⟩
      have hx : v.args[0] = x := by simp only [hxy]; rfl
      have hy : v.args[1] = y := by simp only [hxy]; rfl
      rw [hx] at o0
      rw [hy] at o1
      rw [if_neg (by omega)] at hs ⊢
      rw [if_pos h0, d0, d1]
      have hT : textL v.args (argF f v.num) 0 = [textV x f.args[0], textV y f.args[1]] := by
        rw [hxy, textL, textL, textL, g0, g1]
      rw [hT] at hs
      unfold aroundV at hs
      rw [if_pos h0] at hs
      simp only [joinC] at hs
      obtain ⟨bx, qx, tx, hbx, _⟩ := text_head x f.args[0] o0 hn (shaped_arg hf f0)
      obtain ⟨by_, qy, ty, hby, _⟩ := text_head y f.args[1] o1 hn (shaped_arg hf f1)
      have hs1 : dropC 32 s = (40 : UInt8) :: (textV x f.args[0] ++ (([44, 32] : List UInt8) ++ (textV y f.args[1] ++ (41 : UInt8) :: r))) := by rw [hs]; simp
      unfold takeC
      rw [isC_yes hs1]
      simp only [if_true]
      have e1 := ih x f.args[0] (by omega) (shaped_arg hf f0) o0 (textV x f.args[0] ++ (([44, 32] : List UInt8) ++ (textV y f.args[1] ++ 41 :: r))) (44 :: 32 :: (textV y f.args[1] ++ (41 : UInt8) :: r)) (digN_cons (b := 44) (by decide) _) (by rw [tx, List.cons_append]; exact drop_same hbx)
      rw [e1]
      simp only [bindV]
      have e2 : dropC 32 ((44 : UInt8) :: 32 :: (textV y f.args[1] ++ (41 : UInt8) :: r)) = (44 : UInt8) :: 32 :: (textV y f.args[1] ++ (41 : UInt8) :: r) := drop_same (by decide)
      rw [isC_yes e2]
      simp only [if_true]
      have e3 := ih y f.args[1] (by omega) (shaped_arg hf f1) o1 (32 :: (textV y f.args[1] ++ 41 :: r)) (41 :: r) (digN_cons (b := 41) (by decide) _) (by rw [dropC_same, ty, List.cons_append]; exact drop_same hby)
      rw [e3]
      have e4 : dropC 32 ((41 : UInt8) :: r) = (41 : UInt8) :: r := drop_same (by decide)
      simp only [isC_yes e4, if_true]
      have hw : v.ws = [] := hd2 (by rw [h0]; rfl)
      have hz : v.num = 0 := hd1 (by omega) (by omega) (by omega)
      rw [hxy, hw, hz] at hvm
      rw [hvm]
    · simp [h0] at q1
      have a0 : 0 < v.args.length := by omega
      have f0 : 0 < f.args.length := by omega
      have f1 : 1 < f.args.length := by omega
      have d0 : f.args.getD 0 fun0 = f.args[0] := by rw [List.getD_eq_getElem?_getD, List.getElem?_eq_getElem f0]; rfl
      have d1 : f.args.getD 1 fun0 = f.args[1] := by rw [List.getD_eq_getElem?_getD, List.getElem?_eq_getElem f1]; rfl
      have n0 := Fun.nodes_arg (List.getElem_mem f0)
      have n1 := Fun.nodes_arg (List.getElem_mem f1)
      have o0 := okL_mem hokl 0 a0
      rw [Nat.zero_add] at o0
      obtain ⟨x, hxy⟩ : ∃ x, v.args = [x] := by
        match h : v.args, q1.2 with
        | [x], _ => exact ⟨x, rfl⟩
      have hx : v.args[0] = x := by simp only [hxy]; rfl
      rw [hx] at o0
      have hw : v.ws = [] := hd2 (by rw [h0]; rfl)
      rw [if_neg (by omega)] at hs ⊢
      rw [if_neg (by omega), if_pos h0, d0, d1]
      rw [hxy, textL, textL] at hs
      unfold aroundV at hs
      rw [if_neg (by omega), if_pos h0] at hs
      simp only [List.headD_cons] at hs
      by_cases cn : v.num = 0
      · have g0 : argF f v.num 0 = f.args[0] := by unfold argF; rw [if_neg (by omega), if_pos h0, cn, List.getD_eq_getElem?_getD, List.getElem?_eq_getElem (by simpa using f0)]; rfl
        rw [g0] at o0 hs
        rw [if_pos cn] at hs
        obtain ⟨bx, qx, tx, hbx, _⟩ := text_head x f.args[0] o0 hn (shaped_arg hf f0)
        have hs1 : dropC 32 s = (108 : UInt8) :: 32 :: (textV x f.args[0] ++ r) := hs
        rw [isC_yes hs1]
        simp only [if_true]
        rw [ih x f.args[0] (by omega) (shaped_arg hf f0) o0 (32 :: (textV x f.args[0] ++ r)) r hr (by rw [dropC_same, tx, List.cons_append]; exact drop_same hbx)]
        rw [hxy, hw, cn] at hvm
        rw [hvm]
        rfl
      · have cm : v.num = 1 := by omega
        have g0 : argF f v.num 0 = f.args[1] := by unfold argF; rw [if_neg (by omega), if_pos h0, cm, List.getD_eq_getElem?_getD, List.getElem?_eq_getElem (by simpa using f1)]; rfl
        rw [g0] at o0 hs
        rw [if_neg cn] at hs
        obtain ⟨bx, qx, tx, hbx, _⟩ := text_head x f.args[1] o0 hn (shaped_arg hf f1)
        have hs1 : dropC 32 s = (114 : UInt8) :: 32 :: (textV x f.args[1] ++ r) := hs
        rw [isC_no hs1 (by decide)]
        simp only [Bool.false_eq_true, if_false]
        have e2 : dropC 32 ((114 : UInt8) :: 32 :: (textV x f.args[1] ++ r)) = (114 : UInt8) :: 32 :: (textV x f.args[1] ++ r) := drop_same (by decide)
        unfold takeC
        rw [isC_yes e2]
        simp only [if_true]
        rw [ih x f.args[1] (by omega) (shaped_arg hf f1) o0 (32 :: (textV x f.args[1] ++ r)) r hr (by rw [dropC_same, tx, List.cons_append]; exact drop_same hbx)]
        rw [hxy, hw, cm] at hvm
        rw [hvm]
        rfl
    · have hk : 4 ≤ f.kind ∧ f.args.length = 1 := by omega
      have f0 : 0 < f.args.length := by omega
      have d0 : f.args.getD 0 fun0 = f.args[0] := by rw [List.getD_eq_getElem?_getD, List.getElem?_eq_getElem f0]; rfl
      have n0 := Fun.nodes_arg (List.getElem_mem f0)
      have hg : ∀ j, argF f v.num j = f.args[0] := fun j => by
        unfold argF
        rw [if_neg (by omega), if_neg (by omega), List.getD_eq_getElem?_getD, List.getElem?_eq_getElem f0]
        rfl
      have hz : v.num = 0 := hd1 (by omega) (by omega) (by omega)
      have oi : ∀ x, x ∈ v.args → okV ex n x f.args[0] = true := fun x hx => by
        obtain ⟨j, hj, rfl⟩ := List.getElem_of_mem hx
        have := okL_mem hokl j hj
        rwa [hg] at this
      have hv : ∀ x, x ∈ v.args → ∀ s r, NoD r → dropC 32 s = (fun x => textV x f.args[0]) x ++ r → pV N f.args[0] s = (some x, r) := fun x hx s r hr hs => ih x f.args[0] (by omega) (shaped_arg hf f0) (oi x hx) s r hr hs
      have hT : ∀ (e : UInt8), e = 93 ∨ e = 125 → ∀ x, x ∈ v.args → ∃ b q, (fun x => textV x f.args[0]) x = b :: q ∧ ¬ b = 32 ∧ ¬ b = e := fun e he x hx => by
        obtain ⟨b, q, h1, h2, h3, h4, _⟩ := text_head x f.args[0] (oi x hx) hn (shaped_arg hf f0)
        exact ⟨b, q, h1, h2, by rcases he with rfl | rfl <;> assumption⟩
      have hjl : v.args.length ≤ (joinC (elT (decide (6 ≤ f.kind)) (fun x => textV x f.args[0]) v.args v.ws)).length := by
        have : ∀ (l : List Val) (ws : List Int), (∀ x, x ∈ l → ∃ b q, textV x f.args[0] = b :: q) → l.length ≤ (joinC (elT (decide (6 ≤ f.kind)) (fun x => textV x f.args[0]) l ws)).length ∧ l.length ≤ (tailT (elT (decide (6 ≤ f.kind)) (fun x => textV x f.args[0]) l ws)).length := by
          intro l
          induction l with
          | nil => intro ws _; exact ⟨Nat.zero_le _, Nat.zero_le _⟩
          | cons x r ihl =>
            intro ws hx
            obtain ⟨b, q, h1⟩ := hx x List.mem_cons_self
            have := (ihl ws.tail fun y hy => hx y (List.mem_cons_of_mem _ hy)).2
            rw [elT, join_tail, tailT, h1]
            simp only [List.cons_append, List.length_cons, List.length_append]
            omega
        exact (this v.args v.ws fun x hx => by
          obtain ⟨b, q, h1, _⟩ := hT 93 (.inl rfl) x hx
          exact ⟨b, q, h1⟩).1
      have hwl : decide (6 ≤ f.kind) = true → v.ws.length = v.args.length := fun h => hws.2 (by
        unfold wtd
        simp at h ⊢
        have := shaped_kind hf
        omega)
      have hwf : decide (6 ≤ f.kind) = false → v.ws = [] := fun h => hd2 (by
        unfold wtd
        simp at h ⊢
        omega)
      have hwk : ∀ k, k ∈ v.ws → 0 ≤ k ∧ k < 10000000 := fun k hk => by have := hws.1 k hk; omega
      have hel := elT_text (decide (6 ≤ f.kind)) f.args[0] v.args (argF f v.num) 0 v.ws hg hwl
      rw [if_neg (by omega)] at hs ⊢
      rw [if_neg (by omega), if_neg (by omega), d0]
      unfold aroundV at hs
      rw [if_neg (by omega), if_neg (by omega)] at hs
      by_cases hk4 : f.kind = 4
      · rw [if_pos hk4] at hs ⊢
        have h6 : decide (6 ≤ f.kind) = false := by simp; omega
        rw [h6] at hel hjl hwl hwf
        simp only [Bool.false_eq_true, if_false] at hel
        rw [← hel] at hs
        have hs1 : dropC 32 s = (91 : UInt8) :: (joinC (elT false (fun x => textV x f.args[0]) v.args v.ws) ++ 93 :: r) := by rw [hs]; simp
        unfold takeC
        rw [isC_yes hs1]
        simp only [if_true]
        have hdj : dropC 32 (joinC (elT false (fun x => textV x f.args[0]) v.args v.ws) ++ 93 :: r) = joinC (elT false (fun x => textV x f.args[0]) v.args v.ws) ++ 93 :: r := by
          cases hva : v.args with
          | nil => rw [elT]; exact drop_same (by decide)
          | cons x q =>
            obtain ⟨b, q', h1, h2, _⟩ := hT 93 (.inl rfl) x (by rw [hva]; exact List.mem_cons_self)
            simp only at h1
            rw [elT, join_tail]
            simp only [h1, List.cons_append]
            exact drop_same h2
        rw [list_back0 (by decide) (by decide) (by decide) r v.args v.ws _ _ (fun h => by cases h) (fun _ => hwf rfl) hwk (by simp only [List.length_append, List.length_cons]; omega) hv (hT 93 (.inl rfl)) hdj]
        simp only [bindV, Val.args_mk]
        simp [hk4] at q1
        refine (if_pos q1.symm).trans ?_
        rw [hz] at hvm
        rw [← hvm]
      · rw [if_neg hk4] at hs ⊢
        have hs1 : dropC 32 s = (123 : UInt8) :: (joinC (elT (decide (6 ≤ f.kind)) (fun x => textV x f.args[0]) v.args v.ws) ++ 125 :: r) := by
          rw [hs, hel]
          unfold elemsT
          by_cases h6 : 6 ≤ f.kind
          · rw [if_pos h6, if_pos (by simpa using h6)]; simp
          · rw [if_neg h6, if_neg (by simpa using h6)]; simp
        unfold takeC
        rw [isC_yes hs1]
        simp only [if_true]
        have hdj : dropC 32 (joinC (elT (decide (6 ≤ f.kind)) (fun x => textV x f.args[0]) v.args v.ws) ++ 125 :: r) = joinC (elT (decide (6 ≤ f.kind)) (fun x => textV x f.args[0]) v.args v.ws) ++ 125 :: r := by
          cases hva : v.args with
          | nil => rw [elT]; exact drop_same (by decide)
          | cons x q =>
            obtain ⟨b, q', h1, h2, _⟩ := hT 125 (.inr rfl) x (by rw [hva]; exact List.mem_cons_self)
            simp only at h1
            rw [elT, join_tail]
            simp only [h1, List.cons_append]
            exact drop_same h2
        rw [list_back0 (by decide) (by decide) (by decide) r v.args v.ws _ _ hwl hwf hwk (by simp only [List.length_append, List.length_cons]; omega) hv (hT 125 (.inr rfl)) hdj]
        rw [hz] at hvm
        rw [← hvm]
/-- The string of a value is read back. -/
theorem read_back {ex : Fun → List Val → List Int → Bool} {n : Int} (hn : n ≤ 1000000) {v : Val} {f : Fun} (hf : shapedF f = true) (hok : okV ex n v f = true) : readV f (textV v f) = (v, true) := by
  unfold readV
  obtain ⟨b, q, h1, h2, _⟩ := text_head v f hok hn hf
  have hd : dropC 32 (textV v f) = textV v f ++ [] := by rw [List.append_nil, h1]; exact drop_same h2
  rw [text_back hn f.nodes v f (Nat.le_refl _) hf hok (textV v f) [] rfl hd]
  rfl
end AE
end Go.Proofs.YthoomlenmgdebaaGreatDoor
