/- The reference's parser of functors. Printed in part by mkAR3.py. -/
import Derived.Test.YtbgppidldpepaaaDoorAR2
set_option linter.unusedVariables false
set_option linter.unusedSimpArgs false
namespace Go.Proofs.YtbgppidldpepaaaDoor
namespace AE
open Go

def kindR (s : RS) : Int := if s.1.head? = some [80] then 5 else if s.1.head? = some [66] then 6 else if s.1.head? = some [68] then 7 else -1
/-- What stands in brackets. -/
def inR (fn : RS → Fun × RS) (s : RS) : Fun × RS := ((fn (takeR [40] s)).1, takeR [41] (fn (takeR [40] s)).2)
def atomR (fn : RS → Fun × RS) (s : RS) : Fun × RS :=
  if s.2 then (.mk 0 0 [], s)
  else if s.1.head? = some [88] then (.mk 0 0 [], takeR [88] s)
  else if 0 ≤ kindR s then (.mk (kindR s) 0 [(inR fn (s.1.tail, s.2)).1], (inR fn (s.1.tail, s.2)).2)
  else if s.1.head? = some [40] then inR fn s
  else (.mk 1 (numR (digR s).1) [], (digR s).2)
def opR (fn : RS → Fun × RS) (s : RS) : Fun × RS :=
  let x := atomR fn s
  if x.2.1.head? = some [94] then (.mk 4 (numR (digR (takeR [94] x.2)).1) [x.1], (digR (takeR [94] x.2)).2) else x
def twoR (fn : RS → Fun × RS) (k : Int) (f : Fun) (s : RS) : Fun × RS := (.mk k 0 [f, (opR fn s).1], (opR fn s).2)
def funR : Nat → RS → Fun × RS
  | 0, s => (.mk 0 0 [], s)
  | n + 1, s =>
    let x := opR (funR n) s
    if x.2.1.head? = some [42] then twoR (funR n) 2 x.1 (takeR [42] x.2)
    else if x.2.1.head? = some [43] then twoR (funR n) 3 x.1 (takeR [43] x.2)
    else x

@[simp] theorem closed_rd (nb nr : Nat) (s : RS) : (rd s).all (closed nb nr) = true := by
  obtain ⟨l, b⟩ := s
  simp
section
variable {fn : RS → Fun × RS} (hf : ∀ s, (fn s).2.1 <:+ s.1)
include hf
theorem inR_suffix (s : RS) : (inR fn s).2.1 <:+ s.1 := by
  unfold inR
  exact (takeR_suffix _ _).trans ((hf _).trans (takeR_suffix _ _))
theorem atomR_suffix (s : RS) : (atomR fn s).2.1 <:+ s.1 := by
  unfold atomR
  split
  · exact List.suffix_refl _
  · split
    · exact takeR_suffix _ _
    · split
      · exact (inR_suffix hf _).trans (List.tail_suffix _)
      · split
        · exact inR_suffix hf _
        · exact digR_suffix _
theorem opR_suffix (s : RS) : (opR fn s).2.1 <:+ s.1 := by
  unfold opR
  simp only
  split
  · exact (digR_suffix _).trans ((takeR_suffix _ _).trans (atomR_suffix hf s))
  · exact atomR_suffix hf s
theorem twoR_suffix (k : Int) (f : Fun) (s : RS) : (twoR fn k f s).2.1 <:+ s.1 := opR_suffix hf s
end
theorem funR_suffix : ∀ n s, (funR n s).2.1 <:+ s.1
  | 0, s => by rw [funR]; exact List.suffix_refl _
  | n + 1, s => by
    have h := opR_suffix (funR_suffix n) s
    rw [funR]
    try simp only
    split
    · exact (twoR_suffix (funR_suffix n) _ _ _).trans ((takeR_suffix _ _).trans h)
    · split
      · exact (twoR_suffix (funR_suffix n) _ _ _).trans ((takeR_suffix _ _).trans h)
      · exact h

/-- The reader's functor, at fewer than n tokens. -/
def FnOk (id : Nat) (fn : RS → Fun × RS) (n : Nat) : Prop := ∀ (s : RS) (m : Mem), TkOk s.1 → s.1.length ≤ 1000000 → s.1.length < n → m.bx[id]? = some (rd s) → evCall C0 22 [.ptr id 0] m = some (.ret (.agg (fn s).1.cells), ⟨m.bx.set id (rd (fn s).2), m.rw⟩)
theorem digR_ok {s : RS} (h : TkOk s.1) : (digR s).1.length ≤ 1000000 ∧ ∀ b, b ∈ (digR s).1 → isDig b = true := by
  have h0 : ∀ b : UInt8, b ∈ [(48 : UInt8)] → isDig b = true := by intro b hb; simp at hb; subst hb; rfl
  unfold digR
  split
  · rename_i c r q he
    obtain ⟨c', r', e1, e2, e3⟩ := h (c :: r) (by rw [he]; simp)
    cases e1
    split
    · rename_i hd
      exact ⟨e2, e3 hd⟩
    · exact ⟨by simp, h0⟩
  · exact ⟨by simp, h0⟩
theorem tail_lt {l : List (List UInt8)} {t : List UInt8} (h : l.head? = some t) : l.tail.length < l.length := by
  cases l with
  | nil => cases h
  | cons a r => simp
theorem takeR_lt {s : RS} {t : List UInt8} (h : s.1.head? = some t) : (takeR t s).1.length < s.1.length := by
  unfold takeR
  rw [if_pos h]
  exact tail_lt h

set_option maxHeartbeats 4000000 in
theorem ev_atom {id n : Nat} {fn : RS → Fun × RS} (hfs : ∀ s, (fn s).2.1 <:+ s.1) (hfn : FnOk id fn n) (s : RS) (m : Mem) (hk : TkOk s.1) (hl : s.1.length ≤ 1000000) (hn : s.1.length ≤ n) (hbx : m.bx[id]? = some (rd s)) :
    evCall C0 50 [.ptr id 0] m = some (.ret (.agg (atomR fn s).1.cells), ⟨m.bx.set id (rd (atomR fn s).2), m.rw⟩) := by
  have hid : id < m.bx.length := (List.getElem?_eq_some_iff.1 hbx).1
  have hg : m.bx[id] = rd s := (List.getElem?_eq_some_iff.1 hbx).2
  have hrs : ∀ b, rd (s.1, b) = [.isl false s.1.length (strs s.1), .bool b] := fun b => rfl
  have hs2 : rd s = [.isl false s.1.length (strs s.1), .bool s.2] := rfl
  have hset : m.bx.set id (rd s) = m.bx := by rw [← hg]; exact List.set_getElem_self hid
  unfold atomR
  rw [evCall_body C0 (C0_ext _ (by decide)) (by rw [C0_P]; exact Tryd.func50) rfl (by rw [C0_ann]; rfl) (by decide) (by simp [Tryd.f50])]
  cases hb : s.2 with
  | true =>
    simp [Tryd.f50, evOps_cons, wantA_some, argsTm, ann_keep_50, ann_recov_50, ann_reg_50, reg50, hid, hg, hs2, hb, at_lt]
    rw [← hb, ← hs2, hset]
  | false =>
  simp only [Bool.false_eq_true, if_false]
  have hbm : (⟨m.bx ++ [[.int .i64 0, .int .i64 0, .nils]], m.rw⟩ : Mem).bx[id]? = some (rd s) := by simp [at_lt, hid, hg]
  have s88 := ev_Sees id [88] s _ hl hbm
  have s80 := ev_Sees id [80] s _ hl hbm
  have s66 := ev_Sees id [66] s _ hl hbm
  have s68 := ev_Sees id [68] s _ hl hbm
  have s40 := ev_Sees id [40] s _ hl hbm
  by_cases c88 : s.1.head? = some [88]
  · rw [if_pos c88]
    have e1 := ev_Take id [88] s _ hl hbm
    generalize takeR [88] s = q at e1 ⊢
    rw [decide_eq_true c88] at s88
    simp [set_lt, hid] at s88 e1
    simp [Tryd.f50, evOps_cons, wantA_some, argsTm, ann_keep_50, ann_recov_50, ann_reg_50, reg50, at_lt, set_lt, hid, hg, hs2, hb, s88, e1, ev_Of0, leave_setb]
  rw [if_neg c88]
  rw [decide_eq_false c88] at s88
  by_cases c80 : s.1.head? = some [80]
  · have hkr : kindR s = 5 := by unfold kindR; rw [if_pos c80]
    rw [hkr, if_pos (by decide)]
    rw [decide_eq_true c80] at s80
    have htl := tail_lt c80
    have h1l : (1 : Int) ≤ s.1.length := by omega
    have hdr : (strs s.1).drop 1 = strs s.1.tail := by cases hs1 : s.1 <;> simp
    have e1 := ev_Take id [40] (s.1.tail, false) ⟨m.bx.set id (rd (s.1.tail, false)) ++ [[.int .i64 0, .int .i64 0, .nils]], m.rw⟩ (by simp only; omega) (by simp [at_lt, hid])
    have hts := (takeR_suffix [40] (s.1.tail, false)).length_le
    simp only at hts
    have e2 := hfn (takeR [40] (s.1.tail, false)) ⟨m.bx.set id (rd (takeR [40] (s.1.tail, false))) ++ [[.int .i64 0, .int .i64 0, .nils]], m.rw⟩ (hk.tail.suffix (takeR_suffix _ _)) (by omega) (by omega) (by simp [at_lt, hid])
    unfold inR
    have hls := (hfs (takeR [40] (s.1.tail, false))).length_le
    have e3 := ev_Take id [41] (fn (takeR [40] (s.1.tail, false))).2 ⟨m.bx.set id (rd (fn (takeR [40] (s.1.tail, false))).2) ++ [[.int .i64 0, .int .i64 0, .nils], (fn (takeR [40] (s.1.tail, false))).1.cells], m.rw⟩ (by omega) (by simp [at_lt, hid])
    generalize fn (takeR [40] (s.1.tail, false)) = y at e2 e3 hls ⊢
    generalize takeR [40] (s.1.tail, false) = q at e1 e2 hts ⊢
    generalize takeR [41] y.2 = z at e3 ⊢
    have e4 := ev_Of 5 0 true [y.1]
    simp [set_lt, hid] at s88 s80 e1 e2 e3
    simp [Fun.cellsL] at e4
    simp [Tryd.f50, evOps_cons, wantA_some, argsTm, ann_keep_50, ann_recov_50, ann_reg_50, reg50, at_lt, set_lt, hid, hg, hs2, hb, s88, s80, e1, e2, e3, e4, h1l, hdr, setCells, leave_setb]
  rw [decide_eq_false c80] at s80
  by_cases c66 : s.1.head? = some [66]
  · have hkr : kindR s = 6 := by unfold kindR; rw [if_neg c80]; rw [if_pos c66]
    rw [hkr, if_pos (by decide)]
    rw [decide_eq_true c66] at s66
    have htl := tail_lt c66
    have h1l : (1 : Int) ≤ s.1.length := by omega
    have hdr : (strs s.1).drop 1 = strs s.1.tail := by cases hs1 : s.1 <;> simp
    have e1 := ev_Take id [40] (s.1.tail, false) ⟨m.bx.set id (rd (s.1.tail, false)) ++ [[.int .i64 0, .int .i64 0, .nils]], m.rw⟩ (by simp only; omega) (by simp [at_lt, hid])
    have hts := (takeR_suffix [40] (s.1.tail, false)).length_le
    simp only at hts
    have e2 := hfn (takeR [40] (s.1.tail, false)) ⟨m.bx.set id (rd (takeR [40] (s.1.tail, false))) ++ [[.int .i64 0, .int .i64 0, .nils]], m.rw⟩ (hk.tail.suffix (takeR_suffix _ _)) (by omega) (by omega) (by simp [at_lt, hid])
    unfold inR
    have hls := (hfs (takeR [40] (s.1.tail, false))).length_le
    have e3 := ev_Take id [41] (fn (takeR [40] (s.1.tail, false))).2 ⟨m.bx.set id (rd (fn (takeR [40] (s.1.tail, false))).2) ++ [[.int .i64 0, .int .i64 0, .nils], (fn (takeR [40] (s.1.tail, false))).1.cells], m.rw⟩ (by omega) (by simp [at_lt, hid])
    generalize fn (takeR [40] (s.1.tail, false)) = y at e2 e3 hls ⊢
    generalize takeR [40] (s.1.tail, false) = q at e1 e2 hts ⊢
    generalize takeR [41] y.2 = z at e3 ⊢
    have e4 := ev_Of 6 0 true [y.1]
    simp [set_lt, hid] at s88 s80 s66 e1 e2 e3
    simp [Fun.cellsL] at e4
    simp [Tryd.f50, evOps_cons, wantA_some, argsTm, ann_keep_50, ann_recov_50, ann_reg_50, reg50, at_lt, set_lt, hid, hg, hs2, hb, s88, s80, s66, e1, e2, e3, e4, h1l, hdr, setCells, leave_setb]
  rw [decide_eq_false c66] at s66
  by_cases c68 : s.1.head? = some [68]
  · have hkr : kindR s = 7 := by unfold kindR; rw [if_neg c80]; rw [if_neg c66]; rw [if_pos c68]
    rw [hkr, if_pos (by decide)]
    rw [decide_eq_true c68] at s68
    have htl := tail_lt c68
    have h1l : (1 : Int) ≤ s.1.length := by omega
    have hdr : (strs s.1).drop 1 = strs s.1.tail := by cases hs1 : s.1 <;> simp
    have e1 := ev_Take id [40] (s.1.tail, false) ⟨m.bx.set id (rd (s.1.tail, false)) ++ [[.int .i64 0, .int .i64 0, .nils]], m.rw⟩ (by simp only; omega) (by simp [at_lt, hid])
    have hts := (takeR_suffix [40] (s.1.tail, false)).length_le
    simp only at hts
    have e2 := hfn (takeR [40] (s.1.tail, false)) ⟨m.bx.set id (rd (takeR [40] (s.1.tail, false))) ++ [[.int .i64 0, .int .i64 0, .nils]], m.rw⟩ (hk.tail.suffix (takeR_suffix _ _)) (by omega) (by omega) (by simp [at_lt, hid])
    unfold inR
    have hls := (hfs (takeR [40] (s.1.tail, false))).length_le
    have e3 := ev_Take id [41] (fn (takeR [40] (s.1.tail, false))).2 ⟨m.bx.set id (rd (fn (takeR [40] (s.1.tail, false))).2) ++ [[.int .i64 0, .int .i64 0, .nils], (fn (takeR [40] (s.1.tail, false))).1.cells], m.rw⟩ (by omega) (by simp [at_lt, hid])
    generalize fn (takeR [40] (s.1.tail, false)) = y at e2 e3 hls ⊢
    generalize takeR [40] (s.1.tail, false) = q at e1 e2 hts ⊢
    generalize takeR [41] y.2 = z at e3 ⊢
    have e4 := ev_Of 7 0 true [y.1]
    simp [set_lt, hid] at s88 s80 s66 s68 e1 e2 e3
    simp [Fun.cellsL] at e4
    simp [Tryd.f50, evOps_cons, wantA_some, argsTm, ann_keep_50, ann_recov_50, ann_reg_50, reg50, at_lt, set_lt, hid, hg, hs2, hb, s88, s80, s66, s68, e1, e2, e3, e4, h1l, hdr, setCells, leave_setb]
  rw [decide_eq_false c68] at s68
  have hkr : kindR s = -1 := by unfold kindR; rw [if_neg c80, if_neg c66, if_neg c68]
  rw [if_neg (by rw [hkr]; decide)]
  by_cases c40 : s.1.head? = some [40]
  · rw [if_pos c40]
    rw [decide_eq_true c40] at s40
    have e1 := ev_Take id [40] s _ hl hbm
    have hlt := takeR_lt c40
    have e2 := hfn (takeR [40] s) ⟨m.bx.set id (rd (takeR [40] s)) ++ [[.int .i64 0, .int .i64 0, .nils]], m.rw⟩ (hk.suffix (takeR_suffix _ _)) (by omega) (by omega) (by simp [at_lt, hid])
    unfold inR
    have hls := (hfs (takeR [40] s)).length_le
    have e3 := ev_Take id [41] (fn (takeR [40] s)).2 ⟨m.bx.set id (rd (fn (takeR [40] s)).2) ++ [[.int .i64 0, .int .i64 0, .nils], (fn (takeR [40] s)).1.cells], m.rw⟩ (by omega) (by simp [at_lt, hid])
    generalize fn (takeR [40] s) = y at e2 e3 hls ⊢
    generalize takeR [40] s = q at e1 e2 hlt ⊢
    generalize takeR [41] y.2 = z at e3 ⊢
    simp [set_lt, hid] at s88 s80 s66 s68 s40 e1 e2 e3
    simp [Tryd.f50, evOps_cons, wantA_some, argsTm, ann_keep_50, ann_recov_50, ann_reg_50, reg50, at_lt, set_lt, hid, hg, hs2, hb, s88, s80, s66, s68, s40, e1, e2, e3, leave_setb]
  · rw [if_neg c40]
    rw [decide_eq_false c40] at s40
    have e1 := ev_RDigits id s _ hl hk hbm
    have hdg := digR_ok hk
    have e2 := ev_Number (digR s).1 hdg.1 hdg.2
    generalize digR s = d at e1 e2 hdg ⊢
    simp [set_lt, hid] at s88 s80 s66 s68 s40 e1
    simp [Tryd.f50, evOps_cons, wantA_some, argsTm, ann_keep_50, ann_recov_50, ann_reg_50, reg50, at_lt, set_lt, hid, hg, hs2, hb, s88, s80, s66, s68, s40, e1, e2, ev_Of0, leave_setb]
theorem wrap2 : IntKind.i64.wrap 2 = 2 := by decide
theorem numR_ev {id : Nat} (s : RS) (hk : TkOk s.1) (m : Mem) : evCall C0 51 [.str (digR s).1] m = some (.ret (.int .i64 (numR (digR s).1)), m) := ev_Number _ (digR_ok hk).1 (digR_ok hk).2 m
set_option maxHeartbeats 4000000 in
theorem ev_op {id n : Nat} {fn : RS → Fun × RS} (hfs : ∀ s, (fn s).2.1 <:+ s.1) (hfn : FnOk id fn n) (s : RS) (m : Mem) (hk : TkOk s.1) (hl : s.1.length ≤ 1000000) (hn : s.1.length ≤ n) (hbx : m.bx[id]? = some (rd s)) :
    evCall C0 35 [.ptr id 0] m = some (.ret (.agg (opR fn s).1.cells), ⟨m.bx.set id (rd (opR fn s).2), m.rw⟩) := by
  have hid : id < m.bx.length := (List.getElem?_eq_some_iff.1 hbx).1
  have hg : m.bx[id] = rd s := (List.getElem?_eq_some_iff.1 hbx).2
  unfold opR
  rw [evCall_body C0 (C0_ext _ (by decide)) (by rw [C0_P]; exact Tryd.func35) rfl (by rw [C0_ann]; rfl) (by decide) (by simp [Tryd.f35])]
  have e1 := ev_atom hfs hfn s ⟨m.bx ++ [[.int .i64 0, .int .i64 0, .nils]], m.rw⟩ hk hl hn (by simp [at_lt, hid, hg])
  have hsu := atomR_suffix hfs s
  have hsl := hsu.length_le
  generalize atomR fn s = x at e1 hsu hsl ⊢
  simp only
  have e2 := ev_Sees id [94] x.2 ⟨m.bx.set id (rd x.2) ++ [[.int .i64 0, .int .i64 0, .nils], x.1.cells], m.rw⟩ (by omega) (by simp [at_lt, hid])
  by_cases c : x.2.1.head? = some [94]
  · rw [if_pos c]
    rw [decide_eq_true c] at e2
    have e3 := ev_Take id [94] x.2 ⟨m.bx.set id (rd x.2) ++ [[.int .i64 0, .int .i64 0, .nils], x.1.cells], m.rw⟩ (by omega) (by simp [at_lt, hid])
    have hts := takeR_suffix [94] x.2
    have htl := hts.length_le
    have hkt : TkOk (takeR [94] x.2).1 := (hk.suffix hsu).suffix hts
    have e4 := ev_RDigits id (takeR [94] x.2) ⟨m.bx.set id (rd (takeR [94] x.2)) ++ [[.int .i64 0, .int .i64 0, .nils], x.1.cells], m.rw⟩ (by omega) hkt (by simp [at_lt, hid])
    have e5 := numR_ev (id := id) (takeR [94] x.2) hkt
    generalize takeR [94] x.2 = q at e3 e4 e5 ⊢
    generalize digR q = d at e4 e5 ⊢
    have e6 := ev_Of 4 (numR d.1) true [x.1]
    simp [Fun.cellsL] at e6
    simp [set_lt, hid] at e1 e2 e3 e4
    simp [Tryd.f35, evOps_cons, wantA_some, argsTm, ann_keep_35, ann_recov_35, ann_reg_35, reg35, ann_draw_35, draw35, ann_dok_35, dok35, evDraw_cons, drawEnd, chkNeed, kindS, isEff, at_lt, set_lt, hid, e1, e2, e3, e4, e5, e6, leave_setb]
  · rw [if_neg c]
    rw [decide_eq_false c] at e2
    simp [set_lt, hid] at e1 e2
    simp [Tryd.f35, evOps_cons, wantA_some, argsTm, ann_keep_35, ann_recov_35, ann_reg_35, reg35, ann_draw_35, draw35, ann_dok_35, dok35, evDraw_cons, drawEnd, chkNeed, kindS, isEff, at_lt, set_lt, hid, e1, e2, leave_setb]
set_option maxHeartbeats 8000000 in
theorem ev_fun (id : Nat) : ∀ n, FnOk id (funR n) n := by
  intro n
  induction n with
  | zero => intro s m hk hl hn; omega
  | succ n ih =>
  intro s m hk hl hn hbx
  have hid : id < m.bx.length := (List.getElem?_eq_some_iff.1 hbx).1
  have hg : m.bx[id] = rd s := (List.getElem?_eq_some_iff.1 hbx).2
  have hid2 : id < m.bx.length + 2 := by omega
  rw [funR]
  rw [evCall_body C0 (C0_ext _ (by decide)) (by rw [C0_P]; exact Tryd.func22) rfl (by rw [C0_ann]; rfl) (by decide) (by simp [Tryd.f22])]
  have e1 := ev_op (funR_suffix n) ih s ⟨m.bx ++ [[.int .i64 0, .int .i64 0, .nils]], m.rw⟩ hk hl (by omega) (by simp [at_lt, hid, hg])
  have hsu := opR_suffix (funR_suffix n) s
  have hsl := hsu.length_le
  have hkx := hk.suffix hsu
  generalize opR (funR n) s = x at e1 hsu hsl hkx ⊢
  try simp only
  have e2 := ev_Sees id [42] x.2 ⟨m.bx.set id (rd x.2) ++ [[.int .i64 0, .int .i64 0, .nils], x.1.cells], m.rw⟩ (by omega) (by simp [at_lt, hid])
  have e3 := ev_Sees id [43] x.2 ⟨m.bx.set id (rd x.2) ++ [[.int .i64 0, .int .i64 0, .nils], x.1.cells], m.rw⟩ (by omega) (by simp [at_lt, hid])
  by_cases c42 : x.2.1.head? = some [42]
  · rw [if_pos c42]
    rw [decide_eq_true c42] at e2
    have e4 := ev_Take id [42] x.2 ⟨m.bx.set id (rd x.2) ++ [[.int .i64 0, .int .i64 0, .nils], x.1.cells], m.rw⟩ (by omega) (by simp [at_lt, hid])
    have hts := takeR_suffix [42] x.2
    have htl := hts.length_le
    have e5 := ev_op (funR_suffix n) ih (takeR [42] x.2) ⟨m.bx.set id (rd (takeR [42] x.2)) ++ [[.int .i64 0, .int .i64 0, .nils], x.1.cells], m.rw⟩ (hkx.suffix hts) (by omega) (by omega) (by simp [at_lt, hid])
    unfold twoR
    generalize takeR [42] x.2 = q at e4 e5 ⊢
    generalize opR (funR n) q = y at e5 ⊢
    have e6 := ev_Of 2 0 true [x.1, y.1]
    simp [Fun.cellsL] at e6
    simp [set_lt, hid] at e1 e2 e4 e5
    simp [Tryd.f22, evOps_cons, wantA_some, argsTm, ann_keep_22, ann_recov_22, ann_reg_22, reg22, ann_loop_22, loop22, headId, endRound_L, endRound_S, ann_draw_22, draw22, ann_dok_22, dok22, evDraw_cons, drawEnd, chkNeed, kindS, isEff, at_lt, set_lt, hid, e1]
    rw [evCode_loop]
    simp [round, Tryd.f22, evOps_cons, wantA_some, argsTm, ann_keep_22, ann_recov_22, ann_reg_22, reg22, ann_loop_22, loop22, headId, endRound_L, endRound_S, ann_draw_22, draw22, ann_dok_22, dok22, evDraw_cons, drawEnd, chkNeed, kindS, isEff, at_lt, set_lt, hid, e2, e4, e5, e6, leave_setb]
  rw [if_neg c42]
  rw [decide_eq_false c42] at e2
  by_cases c43 : x.2.1.head? = some [43]
  · rw [if_pos c43]
    rw [decide_eq_true c43] at e3
    have e4 := ev_Take id [43] x.2 ⟨m.bx.set id (rd x.2) ++ [[.int .i64 0, .int .i64 0, .nils], x.1.cells], m.rw⟩ (by omega) (by simp [at_lt, hid])
    have hts := takeR_suffix [43] x.2
    have htl := hts.length_le
    have e5 := ev_op (funR_suffix n) ih (takeR [43] x.2) ⟨m.bx.set id (rd (takeR [43] x.2)) ++ [[.int .i64 0, .int .i64 0, .nils], x.1.cells], m.rw⟩ (hkx.suffix hts) (by omega) (by omega) (by simp [at_lt, hid])
    unfold twoR
    generalize takeR [43] x.2 = q at e4 e5 ⊢
    generalize opR (funR n) q = y at e5 ⊢
    have e6 := ev_Of 3 0 true [x.1, y.1]
    simp [Fun.cellsL] at e6
    simp [set_lt, hid] at e1 e2 e3 e4 e5
    simp [Tryd.f22, evOps_cons, wantA_some, argsTm, ann_keep_22, ann_recov_22, ann_reg_22, reg22, ann_loop_22, loop22, headId, endRound_L, endRound_S, ann_draw_22, draw22, ann_dok_22, dok22, evDraw_cons, drawEnd, chkNeed, kindS, isEff, at_lt, set_lt, hid, e1]
    rw [evCode_loop]
    simp [round, Tryd.f22, evOps_cons, wantA_some, argsTm, ann_keep_22, ann_recov_22, ann_reg_22, reg22, ann_loop_22, loop22, headId, endRound_L, endRound_S, ann_draw_22, draw22, ann_dok_22, dok22, evDraw_cons, drawEnd, chkNeed, kindS, isEff, at_lt, set_lt, hid, e2, endRound_M0, hid2]
    rw [evCode_loop]
    simp [round, Tryd.f22, evOps_cons, wantA_some, argsTm, ann_keep_22, ann_recov_22, ann_reg_22, reg22, ann_loop_22, loop22, headId, endRound_L, endRound_S, ann_draw_22, draw22, ann_dok_22, dok22, evDraw_cons, drawEnd, chkNeed, kindS, isEff, at_lt, set_lt, hid, e3, e4, e5, e6, leave_setb]
  · rw [if_neg c43]
    rw [decide_eq_false c43] at e3
    simp [set_lt, hid] at e1 e2 e3
    simp [Tryd.f22, evOps_cons, wantA_some, argsTm, ann_keep_22, ann_recov_22, ann_reg_22, reg22, ann_loop_22, loop22, headId, endRound_L, endRound_S, ann_draw_22, draw22, ann_dok_22, dok22, evDraw_cons, drawEnd, chkNeed, kindS, isEff, at_lt, set_lt, hid, e1]
    rw [evCode_loop]
    simp [round, Tryd.f22, evOps_cons, wantA_some, argsTm, ann_keep_22, ann_recov_22, ann_reg_22, reg22, ann_loop_22, loop22, headId, endRound_L, endRound_S, ann_draw_22, draw22, ann_dok_22, dok22, evDraw_cons, drawEnd, chkNeed, kindS, isEff, at_lt, set_lt, hid, e2, endRound_M0, hid2]
    rw [evCode_loop]
    simp [round, Tryd.f22, evOps_cons, wantA_some, argsTm, ann_keep_22, ann_recov_22, ann_reg_22, reg22, ann_loop_22, loop22, headId, endRound_L, endRound_S, ann_draw_22, draw22, ann_dok_22, dok22, evDraw_cons, drawEnd, chkNeed, kindS, isEff, at_lt, set_lt, hid, e3, endRound_M0, hid2, wrap2]
    rw [evCode_loop]
    simp [round, Tryd.f22, evOps_cons, wantA_some, argsTm, ann_keep_22, ann_recov_22, ann_reg_22, reg22, ann_loop_22, loop22, headId, endRound_L, endRound_S, ann_draw_22, draw22, ann_dok_22, dok22, evDraw_cons, drawEnd, chkNeed, kindS, isEff, at_lt, set_lt, hid, wrap2, leave_setb]
end AE
end Go.Proofs.YtbgppidldpepaaaDoor
