/- The parser of values: a value; evaluated. -/
import Derived.Test.YthoomlenmgdebaaGreatDoorGG
import Derived.Test.YthoomlenmgdebaaGreatDoorGF
set_option linter.unusedVariables false
set_option linter.unusedSimpArgs false
namespace Go.Proofs.YthoomlenmgdebaaGreatDoor
namespace AE
open Go
section
variable {id N : Nat}
theorem pV_lt (N : Nat) (f : Fun) (s : List UInt8) (v : Val) (t : List UInt8) (hs : Sm s) (h : pV N f s = (some v, t)) : t.length < s.length := by
  have := (pV_cost N f s hs v t h).1
  have := v.nodes_pos
  omega
set_option maxHeartbeats 4000000 in
theorem value_leaf {f : Fun} (hk : f.kind = 0 ∨ f.kind = 1) : ValOk id f (pV (N + 1) f) := by
  intro s m hs hbx
  have hid : id < m.bx.length := (List.getElem?_eq_some_iff.1 hbx).1
  have hg : m.bx[id] = [.str s] := (List.getElem?_eq_some_iff.1 hbx).2
  have hidk : ∀ k, id < m.bx.length + k := fun k => by omega
  rw [pV, if_pos hk]
  rw [evCall_body C0 (C0_ext _ (by decide)) (by rw [C0_P]; exact Tryz.func74) rfl (by rw [C0_ann]; rfl) (by decide) (by simp [Tryz.f74])]
  have e1 := ev_vnumber id s hs ⟨m.bx ++ [f.cells, [.int .i64 0, .nils, .nils]], m.rw⟩ (by simp [at_lt, hid, hg])
  cases hp : pNum s with
  | mk o u =>
  rw [hp] at e1
  cases o with
  | none =>
    rcases hk with hk | hk
    · simp [set_lt, hid, hk] at e1
      simp [Tryz.f74, a74, reg74, draw74, dok74, hid, hidk, at_lt, set_lt, leave_setb, hk, e1, bindN]
      try simp [wrongV]
    · simp [set_lt, hid, hk] at e1
      simp [Tryz.f74, a74, reg74, draw74, dok74, hid, hidk, at_lt, set_lt, leave_setb, hk, e1, bindN]
      try simp [wrongV]
  | some k =>
    rcases hk with hk | hk
    · simp [set_lt, hid, hk] at e1
      simp [Tryz.f74, a74, reg74, draw74, dok74, hid, hidk, at_lt, set_lt, leave_setb, hk, e1, bindN]
    · simp [set_lt, hid, hk] at e1
      simp [Tryz.f74, a74, reg74, draw74, dok74, hid, hidk, at_lt, set_lt, leave_setb, hk, e1, bindN]
set_option maxHeartbeats 8000000 in
theorem value_prod {f : Fun} (hf : shapedF f = true) (hk : f.kind = 2) (hl : f.args.length = 2) (ih : ∀ g, g ∈ f.args → ValOk id g (pV N g)) : ValOk id f (pV (N + 1) f) := by
  intro s m hs hbx
  have hid : id < m.bx.length := (List.getElem?_eq_some_iff.1 hbx).1
  have hg : m.bx[id] = [.str s] := (List.getElem?_eq_some_iff.1 hbx).2
  have hidk : ∀ k, id < m.bx.length + k := fun k => by omega
  have f0 : 0 < f.args.length := by omega
  have f1 : 1 < f.args.length := by omega
  have b1 := Fun.at_cellsL f.args 0 f0
  have b2 := Fun.at_cellsL f.args 1 f1
  simp at b1 b2
  have g0 : f.args.getD 0 fun0 = f.args[0] := by rw [List.getD_eq_getElem?_getD, List.getElem?_eq_getElem f0]; rfl
  have g1 : f.args.getD 1 fun0 = f.args[1] := by rw [List.getD_eq_getElem?_getD, List.getElem?_eq_getElem f1]; rfl
  rw [pV, if_neg (by omega), if_pos hk, g0, g1]
  rw [evCall_body C0 (C0_ext _ (by decide)) (by rw [C0_P]; exact Tryz.func74) rfl (by rw [C0_ann]; rfl) (by decide) (by simp [Tryz.f74])]
  have e1 := ev_vtake id 40 (by decide) s ⟨m.bx ++ [f.cells, [.int .i64 0, .nils, .nils]], m.rw⟩ (by simp [at_lt, hid, hg])
  have s1 := hs.suffix (isC_suffix 40 s)
  cases h1 : (isC 40 s).1 with
  | false =>
    simp [set_lt, hid, hk, hl, h1] at e1
    simp [Tryz.f74, a74, reg74, draw74, dok74, hid, hidk, at_lt, set_lt, leave_setb, hk, hl, e1, takeC, h1]
    try simp [wrongV]
  | true =>
  have e2 := ih f.args[0] (List.getElem_mem f0) (isC 40 s).2 ⟨m.bx.set id [.str (isC 40 s).2] ++ [f.cells, [.int .i64 0, .nils, .nils]], m.rw⟩ s1 (by simp [at_lt, hid])
  have p2 := pV_suffix N f.args[0] (isC 40 s).2
  simp [set_lt, hid, hk, hl, h1] at e1
  cases h2 : pV N f.args[0] (isC 40 s).2 with
  | mk o u =>
  rw [h2] at e2 p2
  have s2 := s1.suffix p2
  cases o with
  | none =>
    simp [set_lt, hid, hk, hl] at e2
    simp [Tryz.f74, a74, reg74, draw74, dok74, hid, hidk, at_lt, set_lt, leave_setb, hk, hl, b1, b2, e1, e2, takeC, h1, h2, bindV]
    try simp [wrongV]
  | some x =>
  have e3 := ev_vtake id 44 (by decide) u ⟨m.bx.set id [.str u] ++ [f.cells, [.int .i64 0, .nils, .nils], x.cells], m.rw⟩ (by simp [at_lt, hid])
  have s3 := s2.suffix (isC_suffix 44 u)
  simp [set_lt, hid, hk, hl] at e2
  cases h3 : (isC 44 u).1 with
  | false =>
    simp [set_lt, hid, hk, hl, h3] at e3
    simp [Tryz.f74, a74, reg74, draw74, dok74, hid, hidk, at_lt, set_lt, leave_setb, hk, hl, b1, b2, e1, e2, e3, takeC, h1, h2, h3, bindV]
    try simp [wrongV]
  | true =>
  have e4 := ih f.args[1] (List.getElem_mem f1) (isC 44 u).2 ⟨m.bx.set id [.str (isC 44 u).2] ++ [f.cells, [.int .i64 0, .nils, .nils], x.cells], m.rw⟩ s3 (by simp [at_lt, hid])
  have p4 := pV_suffix N f.args[1] (isC 44 u).2
  simp [set_lt, hid, hk, hl, h3] at e3
  cases h4 : pV N f.args[1] (isC 44 u).2 with
  | mk o q =>
  rw [h4] at e4 p4
  have s4 := s3.suffix p4
  cases o with
  | none =>
    simp [set_lt, hid, hk, hl] at e4
    simp [Tryz.f74, a74, reg74, draw74, dok74, hid, hidk, at_lt, set_lt, leave_setb, hk, hl, b1, b2, e1, e2, e3, e4, takeC, h1, h2, h3, h4, bindV]
    try simp [wrongV]
  | some y =>
  have e5 := ev_vtake id 41 (by decide) q ⟨m.bx.set id [.str q] ++ [f.cells, [.int .i64 0, .nils, .nils], x.cells, y.cells], m.rw⟩ (by simp [at_lt, hid])
  simp [set_lt, hid, hk, hl] at e4
  cases h5 : (isC 41 q).1 with
  | false =>
    simp [set_lt, hid, hk, hl, h5] at e5
    simp [Tryz.f74, a74, reg74, draw74, dok74, hid, hidk, at_lt, set_lt, leave_setb, hk, hl, b1, b2, e1, e2, e3, e4, e5, takeC, h1, h2, h3, h4, h5, bindV]
    try simp [wrongV]
  | true =>
    simp [set_lt, hid, hk, hl, h5] at e5
    simp [Tryz.f74, a74, reg74, draw74, dok74, hid, hidk, at_lt, set_lt, leave_setb, hk, hl, b1, b2, e1, e2, e3, e4, e5, takeC, h1, h2, h3, h4, h5, bindV, Val.cellsL]
set_option maxHeartbeats 8000000 in
theorem value_sum {f : Fun} (hf : shapedF f = true) (hk : f.kind = 3) (hl : f.args.length = 2) (ih : ∀ g, g ∈ f.args → ValOk id g (pV N g)) : ValOk id f (pV (N + 1) f) := by
  intro s m hs hbx
  have hid : id < m.bx.length := (List.getElem?_eq_some_iff.1 hbx).1
  have hg : m.bx[id] = [.str s] := (List.getElem?_eq_some_iff.1 hbx).2
  have hidk : ∀ k, id < m.bx.length + k := fun k => by omega
  have f0 : 0 < f.args.length := by omega
  have f1 : 1 < f.args.length := by omega
  have b1 := Fun.at_cellsL f.args 0 f0
  have b2 := Fun.at_cellsL f.args 1 f1
  simp at b1 b2
  have g0 : f.args.getD 0 fun0 = f.args[0] := by rw [List.getD_eq_getElem?_getD, List.getElem?_eq_getElem f0]; rfl
  have g1 : f.args.getD 1 fun0 = f.args[1] := by rw [List.getD_eq_getElem?_getD, List.getElem?_eq_getElem f1]; rfl
  rw [pV, if_neg (by omega), if_neg (by omega), if_pos hk, g0, g1]
  rw [evCall_body C0 (C0_ext _ (by decide)) (by rw [C0_P]; exact Tryz.func74) rfl (by rw [C0_ann]; rfl) (by decide) (by simp [Tryz.f74])]
  have e1 := ev_vis id 108 (by decide) s ⟨m.bx ++ [f.cells, [.int .i64 0, .nils, .nils]], m.rw⟩ (by simp [at_lt, hid, hg])
  have s1 := hs.suffix (isC_suffix 108 s)
  cases h1 : (isC 108 s).1 with
  | true =>
    have e2 := ih f.args[0] (List.getElem_mem f0) (isC 108 s).2 ⟨m.bx.set id [.str (isC 108 s).2] ++ [f.cells, [.int .i64 0, .nils, .nils]], m.rw⟩ s1 (by simp [at_lt, hid])
    simp [set_lt, hid, hk, hl, h1] at e1
    cases h2 : pV N f.args[0] (isC 108 s).2 with
    | mk o u =>
    rw [h2] at e2
    cases o with
    | none =>
      simp [set_lt, hid, hk, hl] at e2
      simp [Tryz.f74, a74, reg74, draw74, dok74, hid, hidk, at_lt, set_lt, leave_setb, hk, hl, b1, b2, e1, e2, h1, h2, bindV]
      try simp [wrongV]
    | some x =>
      simp [set_lt, hid, hk, hl] at e2
      simp [Tryz.f74, a74, reg74, draw74, dok74, hid, hidk, at_lt, set_lt, leave_setb, hk, hl, b1, b2, e1, e2, h1, h2, bindV, Val.cellsL]
  | false =>
    have e3 := ev_vtake id 114 (by decide) (isC 108 s).2 ⟨m.bx.set id [.str (isC 108 s).2] ++ [f.cells, [.int .i64 0, .nils, .nils]], m.rw⟩ (by simp [at_lt, hid])
    have s3 := s1.suffix (isC_suffix 114 (isC 108 s).2)
    simp [set_lt, hid, hk, hl, h1] at e1
    cases h3 : (isC 114 (isC 108 s).2).1 with
    | false =>
      simp [set_lt, hid, hk, hl, h3] at e3
      simp [Tryz.f74, a74, reg74, draw74, dok74, hid, hidk, at_lt, set_lt, leave_setb, hk, hl, b1, b2, e1, e3, h1, takeC, h3, bindV]
      try simp [wrongV]
    | true =>
    have e2 := ih f.args[1] (List.getElem_mem f1) (isC 114 (isC 108 s).2).2 ⟨m.bx.set id [.str (isC 114 (isC 108 s).2).2] ++ [f.cells, [.int .i64 0, .nils, .nils]], m.rw⟩ s3 (by simp [at_lt, hid])
    simp [set_lt, hid, hk, hl, h3] at e3
    cases h2 : pV N f.args[1] (isC 114 (isC 108 s).2).2 with
    | mk o u =>
    rw [h2] at e2
    cases o with
    | none =>
      simp [set_lt, hid, hk, hl] at e2
      simp [Tryz.f74, a74, reg74, draw74, dok74, hid, hidk, at_lt, set_lt, leave_setb, hk, hl, b1, b2, e1, e2, e3, h1, h2, h3, takeC, bindV]
      try simp [wrongV]
    | some x =>
      simp [set_lt, hid, hk, hl] at e2
      simp [Tryz.f74, a74, reg74, draw74, dok74, hid, hidk, at_lt, set_lt, leave_setb, hk, hl, b1, b2, e1, e2, e3, h1, h2, h3, takeC, bindV, Val.cellsL]
set_option maxHeartbeats 8000000 in
theorem value_exp {f : Fun} (hf : shapedF f = true) (hk : f.kind = 4) (hl : f.args.length = 1) (ih : ∀ g, g ∈ f.args → ValOk id g (pV N g)) : ValOk id f (pV (N + 1) f) := by
  intro s m hs hbx
  have hid : id < m.bx.length := (List.getElem?_eq_some_iff.1 hbx).1
  have hg : m.bx[id] = [.str s] := (List.getElem?_eq_some_iff.1 hbx).2
  have hidk : ∀ k, id < m.bx.length + k := fun k => by omega
  have f0 : 0 < f.args.length := by omega
  have b1 := Fun.at_cellsL f.args 0 f0
  simp at b1
  have g0 : f.args.getD 0 fun0 = f.args[0] := by rw [List.getD_eq_getElem?_getD, List.getElem?_eq_getElem f0]; rfl
  rw [pV, if_neg (by omega), if_neg (by omega), if_neg (by omega), if_pos hk, g0]
  rw [evCall_body C0 (C0_ext _ (by decide)) (by rw [C0_P]; exact Tryz.func74) rfl (by rw [C0_ann]; rfl) (by decide) (by simp [Tryz.f74])]
  have e1 := ev_vtake id 91 (by decide) s ⟨m.bx ++ [f.cells, [.int .i64 0, .nils, .nils]], m.rw⟩ (by simp [at_lt, hid, hg])
  have s1 := hs.suffix (isC_suffix 91 s)
  cases h1 : (isC 91 s).1 with
  | false =>
    simp [set_lt, hid, hk, hl, h1] at e1
    simp [Tryz.f74, a74, reg74, draw74, dok74, hid, hidk, at_lt, set_lt, leave_setb, hk, hl, e1, takeC, h1]
    try simp [wrongV]
  | true =>
  have e2 := ev_vlist id f.args[0] _ (pV_suffix N f.args[0]) (ih _ (List.getElem_mem f0)) (pV_lt N f.args[0]) 93 (by decide) false (isC 91 s).2 s1 ⟨m.bx.set id [.str (isC 91 s).2] ++ [f.cells, [.int .i64 0, .nils, .nils]], m.rw⟩ (by simp [at_lt, hid])
  simp [set_lt, hid, hk, hl, h1] at e1
  cases h2 : listV (pV N f.args[0]) 93 false ((isC 91 s).2.length + 1) [] [] (isC 91 s).2 with
  | mk o u =>
  rw [h2] at e2
  cases o with
  | none =>
    simp [set_lt, hid, hk, hl] at e2
    simp [Tryz.f74, a74, reg74, draw74, dok74, hid, hidk, at_lt, set_lt, leave_setb, hk, hl, b1, e1, e2, takeC, h1, h2, bindV]
    try simp [wrongV]
  | some x =>
  simp [set_lt, hid, hk, hl] at e2
  by_cases h3 : (x.args.length : Int) = f.num
  · simp [Tryz.f74, a74, reg74, draw74, dok74, hid, hidk, at_lt, set_lt, leave_setb, hk, hl, b1, e1, e2, takeC, h1, h2, h3, bindV]
  · simp [Tryz.f74, a74, reg74, draw74, dok74, hid, hidk, at_lt, set_lt, leave_setb, hk, hl, b1, e1, e2, takeC, h1, h2, h3, bindV]
    try simp [wrongV]
set_option maxHeartbeats 8000000 in
theorem value_set {f : Fun} (hf : shapedF f = true) (hk : 5 ≤ f.kind) (hl : f.args.length = 1) (ih : ∀ g, g ∈ f.args → ValOk id g (pV N g)) : ValOk id f (pV (N + 1) f) := by
  intro s m hs hbx
  have hid : id < m.bx.length := (List.getElem?_eq_some_iff.1 hbx).1
  have hg : m.bx[id] = [.str s] := (List.getElem?_eq_some_iff.1 hbx).2
  have hidk : ∀ k, id < m.bx.length + k := fun k => by omega
  have f0 : 0 < f.args.length := by omega
  have b1 := Fun.at_cellsL f.args 0 f0
  simp at b1
  have g0 : f.args.getD 0 fun0 = f.args[0] := by rw [List.getD_eq_getElem?_getD, List.getElem?_eq_getElem f0]; rfl
  have n4 : ¬ f.kind = 0 ∧ ¬ f.kind = 1 ∧ ¬ f.kind = 2 ∧ ¬ f.kind = 3 ∧ ¬ f.kind = 4 := by omega
  rw [pV, if_neg (by omega), if_neg (by omega), if_neg (by omega), if_neg (by omega), g0]
  rw [evCall_body C0 (C0_ext _ (by decide)) (by rw [C0_P]; exact Tryz.func74) rfl (by rw [C0_ann]; rfl) (by decide) (by simp [Tryz.f74])]
  have e1 := ev_vtake id 123 (by decide) s ⟨m.bx ++ [f.cells, [.int .i64 0, .nils, .nils]], m.rw⟩ (by simp [at_lt, hid, hg])
  have s1 := hs.suffix (isC_suffix 123 s)
  cases h1 : (isC 123 s).1 with
  | false =>
    simp [set_lt, hid, hl, h1] at e1
    simp [Tryz.f74, a74, reg74, draw74, dok74, hid, hidk, at_lt, set_lt, leave_setb, n4, hl, e1, takeC, h1]
    try simp [wrongV]
  | true =>
  have e2 := ev_vlist id f.args[0] _ (pV_suffix N f.args[0]) (ih _ (List.getElem_mem f0)) (pV_lt N f.args[0]) 125 (by decide) (decide (6 ≤ f.kind)) (isC 123 s).2 s1 ⟨m.bx.set id [.str (isC 123 s).2] ++ [f.cells, [.int .i64 0, .nils, .nils]], m.rw⟩ (by simp [at_lt, hid])
  simp [set_lt, hid, hl, h1] at e1
  cases h2 : listV (pV N f.args[0]) 125 (decide (6 ≤ f.kind)) ((isC 123 s).2.length + 1) [] [] (isC 123 s).2 with
  | mk o u =>
  rw [h2] at e2
  cases o with
  | none =>
    simp [set_lt, hid, hl] at e2
    simp [Tryz.f74, a74, reg74, draw74, dok74, hid, hidk, at_lt, set_lt, leave_setb, n4, hl, b1, e1, e2, takeC, h1, h2, afterP, maskTm]
    try simp [wrongV]
  | some x =>
    simp [set_lt, hid, hl] at e2
    simp [Tryz.f74, a74, reg74, draw74, dok74, hid, hidk, at_lt, set_lt, leave_setb, n4, hl, b1, e1, e2, takeC, h1, h2]
end
theorem ev_vvalue (id : Nat) : ∀ (N : Nat) (f : Fun), f.nodes ≤ N → shapedF f = true → ValOk id f (pV N f) := by
  intro N
  induction N with
  | zero => intro f hN; have := f.nodes_pos; omega
  | succ N ih =>
  intro f hN hf
  have H : ∀ g, g ∈ f.args → ValOk id g (pV N g) := fun g hg => by
    obtain ⟨i, hi, rfl⟩ := List.getElem_of_mem hg
    exact ih _ (by have := Fun.nodes_arg hg; omega) (shaped_arg hf hi)
  rcases shaped_kind hf with ⟨h, hl⟩ | ⟨h, hl⟩ | ⟨h, hl⟩ | ⟨h, hl⟩ | ⟨h, hl⟩ | ⟨h, hl⟩ | ⟨h, hl⟩ | ⟨h, hl⟩
  · exact value_leaf (.inl h)
  · exact value_leaf (.inr h)
  · exact value_prod hf h hl H
  · exact value_sum hf h hl H
  · exact value_exp hf h hl H
  · exact value_set hf (by omega) hl H
  · exact value_set hf (by omega) hl H
  · exact value_set hf (by omega) hl H
set_option maxHeartbeats 4000000 in
theorem ev_wide (ex : Fun → List Val → List Int → Bool) (n : Int) (N : Nat) : ∀ (v : Val), v.nodes ≤ N → v.nodes ≤ 1000000 → ∀ (f : Fun), shapedF f = true → okV ex n v f = true → ∀ (m : Mem), evCall C0 58 [.agg f.cells, .agg v.cells] m = some (.ret (.bool (wideV v f)), m) := by
  induction N with
  | zero => intro v hN; have := v.nodes_pos; omega
  | succ N ih =>
  intro v hN hb f hf hok m
  have hlen := v.length_args
  rw [okV_eq, Bool.and_eq_true, Bool.and_eq_true] at hok
  obtain ⟨⟨hh, _⟩, hokl⟩ := hok
  have hpb : partsB f v = true := by
    rw [head_split hf, Bool.and_eq_true, Bool.and_eq_true] at hh
    exact hh.1.1
  have hp := ev_Parts f v hf (by omega)
  obtain ⟨hPl, hPa⟩ := parts_at hf hpb
  have hst := ev_Sets f.kind
  simp [hpb] at hp
  generalize partsL f v = P at hp hPl hPa
  rw [evCall_body C0 (C0_ext _ (by decide)) (by rw [C0_P]; exact Tryz.func58) rfl (by rw [C0_ann]; rfl) (by decide) (by simp [Tryz.f58])]
  rw [wideV_eq]
  by_cases hw : setsK f.kind = true ∧ 100 < v.args.length
  · have h1 : (100 : Int) < v.args.length := by omega
    rw [hw.1] at hst
    simp [Tryz.f58, a58, reg58, loop58, draw58, dok58, hst, h1, hw.1, hw.2]
  · have hr : (setsK f.kind && decide (100 < v.args.length)) = false := by
      rw [Bool.eq_false_iff]
      intro h
      rw [Bool.and_eq_true, decide_eq_true_eq] at h
      exact hw h
    rw [hr, Bool.false_or]
    cases hs : setsK f.kind
    case' false =>
      rw [hs] at hst
      simp [Tryz.f58, a58, reg58, loop58, draw58, dok58, hst, hp]
    case' true =>
      have h2 : ¬ (100 : Int) < v.args.length := by
        intro h
        exact hw ⟨hs, by omega⟩
      rw [hs] at hst
      simp [Tryz.f58, a58, reg58, loop58, draw58, dok58, hst, hp, h2]
    all_goals
      refine loop_in (fun i : Nat => ⟨[(5, .isl false P.length (Fun.cellsL P)), (25, .isl false v.args.length (Val.cellsL v.args)), (26, .int .i64 v.args.length), (27, .int .i64 i)], ⟨m.bx ++ [f.cells, v.cells], m.rw⟩⟩)
        (fun i => some (.ret (.bool (wideL (v.args.drop i) (argF f v.num) i)), m)) (fun i => v.args.length - i) (fun i => i ≤ v.args.length) 0 ?_ ?_ ?_ ?_ ?_
      · simp
      · simp
      · omega
      · intro x; simp [Tryz.f58, a58, reg58, loop58, draw58, dok58]
      · intro i hi hrec
        by_cases hlt : i < v.args.length
        · have w2 : IntKind.i64.wrap (i + 1) = i + 1 := wrap_id _ (by omega)
          have h3 : (i + 1) * 3 ≤ v.args.length * 3 := by omega
          have hiP : i < P.length := by omega
          have hgi := hPa i hiP
          have hk01 : ¬ f.kind = 0 ∧ ¬ f.kind = 1 := by
            refine ⟨fun h => ?_, fun h => ?_⟩
            · have := (head_num hh).2.2 (.inl h); omega
            · have := (head_num hh).2.2 (.inr h); omega
          have hgs := argF_shaped hf hk01.1 hk01.2 hh i hlt
          have o0 := okL_mem hokl i hlt
          rw [Nat.zero_add] at hgs o0
          have hm := Val.nodes_arg (List.getElem_mem hlt)
          have he := ih v.args[i] (by omega) (by omega) (argF f v.num i) hgs o0
          simp at he
          rw [wideL_drop hlt]
          cases hc : wideV v.args[i] (argF f v.num i)
          · simp [hc] at he
            simp [round, Tryz.f58, a58, reg58, loop58, draw58, dok58, hlt, w2, h3, hiP, show (i + 1) * 3 ≤ P.length * 3 by omega, hgi, he, endRound_M]
            refine hrec (i + 1) _ _ ?_ ?_ ?_ ?_
            · omega
            · omega
            · simp
            · simp
          · clear hrec
            simp [hc] at he
            simp [round, Tryz.f58, a58, reg58, loop58, draw58, dok58, hlt, w2, h3, hiP, show (i + 1) * 3 ≤ P.length * 3 by omega, hgi, he]
        · clear hrec
          simp [round, Tryz.f58, a58, reg58, loop58, draw58, dok58, hlt]
          rw [List.drop_eq_nil_of_le (by omega), wideL]
def rNorm (f : Fun) (n : Int) (v : Val) : Val × Int := if v.nodes ≤ 2000 then (match normV n v f with | none => (zeroV, 20) | some w => if wideV w f then (zeroV, 2) else (w, 0)) else (zeroV, 20)
theorem ev_RNormal (f : Fun) (n : Int) (v : Val) (hf : shapedF f = true) (hn0 : 0 ≤ n) (hn1 : n ≤ 1000000) (hb : v.nodes ≤ 1000000) (hs : slimV v) (m : Mem) : evCall C0 26 [.agg f.cells, .int .i64 n, .agg v.cells] m = some (.ret (.tup [.agg (rNorm f n v).1.cells, .int .i64 (rNorm f n v).2]), m) := by
  rw [evCall_body C0 (C0_ext _ (by decide)) (by rw [C0_P]; exact Tryz.func26) rfl (by rw [C0_ann]; rfl) (by decide) (by simp [Tryz.f26])]
  have hl := ev_leftV v.nodes v (Nat.le_refl _) 2001
  rw [leftV_nodes v 2001 (by omega)] at hl
  have hn := ev_normal n hn0 hn1 v.nodes v (Nat.le_refl _) hb hs f hf
  unfold rNorm
  unfold normD at hn
  by_cases h1 : v.nodes ≤ 2000
  case neg =>
    have h2 : max (2001 - (v.nodes : Int)) 0 = 0 := by omega
    rw [h2] at hl
    simp at hl
    simp [Tryz.f26, a26, reg26, hl, h1, zeroV]
  have h2 : ¬ max (2001 - (v.nodes : Int)) 0 = 0 := by omega
  simp at hl
  generalize max (2001 - (v.nodes : Int)) 0 = q at hl h2
  cases hc : normV n v f with
  | none =>
    rw [hc] at hn
    simp [zeroV] at hn
    simp [Tryz.f26, a26, reg26, hl, h1, h2, hn, zeroV]
  | some w =>
    rw [hc] at hn
    have hno := norm_nodes n v f w hs (by omega) hc
    have hw := ev_wide exN n w.nodes w (Nat.le_refl _) (by omega) f hf (norm_ok n v f w hc)
    simp at hn hw
    cases hx : wideV w f
    · simp [hx] at hw
      simp [Tryz.f26, a26, reg26, hl, h1, h2, hn, hw, hx]
    · simp [hx] at hw
      simp [Tryz.f26, a26, reg26, hl, h1, h2, hn, hw, hx, zeroV]
theorem ev_RIsV (f : Fun) (n : Int) (v : Val) (hf : shapedF f = true) (hn0 : 0 ≤ n) (hn1 : n ≤ 1000000) (hb : v.nodes ≤ 1000000) (hs : slimV v) (m : Mem) : evCall C0 36 [.agg f.cells, .int .i64 n, .agg v.cells] m = some (.ret (.bool (chkV exS n v f 2000).1), m) := by
  rw [evCall_body C0 (C0_ext _ (by decide)) (by rw [C0_P]; exact Tryz.func36) rfl (by rw [C0_ann]; rfl) (by decide) (by simp [Tryz.f36])]
  have hn := ev_RNormal f n v hf hn0 hn1 hb hs
  have hsp := (chkV_spec exS n v f 2000 (by omega)).1
  rw [← selfV_ok] at hsp
  have hgoal : (chkV exS n v f 2000).1 = (decide ((rNorm f n v).2 = 0) && decide (cmpV (rNorm f n v).1 v = 0)) := by
    rw [Bool.eq_iff_iff, hsp]
    unfold selfV rNorm
    by_cases h1 : v.nodes ≤ 2000
    · rw [if_pos h1]
      cases hc : normV n v f with
      | none => simp
      | some w =>
        cases hx : wideV w f
        · simp [hx]; omega
        · simp [hx]
    · rw [if_neg h1]
      simp
      omega
  rw [hgoal]
  have hnn : (rNorm f n v).1.nodes ≤ 1000000 ∧ slimV (rNorm f n v).1 := by
    unfold rNorm
    have hz : zeroV.nodes ≤ 1000000 ∧ slimV zeroV := by
      refine ⟨by rw [Val.nodes_eq]; simp [zeroV, Val.nodesL], ?_⟩
      rw [slimV_eq]
      exact ⟨by simp [zeroV], by simp [zeroV, slimL]⟩
    split
    · cases hc : normV n v f with
      | none => exact hz
      | some w =>
        have hno := norm_nodes n v f w hs (by omega) hc
        simp only
        split
        · exact hz
        · exact ⟨by simp only; omega, hno.2⟩
    · exact hz
  generalize rNorm f n v = r at hn hnn ⊢
  obtain ⟨w, e⟩ := r
  simp only at hn hnn ⊢
  have he := ev_RSameV w v (by omega) hnn.2
  simp at hn he
  by_cases h0 : e = 0
  · subst h0
    simp [Tryz.f36, a36, reg36, hn, he]
  · simp [Tryz.f36, a36, reg36, hn, h0]
def idxA {α : Type} (p : α → Bool) : List α → Int → Int
  | [], _ => -1
  | a :: r, i => if p a then i else idxA p r (i + 1)
theorem idxA_pos {α : Type} (p : α → Bool) : ∀ (l : List α) (i : Int), 0 ≤ i → decide (0 ≤ idxA p l i) = l.any p
  | [], i, _ => rfl
  | a :: r, i, h => by
    rw [idxA, List.any_cons]
    split
    · rename_i hp; simp [hp, h]
    · rename_i hp; rw [idxA_pos p r (i + 1) (by omega)]; simp [hp]
theorem idxA_drop {α : Type} {p : α → Bool} {l : List α} {i : Nat} (h : i < l.length) : idxA p (l.drop i) i = if p l[i] then (i : Int) else idxA p (l.drop (i + 1)) ((i + 1 : Nat) : Int) := by
  rw [List.drop_eq_getElem_cons h, idxA]
  rfl
section
variable {g : FuncId} {caps : List A}
set_option maxHeartbeats 2000000 in
theorem ev_IndexV (p : Val → Bool) (l : List Val) (fl : Bool) (hl : l.length ≤ 1000000000) (m : Mem) (hcl : closed m.bx.length m.rw.length (.fn g caps) = true) (hp : ∀ u, u ∈ l → evCall C0 g (.agg u.cells :: caps) m = some (.ret (.bool (p u)), m)) :
    evCall C0 129 [.isl fl l.length (Val.cellsL l), .fn g caps] m = some (.ret (.int .i64 (idxA p l 0)), m) := by
  rw [evCall_body C0 (C0_ext _ (by decide)) (by rw [C0_P]; exact Tryz.func129) rfl (by rw [C0_ann]; rfl) (by decide) (by simp [Tryz.f129])]
  simp [Tryz.f129, a129, reg129, loop129]
  refine loop_in (fun i : Nat => ⟨[(0, .isl fl l.length (Val.cellsL l)), (1, .fn g caps), (7, .int .i64 l.length), (8, .int .i64 i)], m⟩)
    (fun i => some (.ret (.int .i64 (idxA p (l.drop i) i)), m)) (fun i => l.length - i) (fun i => i ≤ l.length) 0 ?_ ?_ ?_ ?_ ?_
  · simp
  · simp
  · simp
  · intro x; simp [Tryz.f129, a129, reg129, loop129]
  · intro i hi hrec
    by_cases hlt : i < l.length
    · have w2 : IntKind.i64.wrap (i + 1) = i + 1 := wrap_id _ (by omega)
      have h3 : (i + 1) * 3 ≤ l.length * 3 := by omega
      have he := hp l[i] (List.getElem_mem hlt)
      simp at he
      rw [idxA_drop hlt]
      cases hc : p l[i]
      · simp [hc] at he
        simp [round, Tryz.f129, a129, reg129, loop129, hlt, w2, h3, he, endRound_M0, hcl]
        refine hrec (i + 1) _ _ ?_ ?_ ?_ ?_
        · omega
        · omega
        · simp
        · simp
      · simp [hc] at he
        simp [round, Tryz.f129, a129, reg129, loop129, hlt, w2, h3, he]
    · clear hrec
      rw [List.drop_eq_nil_of_le (by omega), idxA]
      simp [round, Tryz.f129, a129, reg129, loop129, hlt]
theorem ev_ContainsV (p : Val → Bool) (l : List Val) (fl : Bool) (hl : l.length ≤ 1000000000) (m : Mem) (hcl : closed m.bx.length m.rw.length (.fn g caps) = true) (hp : ∀ u, u ∈ l → evCall C0 g (.agg u.cells :: caps) m = some (.ret (.bool (p u)), m)) :
    evCall C0 99 [.isl fl l.length (Val.cellsL l), .fn g caps] m = some (.ret (.bool (l.any p)), m) := by
  rw [evCall_body C0 (C0_ext _ (by decide)) (by rw [C0_P]; exact Tryz.func99) rfl (by rw [C0_ann]; rfl) (by decide) (by simp [Tryz.f99])]
  have he := ev_IndexV p l fl hl m hcl hp
  have h1 := idxA_pos p l 0 (by omega)
  simp [Tryz.f99, a99, reg99, he, h1]
end
theorem wideL_any {c : Fun} : ∀ {l : List Val} {g : Nat → Fun} {i : Nat}, (∀ j, g j = c) → wideL l g i = l.any fun u => wideV u c
  | [], g, i, _ => by rw [wideL]; rfl
  | v :: r, g, i, h => by rw [wideL, h i, wideL_any h, List.any_cons]
theorem ev_narrow (ex : Fun → List Val → List Int → Bool) (n : Int) (N : Nat) : ∀ (v : Val), v.nodes ≤ N → v.nodes ≤ 1000000 → ∀ (f : Fun), shapedF f = true → okV ex n v f = true → ∀ (m : Mem), evCall C0 78 [.agg f.cells, .agg v.cells] m = some (.ret (.bool (!wideV v f)), m) := by
  induction N with
  | zero => intro v hN; have := v.nodes_pos; omega
  | succ N ih =>
  intro v hN hb f hf hok m
  have hlen := v.length_args
  rw [okV_eq, Bool.and_eq_true, Bool.and_eq_true] at hok
  obtain ⟨⟨hh, _⟩, hokl⟩ := hok
  obtain ⟨hd1, hd2, hd3⟩ := head_num hh
  have hh' := hh
  unfold headL at hh'
  simp only [Bool.and_eq_true] at hh'
  obtain ⟨⟨q1, q2⟩, q3⟩ := hh'
  have key : ∀ (k : 4 ≤ f.kind) (hl : f.args.length = 1), evCall C0 78 [.agg f.cells, .agg v.cells] m = some (.ret (.bool (!wideV v f)), m) := fun k hl => by
    have f0 : 0 < f.args.length := by omega
    have b1 := Fun.at_cellsL f.args 0 f0
    simp at b1
    have hg : ∀ j, argF f v.num j = f.args[0] := fun j => by
      unfold argF
      rw [if_neg (by omega), if_neg (by omega), List.getD_eq_getElem?_getD, List.getElem?_eq_getElem f0]
      rfl
    have hset : setsK f.kind = false → v.args.length ≤ 100 := fun h => by
      have h4 : f.kind = 4 := by
        have := shaped_kind hf
        unfold setsK wtd at h
        simp at h
        omega
      simp [h4] at q1
      have := shaped_num hf
      omega
    have hwd : wideV v f = (decide (100 < v.args.length) || v.args.any fun u => wideV u f.args[0]) := by
      rw [wideV_eq, wideL_any hg]
      cases hs : setsK f.kind
      · have := hset hs
        simp [show ¬ 100 < v.args.length by omega]
      · simp
    have hcf : ∀ (M : Mem) (k : Nat), M.bx[k]? = some f.cells → evCall C0 99 [.isl false v.args.length (Val.cellsL v.args), .fn 100 [.ptr k 0]] M = some (.ret (.bool (v.args.any fun u => wideV u f.args[0])), M) := fun M k hMk => by
      have hk1 : k < M.bx.length := (List.getElem?_eq_some_iff.1 hMk).1
      have hk2 := (List.getElem?_eq_some_iff.1 hMk).2
      refine ev_ContainsV _ _ _ (by omega) _ (by simp [hk1]) fun u hu => ?_
      have hm := Val.nodes_arg hu
      obtain ⟨j, hj, rfl⟩ := List.getElem_of_mem hu
      have o0 := okL_mem hokl j hj
      rw [hg] at o0
      have he := ih v.args[j] (by omega) (by omega) f.args[0] (shaped_arg hf f0) o0
      simp at he
      rw [evCall_body C0 (C0_ext _ (by decide)) (by rw [C0_P]; exact Tryz.func100) rfl (by rw [C0_ann]; rfl) (by decide) (by simp [Tryz.f100])]
      simp [Tryz.f100, a100, reg100, draw100, dok100, at_lt, hk1, hk2, b1, he, hl]
    rw [hwd]
    have hcf1 := hcf ⟨m.bx ++ [f.cells, v.cells], m.rw⟩ m.bx.length (by simp)
    simp at hcf1
    rw [evCall_body C0 (C0_ext _ (by decide)) (by rw [C0_P]; exact Tryz.func78) rfl (by rw [C0_ann]; rfl) (by decide) (by simp [Tryz.f78])]
    have k4 : ¬ f.kind = 0 ∧ ¬ f.kind = 1 ∧ ¬ f.kind = 2 ∧ ¬ f.kind = 3 := by omega
    by_cases hc : v.args.length ≤ 100
    · simp [Tryz.f78, a78, reg78, draw78, dok78, k4, show (v.args.length : Int) ≤ 100 by omega, hcf1, show ¬ 100 < v.args.length by omega]
    · simp [Tryz.f78, a78, reg78, draw78, dok78, k4, show ¬ (v.args.length : Int) ≤ 100 by omega, show 100 < v.args.length by omega]
  rcases shaped_kind hf with ⟨h0, hl⟩ | ⟨h0, hl⟩ | ⟨h0, hl⟩ | ⟨h0, hl⟩ | ⟨h0, hl⟩ | ⟨h0, hl⟩ | ⟨h0, hl⟩ | ⟨h0, hl⟩
  · have : v.args = [] := List.eq_nil_of_length_eq_zero (hd3 (.inl h0))
    rw [evCall_body C0 (C0_ext _ (by decide)) (by rw [C0_P]; exact Tryz.func78) rfl (by rw [C0_ann]; rfl) (by decide) (by simp [Tryz.f78])]
    rw [wideV_eq, this, wideL]
    simp [Tryz.f78, a78, reg78, draw78, dok78, h0, setsK, wtd]
  · have : v.args = [] := List.eq_nil_of_length_eq_zero (hd3 (.inr h0))
    rw [evCall_body C0 (C0_ext _ (by decide)) (by rw [C0_P]; exact Tryz.func78) rfl (by rw [C0_ann]; rfl) (by decide) (by simp [Tryz.f78])]
    rw [wideV_eq, this, wideL]
    simp [Tryz.f78, a78, reg78, draw78, dok78, h0, setsK, wtd]
  · simp [h0, hl] at q1
    have a0 : 0 < v.args.length := by omega
    have a1 : 1 < v.args.length := by omega
    have f0 : 0 < f.args.length := by omega
    have f1 : 1 < f.args.length := by omega
    have g0 : argF f v.num 0 = f.args[0] := by unfold argF; rw [if_pos h0, List.getD_eq_getElem?_getD, List.getElem?_eq_getElem f0]; rfl
    have g1 : argF f v.num 1 = f.args[1] := by unfold argF; rw [if_pos h0, List.getD_eq_getElem?_getD, List.getElem?_eq_getElem f1]; rfl
    have b1 := Fun.at_cellsL f.args 0 f0
    have b2 := Fun.at_cellsL f.args 1 f1
    have b3 := Val.at_cellsL v.args 0 a0
    have b4 := Val.at_cellsL v.args 1 a1
    simp at b1 b2 b3 b4
    have o0 := okL_mem hokl 0 a0
    have o1 := okL_mem hokl 1 a1
    rw [Nat.zero_add] at o0 o1
    rw [g0] at o0
    rw [g1] at o1
    have m0 := Val.nodes_arg (List.getElem_mem a0)
    have m1 := Val.nodes_arg (List.getElem_mem a1)
    have he0 := ih v.args[0] (by omega) (by omega) f.args[0] (shaped_arg hf f0) o0
    have he1 := ih v.args[1] (by omega) (by omega) f.args[1] (shaped_arg hf f1) o1
    simp at he0 he1
    have hw : wideV v f = (wideV v.args[0] f.args[0] || wideV v.args[1] f.args[1]) := by
      have e0 := wideL_drop a0 (argF f v.num)
      have e1 := wideL_drop a1 (argF f v.num)
      rw [List.drop_zero] at e0
      rw [wideV_eq, e0, e1, g0, g1, List.drop_eq_nil_of_le (by omega), wideL]
      simp [h0, setsK, wtd]
    rw [hw]
    rw [evCall_body C0 (C0_ext _ (by decide)) (by rw [C0_P]; exact Tryz.func78) rfl (by rw [C0_ann]; rfl) (by decide) (by simp [Tryz.f78])]
    cases hc : wideV v.args[0] f.args[0]
    · simp [hc] at he0
      simp [Tryz.f78, a78, reg78, draw78, dok78, h0, ← q1, hl, b1, b2, b3, b4, he0, he1]
    · simp [hc] at he0
      simp [Tryz.f78, a78, reg78, draw78, dok78, h0, ← q1, hl, b1, b2, b3, b4, he0, he1]
  · simp [h0] at q1
    have a0 : 0 < v.args.length := by omega
    have f0 : 0 < f.args.length := by omega
    have f1 : 1 < f.args.length := by omega
    have b1 := Fun.at_cellsL f.args 0 f0
    have b2 := Fun.at_cellsL f.args 1 f1
    have b3 := Val.at_cellsL v.args 0 a0
    simp at b1 b2 b3
    have o0 := okL_mem hokl 0 a0
    rw [Nat.zero_add] at o0
    have m0 := Val.nodes_arg (List.getElem_mem a0)
    have e0 := wideL_drop a0 (argF f v.num)
    rw [List.drop_zero, List.drop_eq_nil_of_le (by omega), wideL, Bool.or_false] at e0
    rw [wideV_eq, e0]
    by_cases cn : v.num = 0
    · have g0 : argF f v.num 0 = f.args[0] := by unfold argF; rw [if_neg (by omega), if_pos h0, cn, List.getD_eq_getElem?_getD, List.getElem?_eq_getElem (by simpa using f0)]; rfl
      rw [g0] at o0 ⊢
      have he0 := ih v.args[0] (by omega) (by omega) f.args[0] (shaped_arg hf f0) o0
      simp at he0
      rw [evCall_body C0 (C0_ext _ (by decide)) (by rw [C0_P]; exact Tryz.func78) rfl (by rw [C0_ann]; rfl) (by decide) (by simp [Tryz.f78])]
      simp [Tryz.f78, a78, reg78, draw78, dok78, h0, q1.2, hl, b1, b2, b3, he0, cn, setsK, wtd]
    · have cm : v.num = 1 := by omega
      have g0 : argF f v.num 0 = f.args[1] := by unfold argF; rw [if_neg (by omega), if_pos h0, cm, List.getD_eq_getElem?_getD, List.getElem?_eq_getElem (by simpa using f1)]; rfl
      rw [g0] at o0 ⊢
      have he0 := ih v.args[0] (by omega) (by omega) f.args[1] (shaped_arg hf f1) o0
      simp at he0
      rw [evCall_body C0 (C0_ext _ (by decide)) (by rw [C0_P]; exact Tryz.func78) rfl (by rw [C0_ann]; rfl) (by decide) (by simp [Tryz.f78])]
      simp [Tryz.f78, a78, reg78, draw78, dok78, h0, q1.2, hl, b1, b2, b3, he0, cm, setsK, wtd]
  · exact key (by omega) hl
  · exact key (by omega) hl
  · exact key (by omega) hl
  · exact key (by omega) hl
structure StS where
  R : List Row
  id : Nat
  l : List Int
def Grow (R R' : List Row) : Prop := R.length ≤ R'.length ∧ ∀ i, i < R'.length → R'[i]? = R[i]? ∨ ∃ r, R'[i]? = some r ∧ r.cs.all (closed 0 0) = true
theorem Grow.refl (R : List Row) : Grow R R := ⟨Nat.le_refl _, fun _ _ => .inl rfl⟩
theorem Grow.trans {a b c : List Row} (h : Grow a b) (k : Grow b c) : Grow a c := by
  refine ⟨Nat.le_trans h.1 k.1, fun i hi => ?_⟩
  rcases k.2 i hi with h1 | h1
  · by_cases hb : i < b.length
    · rcases h.2 i hb with h2 | ⟨r, h2, h3⟩
      · exact .inl (h1.trans h2)
      · exact .inr ⟨r, h1.trans h2, h3⟩
    · rw [List.getElem?_eq_none (show b.length ≤ i by omega)] at h1
      rw [List.getElem?_eq_getElem hi] at h1
      cases h1
  · exact .inr h1
theorem Grow.rows {R R' : List Row} (h : Grow R R') (nb : Nat) : RowsOk nb R R' := fun i hi => by
  rcases h.2 i hi with h1 | ⟨r, h1, h2⟩
  · exact .inl h1
  · exact .inr ⟨r, h1, closed_up h2⟩
theorem ev_vfew (f : Fun) (fl : Bool) (l : List Val) (hl : l.length ≤ 1000) (m : Mem) : evCall C0 8 [.agg f.cells, .isl fl l.length (Val.cellsL l)] m = some (.ret (.bool ((l.all fun v => fewV v 3000) && decide (0 < leftF f 101))), m) := by
  rw [evCall_body C0 (C0_ext _ (by decide)) (by rw [C0_P]; exact Tryz.func8) rfl (by rw [C0_ann]; rfl) (by decide) (by simp [Tryz.f8])]
  simp [Tryz.f8, a8, reg8, loop8]
  refine loop_in (fun i : Nat => ⟨[(2, .ptr m.bx.length 0), (7, .isl fl l.length (Val.cellsL l)), (8, .int .i64 l.length), (9, .int .i64 i)], ⟨m.bx ++ [f.cells], m.rw⟩⟩)
    (fun i => some (.ret (.bool (((l.drop i).all fun v => fewV v 3000) && decide (0 < leftF f 101))), m)) (fun i => l.length - i) (fun i => i ≤ l.length) 0 ?_ ?_ ?_ ?_ ?_
  · simp
  · simp
  · simp
  · intro x; simp [Tryz.f8, a8, reg8, loop8]
  · intro i hi hrec
    by_cases hlt : i < l.length
    · have w2 : IntKind.i64.wrap (i + 1) = i + 1 := wrap_id _ (by omega)
      have he := ev_FewV l[i] 3000
      simp at he
      have h3 : (i + 1) * 3 ≤ l.length * 3 := by omega
      rw [List.drop_eq_getElem_cons hlt, List.all_cons]
      cases hc : fewV l[i] 3000
      · simp [hc] at he
        simp [round, Tryz.f8, a8, reg8, loop8, hlt, w2, h3, he]
      · simp [hc] at he
        simp [round, Tryz.f8, a8, reg8, loop8, hlt, w2, h3, he, endRound_M]
        refine hrec (i + 1) _ _ ?_ ?_ ?_ ?_
        · omega
        · omega
        · simp
        · simp
    · clear hrec
      have he := ev_Few f 100
      simp at he
      simp [round, Tryz.f8, a8, reg8, loop8, hlt, he]
      rw [List.drop_eq_nil_of_le (by omega)]
      simp
set_option maxHeartbeats 1000000 in
theorem ev_vfault (f : Fun) (n : Int) (fl : Bool) (l : List Val) (hbf : f.nodes ≤ 1000000000) (hl : l.length ≤ 1000) (hv : ∀ v, v ∈ l → v.nodes ≤ 1000000 ∧ slimV v) (m : Mem) : evCall C0 11 [.agg f.cells, .int .i64 n, .isl fl l.length (Val.cellsL l)] m = some (.ret (.int .i64 (if errF f n = 0 then (if (l.all fun v => (chkV exS n v f 2000).1) then 0 else 20) else errF f n)), m) := by
  rw [evCall_body C0 (C0_ext _ (by decide)) (by rw [C0_P]; exact Tryz.func11) rfl (by rw [C0_ann]; rfl) (by decide) (by simp [Tryz.f11])]
  have he := ev_Is f hbf
  rw [show (decide (0 < leftF f 21) && decide (f.depth ≤ 8) && shapedF f) = okF f from isF_okF f] at he
  simp at he
  unfold errF
  cases hc : okF f
  · simp [hc] at he
    simp [Tryz.f11, a11, reg11, loop11, he]
  · simp [hc] at he
    by_cases h1 : n < 0
    · simp [Tryz.f11, a11, reg11, loop11, he, h1]
    by_cases h2 : 100 < n
    · simp [Tryz.f11, a11, reg11, loop11, he, h1, h2]
    have hz2 := errF_zero (f := f) (n := n) (by unfold errF; rw [hc, if_pos rfl, if_neg (by omega)])
    simp [Tryz.f11, a11, reg11, loop11, he, h1, h2]
    refine loop_in (fun i : Nat => ⟨[(1, .int .i64 n), (3, .ptr m.bx.length 0), (20, .isl fl l.length (Val.cellsL l)), (21, .int .i64 l.length), (22, .int .i64 i)], ⟨m.bx ++ [f.cells], m.rw⟩⟩)
      (fun i => some (.ret (.int .i64 (if ((l.drop i).all fun v => (chkV exS n v f 2000).1) then 0 else 20)), m)) (fun i => l.length - i) (fun i => i ≤ l.length) 0 ?_ ?_ ?_ ?_ ?_
    · simp
    · simp
    · simp
    · intro x; simp [Tryz.f11, a11, reg11, loop11]
    · intro i hi hrec
      by_cases hlt : i < l.length
      · have w2 : IntKind.i64.wrap (i + 1) = i + 1 := wrap_id _ (by omega)
        have hvi := hv l[i] (List.getElem_mem hlt)
        have he2 := ev_RIsV f n l[i] hz2.1 (by omega) (by omega) hvi.1 hvi.2
        simp at he2
        have h3 : (i + 1) * 3 ≤ l.length * 3 := by omega
        rw [List.drop_eq_getElem_cons hlt, List.all_cons]
        cases hc2 : (chkV exS n l[i] f 2000).1
        · simp [hc2] at he2
          simp [round, Tryz.f11, a11, reg11, loop11, hlt, w2, h3, he2]
        · simp [hc2] at he2
          simp [round, Tryz.f11, a11, reg11, loop11, hlt, w2, h3, he2, endRound_M]
          refine hrec (i + 1) _ _ ?_ ?_ ?_ ?_
          · omega
          · omega
          · simp
          · simp
      · clear hrec
        simp [round, Tryz.f11, a11, reg11, loop11, hlt]
        rw [List.drop_eq_nil_of_le (by omega)]
        simp
theorem idV_ok (n : Int) : MapOk idV 77 [] n (fun _ => True) where
  ev x _ _ m _ := by
    rw [evCall_body C0 (C0_ext _ (by decide)) (by rw [C0_P]; exact Tryz.func77) rfl (by rw [C0_ann]; rfl) (by decide) (by simp [Tryz.f77])]
    simp [Tryz.f77, a77, reg77, idV]
  up _ _ _ _ := trivial
  cl m _ := by simp
  sm x := by rw [Val.nodes_eq, slimV_eq]; simp [idV, Val.nodesL, slimL]
theorem ev_vnormal (f : Fun) (n : Int) (v : Val) (hf : shapedF f = true) (hb : v.nodes ≤ 1000000) (hs : slimV v) (m : Mem) : evCall C0 45 [.agg f.cells, .int .i64 n, .agg v.cells] m = some (.ret (.tup [.agg (rNorm f n v).1.cells, .int .i64 (rNorm f n v).2]), m) := by
  have he := ev_vcheck (m.bx.length + 3) n true v.nodes v (Nat.le_refl _) (by omega) hs f hf 2000 ⟨m.bx ++ [f.cells, v.cells, [.int .i64 0, .nils, .nils], [.int .i64 n, .int .i64 2000, .bool true]], m.rw⟩ (by omega) (by omega) (by simp)
  rw [show exOf true = exL from rfl] at he
  have hspec := (chkV_spec exL n v f 2000 (by omega)).1
  rw [evCall_body C0 (C0_ext _ (by decide)) (by rw [C0_P]; exact Tryz.func45) rfl (by rw [C0_ann]; rfl) (by decide) (by simp [Tryz.f45])]
  simp at he
  cases hc : (chkV exL n v f 2000).1
  · simp [hc] at he
    have hr : rNorm f n v = (zeroV, 20) := by
      unfold rNorm
      split
      · rename_i hn
        have : okV exL n v f = false := by
          rw [Bool.eq_false_iff]
          intro h
          have := hspec.2 ⟨by omega, h⟩
          rw [hc] at this
          cases this
        rw [norm_none n v f this]
      · rfl
    rw [hr]
    simp [Tryz.f45, a45, reg45, he, zeroV]
  · simp [hc] at he
    have h1 := hspec.1 hc
    have hnm := norm_map n v f hf h1.2
    have hok := norm_ok n v f _ hnm
    have hmn := map_nodes (t := idV) (idV_ok n).sm v f hs (by omega)
    have hmp := ev_Mapped (idV_ok n) v.nodes v (Nat.le_refl _) hb hs f hf h1.2
    have hnr := ev_narrow exN n _ (mapV idV v f) (Nat.le_refl _) (by omega) f hf hok
    have hr : rNorm f n v = if wideV (mapV idV v f) f then (zeroV, 2) else (mapV idV v f, 0) := by
      unfold rNorm
      rw [if_pos (by omega), hnm]
    rw [hr]
    simp at hmp hnr
    cases hw : wideV (mapV idV v f) f
    · simp [hw] at hnr
      simp [Tryz.f45, a45, reg45, he, hmp, hnr]
    · simp [hw] at hnr
      simp [Tryz.f45, a45, reg45, he, hmp, hnr, zeroV]
theorem ev_RSame00 (m : Mem) : evCall C0 14 [.agg [.int .i64 0, .isl false 0 [], .isl false 0 []], .agg [.int .i64 0, .nils, .nils]] m = some (.ret (.bool true), m) := by
  have he : ∀ m, evCall C0 24 [.agg [.int .i64 0, .isl false 0 [], .isl false 0 []], .agg [.int .i64 0, .nils, .nils]] m = some (.ret (.int .i64 0), m) := fun m => by
    have ho : ∀ m, evCall C0 55 [.int .i64 0, .int .i64 0] m = some (.ret (.int .i64 0), m) := fun m => by
      rw [evCall_body C0 (C0_ext _ (by decide)) (by rw [C0_P]; exact Tryz.func55) rfl (by rw [C0_ann]; rfl) (by decide) (by simp [Tryz.f55])]
      simp [Tryz.f55, a55, reg55]
    rw [evCall_body C0 (C0_ext _ (by decide)) (by rw [C0_P]; exact Tryz.func24) rfl (by rw [C0_ann]; rfl) (by decide) (by simp [Tryz.f24])]
    simp [Tryz.f24, a24, reg24, loop24, draw24, dok24]
    rw [evCode_loop]
    simp [round, Tryz.f24, a24, reg24, loop24, draw24, dok24]
    rw [evCode_loop]
    simp [round, Tryz.f24, a24, reg24, loop24, draw24, dok24, ho]
  rw [evCall_body C0 (C0_ext _ (by decide)) (by rw [C0_P]; exact Tryz.func14) rfl (by rw [C0_ann]; rfl) (by decide) (by simp [Tryz.f14])]
  simp [Tryz.f14, a14, reg14, he]
theorem ev_vfault0 (f : Fun) (n : Int) (hbf : f.nodes ≤ 1000000000) (m : Mem) : evCall C0 11 [.agg f.cells, .int .i64 n, .nils] m = some (.ret (.int .i64 (errF f n)), m) := by
  rw [evCall_body C0 (C0_ext _ (by decide)) (by rw [C0_P]; exact Tryz.func11) rfl (by rw [C0_ann]; rfl) (by decide) (by simp [Tryz.f11])]
  have he := ev_Is f hbf
  rw [show (decide (0 < leftF f 21) && decide (f.depth ≤ 8) && shapedF f) = okF f from isF_okF f] at he
  simp at he
  unfold errF
  cases hc : okF f
  · simp [hc] at he
    simp [Tryz.f11, a11, reg11, loop11, he]
  · simp [hc] at he
    by_cases h1 : n < 0
    · simp [Tryz.f11, a11, reg11, loop11, he, h1]
    by_cases h2 : 100 < n
    · simp [Tryz.f11, a11, reg11, loop11, he, h1, h2]
    simp [Tryz.f11, a11, reg11, loop11, he, h1, h2]
    rw [evCode_loop]
    simp [round, Tryz.f11, a11, reg11, loop11]
theorem rNorm_nodes {f : Fun} {n : Int} {v : Val} (hs : slimV v) (hb : v.nodes ≤ 1000000000) : (rNorm f n v).1.nodes ≤ v.nodes ∧ slimV (rNorm f n v).1 := by
  have hz : zeroV.nodes ≤ v.nodes ∧ slimV zeroV := by
    have := v.nodes_pos
    rw [Val.nodes_eq, slimV_eq]
    simp [zeroV, Val.nodesL, slimL]
    omega
  unfold rNorm
  split
  · cases h : normV n v f with
    | none => exact hz
    | some y =>
      simp only
      split
      · exact hz
      · exact norm_nodes n v f y hs hb h
  · exact hz
noncomputable def restR : Code := match Tryz.f73.body with | some (.seq _ r) => r | _ => .skip
theorem rbR : recBody C0.P 73 = some (17, 5, 2, restR) := by
  rw [C0_P]
  unfold recBody
  rw [Tryz.func73]
  rfl
theorem adR_ret (x y : A) (s : St) : afterDefer C0 73 [x, y] (some (.ret, s)) = deferred C0 73 (17, 5, 2, restR) [x, y] .nili s := afterDefer_ret C0 _ _ rbR (by simp) s
theorem adR_pan (x y a : A) (s : St) : afterDefer C0 73 [x, y] (some (.pan a, s)) = deferred C0 73 (17, 5, 2, restR) [x, y] a s := afterDefer_pan C0 _ _ rbR (by simp) a s
def readV (f : Fun) (s : List UInt8) : Val × Bool := match pV f.nodes f s with
  | (none, _) => (zeroV, false)
  | (some v, t) => (v, decide (dropC 32 t = []))
set_option maxHeartbeats 4000000 in
theorem ev_Read (f : Fun) (hf : shapedF f = true) (s : List UInt8) (hs : Sm s) (m : Mem) :
    evCall C0 44 [.agg f.cells, .str s] m = some (.ret (.tup [.agg (readV f s).1.cells, .bool (readV f s).2]), m) := by
  rw [evCall_rec C0 (C0_ext _ (by decide)) (by rw [C0_P]; exact Tryz.func44) rfl (by rw [C0_ann]; rfl) (by decide) (by simp [Tryz.f44])]
  unfold readV
  rw [evRec_seq _ _ _ _ _ _ rfl]
  simp [Tryz.f44, a44, reg44, draw44, dok44]
  rw [evRec_defer _ _ _ _ _ _ (d := (7, 73, [.tmp 4, .tmp 5])) rfl (by decide)]
  have e1 := ev_vvalue (m.bx.length + 3) f.nodes f (Nat.le_refl _) hf s ⟨m.bx ++ [f.cells, [.int .i64 0, .nils, .nils], [.bool false], [.str s]], m.rw⟩ hs (by simp)
  cases hp : pV f.nodes f s with
  | mk o t =>
  rw [hp] at e1
  cases o with
  | none =>
    simp at e1
    simp [Tryz.f44, a44, reg44, draw44, dok44, Tryz.f73, a73, reg73, e1, adR_pan, deferred, restR, zeroV, wrongV]
  | some v =>
  simp at e1
  have e2 := ev_vnext (m.bx.length + 3) t ⟨m.bx ++ [f.cells, v.cells, [.bool false], [.str t]], m.rw⟩ (by simp)
  simp at e2
  cases hd : dropC 32 t with
  | nil =>
    simp [hd] at e2
    simp [Tryz.f44, a44, reg44, draw44, dok44, Tryz.f73, a73, reg73, e1, e2, adR_ret, deferred, restR, hd]
  | cons b r =>
    simp [hd] at e2
    have : ¬ (b :: r : List UInt8) = [] := by simp
    by_cases hb : b.toNat = 0
    · have hb' := eq_true hb
      simp [Tryz.f44, a44, reg44, draw44, dok44, Tryz.f73, a73, reg73, e1, e2, adR_ret, deferred, restR, hb, hd]
    · simp [Tryz.f44, a44, reg44, draw44, dok44, Tryz.f73, a73, reg73, e1, e2, adR_ret, deferred, restR, hb, hd]
def pParse (f : Fun) (n : Int) (s : List UInt8) : Val × Int := if errF f n = 0 then (if 40000 < s.length then (zeroV, 2) else if (readV f s).2 then rNorm f n (readV f s).1 else (zeroV, 11)) else (zeroV, errF f n)
theorem readV_cost {f : Fun} {s : List UInt8} (hs : Sm s) : (readV f s).1.nodes ≤ s.length + 1 ∧ slimV (readV f s).1 := by
  unfold readV
  cases hp : pV f.nodes f s with
  | mk o t =>
  cases o with
  | none => simp only; rw [Val.nodes_eq, slimV_eq]; simp [zeroV, Val.nodesL, slimL]
  | some v =>
    have := pV_cost _ _ _ hs _ _ hp
    exact ⟨by simp only; omega, this.2⟩
theorem ev_VParse (f : Fun) (n : Int) (hbf : f.nodes ≤ 1000000000) (s : List UInt8) (hs : Sm s) (m : Mem) :
    evCall C0 17 [.agg f.cells, .int .i64 n, .str s] m = some (.ret (.tup [.agg (pParse f n s).1.cells, .int .i64 (pParse f n s).2]), m) := by
  rw [evCall_body C0 (C0_ext _ (by decide)) (by rw [C0_P]; exact Tryz.func17) rfl (by rw [C0_ann]; rfl) (by decide) (by simp [Tryz.f17])]
  have he := ev_fine f n hbf
  simp at he
  unfold pParse
  by_cases h0 : errF f n = 0
  case neg => simp [Tryz.f17, a17, reg17, he, h0, zeroV]
  have hz := errF_zero h0
  simp [h0] at he
  by_cases hl : 40000 < s.length
  · simp [Tryz.f17, a17, reg17, he, h0, hl, show (40000 : Int) < s.length by omega, zeroV]
  have h1 := ev_Read f hz.1 s hs
  have hc := readV_cost (f := f) hs
  unfold Sm at hs
  have h2 := ev_vnormal f n (readV f s).1 hz.1 (by omega) hc.2
  simp at h1 h2
  cases hr : (readV f s).2 with
  | false =>
    simp [hr] at h1
    simp [Tryz.f17, a17, reg17, he, h0, hl, show ¬ (40000 : Int) < s.length by omega, h1, zeroV]
  | true =>
    simp [hr] at h1
    simp [Tryz.f17, a17, reg17, he, h0, hl, show ¬ (40000 : Int) < s.length by omega, h1, h2]
mutual
theorem ok_loose {ex : Fun → List Val → List Int → Bool} (n : Int) : ∀ (v : Val) (f : Fun), okV ex n v f = true → okV exL n v f = true
  | .mk k l w, f, h => by
    rw [okV, Bool.and_eq_true, Bool.and_eq_true] at h ⊢
    exact ⟨⟨h.1.1, rfl⟩, okL_loose n l _ 0 h.2⟩
theorem okL_loose {ex : Fun → List Val → List Int → Bool} (n : Int) : ∀ (l : List Val) (g : Nat → Fun) (i : Nat), okL ex n l g i = true → okL exL n l g i = true
  | [], g, i, h => by rw [okL]
  | v :: r, g, i, h => by
    rw [okL, Bool.and_eq_true] at h ⊢
    exact ⟨ok_loose n v _ h.1, okL_loose n r _ _ h.2⟩
end
theorem errV_zero {f : Fun} {n : Int} {v : Val} (h0 : errV f n v = 0) : errF f n = 0 ∧ okV exS n v f = true ∧ v.nodes ≤ 2000 := by
  unfold errV at h0
  by_cases hx : errF f n = 0
  · rw [if_pos hx] at h0
    refine ⟨hx, ?_⟩
    cases hc : (chkV exS n v f 2000).1
    · rw [hc] at h0; simp at h0
    · have := ((chkV_spec exS n v f 2000 (by omega)).1).1 hc
      exact ⟨this.2, by omega⟩
  · rw [if_neg hx] at h0; exact absurd h0 hx
def joinC : List (List UInt8) → List UInt8
  | [] => []
  | [t] => t
  | t :: u :: r => t ++ ([44, 32] ++ joinC (u :: r))
def wtx : List (List UInt8) → List Int → List (List UInt8)
  | t :: r, w :: q => (t ++ ([32, 58, 32] ++ Lib.itoa w)) :: wtx r q
  | l, _ => l
def elemsT (kind : Int) (ts : List (List UInt8)) (ws : List Int) : List (List UInt8) := if 6 ≤ kind then wtx ts ws else ts
def aroundV (kind k : Int) (ts : List (List UInt8)) (ws : List Int) : List UInt8 :=
  if kind = 2 then 40 :: (joinC ts ++ [41]) else if kind = 3 then (if k = 0 then [108, 32] else [114, 32]) ++ ts.headD [] else if kind = 4 then 91 :: (joinC ts ++ [93]) else 123 :: (joinC (elemsT kind ts ws) ++ [125])
mutual
def textV : Val → Fun → List UInt8
  | .mk k l w, f => if f.kind = 0 ∨ f.kind = 1 then Lib.itoa k else aroundV f.kind k (textL l (argF f k) 0) w
def textL : List Val → (Nat → Fun) → Nat → List (List UInt8)
  | [], _, _ => []
  | v :: r, g, i => textV v (g i) :: textL r g (i + 1)
end
theorem textV_eq (v : Val) (f : Fun) : textV v f = if f.kind = 0 ∨ f.kind = 1 then Lib.itoa v.num else aroundV f.kind v.num (textL v.args (argF f v.num) 0) v.ws := by cases v; rw [textV]; rfl
theorem textL_length : ∀ (l : List Val) (g : Nat → Fun) (i : Nat), (textL l g i).length = l.length
  | [], g, i => by rw [textL]; rfl
  | v :: r, g, i => by rw [textL, List.length_cons, List.length_cons, textL_length r g (i + 1)]
theorem textL_at : ∀ (l : List Val) (g : Nat → Fun) (i j : Nat) (h : j < l.length), (textL l g i)[j]'(by rw [textL_length]; exact h) = textV l[j] (g (i + j))
  | v :: r, g, i, 0, h => by simp only [textL]; rfl
  | v :: r, g, i, j + 1, h => by
    have := textL_at r g (i + 1) j (by simpa using h)
    simp only [textL, List.getElem_cons_succ]
    rw [this]
    congr 2
    omega
theorem joinC_snoc : ∀ (l : List (List UInt8)) (t : List UInt8), l ≠ [] → joinC (l ++ [t]) = joinC l ++ ([44, 32] ++ t)
  | [a], t, _ => rfl
  | a :: b :: r, t, _ => by
    have := joinC_snoc (b :: r) t (by simp)
    simp only [List.cons_append, joinC] at this ⊢
    rw [this]
    simp
theorem wtx_length : ∀ (ts : List (List UInt8)) (ws : List Int), (wtx ts ws).length = ts.length
  | [], ws => by rw [wtx]; intro t r w q h; cases h
  | t :: r, [] => by rw [wtx]; intro t r w q _ h; cases h
  | t :: r, w :: q => by rw [wtx, List.length_cons, List.length_cons, wtx_length r q]
theorem wtx_at : ∀ (ts : List (List UInt8)) (ws : List Int) (i : Nat) (h : i < ts.length) (h' : i < ws.length), (wtx ts ws)[i]'(by rw [wtx_length]; exact h) = ts[i] ++ ([32, 58, 32] ++ Lib.itoa ws[i])
  | t :: r, w :: q, 0, _, _ => by simp only [wtx]; rfl
  | t :: r, w :: q, i + 1, h, h' => by
    have := wtx_at r q i (by simpa using h) (by simpa using h')
    simp only [wtx, List.getElem_cons_succ]
    exact this
theorem dec_len : ∀ (k u : Nat), u < 10 ^ (k + 1) → (Lib.decDigits u).length ≤ k + 1
  | 0, u, h => by rw [Lib.decDigits, dif_pos (by simpa using h)]; simp
  | k + 1, u, h => by
    rw [Lib.decDigits]
    split
    · simp
    · rw [List.length_append]
      have := dec_len k (u / 10) (by rw [Nat.pow_succ] at h; omega)
      simp
      omega
theorem itoa_len {n : Int} (h0 : 0 ≤ n) (h1 : n < 10000000) : (Lib.itoa n).length ≤ 7 := by
  unfold Lib.itoa
  rw [if_neg (by omega)]
  exact dec_len 6 n.toNat (by omega)
def sumL (l : List (List UInt8)) : Nat := (l.map List.length).sum
theorem joinC_len : ∀ l : List (List UInt8), (joinC l).length ≤ sumL l + 2 * l.length
  | [] => by simp [joinC]
  | [t] => by simp [joinC, sumL]
  | t :: u :: r => by
    have := joinC_len (u :: r)
    simp only [joinC, sumL, List.length_append, List.map_cons, List.sum_cons, List.length_cons, List.length_nil] at this ⊢
    omega
theorem mem_sumL {l : List (List UInt8)} {t : List UInt8} (h : t ∈ l) : t.length ≤ sumL l := by
  induction l with
  | nil => cases h
  | cons a r ih =>
    unfold sumL at *
    simp only [List.map_cons, List.sum_cons]
    rcases List.mem_cons.1 h with rfl | h
    · omega
    · have := ih h; omega
theorem joinC_take (l : List (List UInt8)) (i : Nat) : (joinC (l.take i)).length ≤ sumL l + 2 * l.length := by
  have h1 := joinC_len (l.take i)
  have h2 : sumL (l.take i) ≤ sumL l := by
    unfold sumL
    have h3 : (l.map List.length).sum = ((l.take i).map List.length).sum + ((l.drop i).map List.length).sum := by
      rw [← List.sum_append, ← List.map_append, List.take_append_drop]
    omega
  have h4 : (l.take i).length ≤ l.length := List.length_take_le' i l
  omega
theorem wtx_sum : ∀ (ts : List (List UInt8)) (ws : List Int), (∀ w, w ∈ ws → 0 ≤ w ∧ w < 10000000) → sumL (wtx ts ws) ≤ sumL ts + 10 * ts.length
  | [], ws, _ => by rw [wtx]; · simp [sumL]
                    · intro t r w q h; cases h
  | t :: r, [], _ => by rw [wtx]; · omega
                        · intro t r w q _ h; cases h
  | t :: r, w :: q, h => by
    have := wtx_sum r q fun x hx => h x (List.mem_cons_of_mem _ hx)
    have hw := h w List.mem_cons_self
    have := itoa_len hw.1 hw.2
    rw [wtx]
    unfold sumL at *
    simp only [List.map_cons, List.sum_cons, List.length_append, List.length_cons, List.length_nil] at *
    omega
theorem int_mem_sum : ∀ {o : List Int} {q : Int}, (∀ p, p ∈ o → 1 ≤ p) → q ∈ o → q ≤ o.sum
  | p :: r, q, h, hq => by
    have h1 := int_sum_pos fun q hq => h q (List.mem_cons_of_mem p hq)
    have h2 := h p List.mem_cons_self
    simp only [List.sum_cons]
    rcases List.mem_cons.1 hq with rfl | hq
    · omega
    · have := int_mem_sum (fun q hq => h q (List.mem_cons_of_mem p hq)) hq
      omega
theorem head_ws {n : Int} {f : Fun} {k : Int} {m : Nat} {w : List Int} (h : headL n f k m w = true) : (∀ x, x ∈ w → 1 ≤ x ∧ x ≤ 1048576) ∧ (wtd f.kind = true → w.length = m) := by
  have h2 := (head_num h).2.1
  unfold headL at h
  simp only [Bool.and_eq_true] at h
  obtain ⟨_, h3⟩ := h
  cases hw : wtd f.kind
  · rw [h2 hw]
    exact ⟨fun x hx => (List.not_mem_nil hx).elim, fun h => Bool.noConfusion h⟩
  · rw [hw, if_pos rfl] at h3
    simp only [Bool.and_eq_true, decide_eq_true_eq] at h3
    have h4 := (weighI_iff w 0 (by omega)).1 h3.1.1
    exact ⟨fun x hx => ⟨h4.1 x hx, by have := int_mem_sum h4.1 hx; omega⟩, fun _ => h3.1.2⟩
theorem head_range {n : Int} {f : Fun} {k : Int} {m : Nat} {w : List Int} (hf : shapedF f = true) (hn : n ≤ 1000000) (h : headL n f k m w = true) : 0 ≤ k ∧ k < 10000000 ∧ k ≤ (if f.kind = 0 then n - 1 else if f.kind = 1 then f.num - 1 else if f.kind = 3 then 1 else 0) := by
  unfold headL at h
  simp only [Bool.and_eq_true, decide_eq_true_eq] at h
  obtain ⟨⟨_, h2⟩, _⟩ := h
  have := shaped_num hf
  refine ⟨h2.1, ?_, h2.2⟩
  have h3 := h2.2
  split at h3
  · omega
  split at h3
  · omega
  split at h3 <;> omega
mutual
theorem textV_len {ex : Fun → List Val → List Int → Bool} {n : Int} (hn : n ≤ 1000000) : ∀ (v : Val) (f : Fun), shapedF f = true → okV ex n v f = true → (textV v f).length + 14 ≤ 30 * v.nodes
  | .mk k l w, f, hf, h => by
    rw [okV, Bool.and_eq_true, Bool.and_eq_true] at h
    obtain ⟨⟨hh, _⟩, hl⟩ := h
    have hr := head_range hf hn hh
    have hw := head_ws hh
    rw [textV]
    split
    · have := itoa_len hr.1 hr.2.1
      have := Val.nodes_pos (.mk k l w)
      omega
    · rename_i h01
      have hs := argF_shaped hf (fun e => h01 (.inl e)) (fun e => h01 (.inr e)) hh
      have ih := textL_len hn l (argF f k) 0 hs hl
      have hln := textL_length l (argF f k) 0
      have h1 := joinC_len (textL l (argF f k) 0)
      have h2 := joinC_len (elemsT f.kind (textL l (argF f k) 0) w)
      have h3 : sumL (elemsT f.kind (textL l (argF f k) 0) w) ≤ sumL (textL l (argF f k) 0) + 10 * (textL l (argF f k) 0).length ∧ (elemsT f.kind (textL l (argF f k) 0) w).length = (textL l (argF f k) 0).length := by
        unfold elemsT
        split
        · exact ⟨wtx_sum _ _ fun x hx => by have := hw.1 x hx; omega, wtx_length _ _⟩
        · exact ⟨by omega, rfl⟩
      rw [Val.nodes_eq]
      simp only [Val.args_mk]
      unfold aroundV
      split
      · simp; omega
      split
      · have h4 : ((textL l (argF f k) 0).headD []).length ≤ sumL (textL l (argF f k) 0) := by
          cases textL l (argF f k) 0 with
          | nil => simp
          | cons a r => simp [sumL]
        split <;> (simp only [List.length_append, List.length_cons, List.length_nil]; omega)
      split
      · simp; omega
      · simp; omega
theorem textL_len {ex : Fun → List Val → List Int → Bool} {n : Int} (hn : n ≤ 1000000) : ∀ (l : List Val) (g : Nat → Fun) (i : Nat), (∀ j, j < l.length → shapedF (g (i + j)) = true) → okL ex n l g i = true → sumL (textL l g i) + 14 * l.length ≤ 30 * Val.nodesL l
  | [], g, i, _, _ => by rw [textL]; simp [sumL]
  | v :: r, g, i, hs, h => by
    rw [okL, Bool.and_eq_true] at h
    have a := textV_len hn v (g i) (hs 0 (by simp)) h.1
    have b := textL_len hn r g (i + 1) (fun j hj => by have := hs (j + 1) (by simpa using hj); rwa [show i + (j + 1) = i + 1 + j by omega] at this) h.2
    rw [textL, Val.nodesL]
    unfold sumL at *
    simp only [List.map_cons, List.sum_cons, List.length_cons]
    omega
end
def TextAt (ex : Fun → List Val → List Int → Bool) (n : Int) (v : Val) : Prop := ∀ f, shapedF f = true → okV ex n v f = true → ∀ m : Mem, evCall C0 40 [.agg f.cells, .agg v.cells] m = some (.ret (.str (textV v f)), m)
section
variable {ex : Fun → List Val → List Int → Bool} {n : Int}
set_option maxHeartbeats 4000000 in
theorem text_plain (hn : n ≤ 1000000) (v : Val) (hb : v.nodes ≤ 1000000) (H : ∀ u, u ∈ v.args → TextAt ex n u) (f : Fun) (hf : shapedF f = true) (hok : okV ex n v f = true) (hk : f.kind ≤ 3) (m : Mem) :
    evCall C0 40 [.agg f.cells, .agg v.cells] m = some (.ret (.str (textV v f)), m) := by
  have hlen := textV_len hn v f hf hok
  rw [okV_eq, Bool.and_eq_true, Bool.and_eq_true] at hok
  obtain ⟨⟨hh, _⟩, hokl⟩ := hok
  have hr := head_range hf hn hh
  have hh' := hh
  unfold headL at hh'
  simp only [Bool.and_eq_true] at hh'
  obtain ⟨⟨q1, q2⟩, q3⟩ := hh'
  have hin := ev_Itoa v.num (by omega) (by omega)
  rw [textV_eq] at hlen ⊢
  rw [evCall_body C0 (C0_ext _ (by decide)) (by rw [C0_P]; exact Tryz.func40) rfl (by rw [C0_ann]; rfl) (by decide) (by simp [Tryz.f40])]
  rcases shaped_kind hf with ⟨h0, hl⟩ | ⟨h0, hl⟩ | ⟨h0, hl⟩ | ⟨h0, hl⟩ | ⟨h0, hl⟩ | ⟨h0, hl⟩ | ⟨h0, hl⟩ | ⟨h0, hl⟩
  · simp [Tryz.f40, a40, reg40, loop40, draw40, dok40, h0, hin]
  · simp [Tryz.f40, a40, reg40, loop40, draw40, dok40, h0, hin]
  · simp [h0, hl] at q1
    have a0 : 0 < v.args.length := by omega
    have a1 : 1 < v.args.length := by omega
    have f0 : 0 < f.args.length := by omega
    have f1 : 1 < f.args.length := by omega
    have g0 : argF f v.num 0 = f.args[0] := by unfold argF; rw [if_pos h0, List.getD_eq_getElem?_getD, List.getElem?_eq_getElem f0]; rfl
    have g1 : argF f v.num 1 = f.args[1] := by unfold argF; rw [if_pos h0, List.getD_eq_getElem?_getD, List.getElem?_eq_getElem f1]; rfl
    have b1 := Fun.at_cellsL f.args 0 f0
    have b2 := Fun.at_cellsL f.args 1 f1
    have b3 := Val.at_cellsL v.args 0 a0
    have b4 := Val.at_cellsL v.args 1 a1
    simp at b1 b2 b3 b4
    have o0 := okL_mem hokl 0 a0
    have o1 := okL_mem hokl 1 a1
    rw [Nat.zero_add] at o0 o1
    rw [g0] at o0
    rw [g1] at o1
    have he0 := H v.args[0] (List.getElem_mem a0) f.args[0] (shaped_arg hf f0) o0
    have he1 := H v.args[1] (List.getElem_mem a1) f.args[1] (shaped_arg hf f1) o1
    have hm : textL v.args (argF f v.num) 0 = [textV v.args[0] f.args[0], textV v.args[1] f.args[1]] := by
      have hl2 : (textL v.args (argF f v.num) 0).length = 2 := by rw [textL_length]; omega
      have t0 := textL_at v.args (argF f v.num) 0 0 a0
      have t1 := textL_at v.args (argF f v.num) 0 1 a1
      rw [Nat.zero_add] at t0 t1
      rw [g0] at t0
      rw [g1] at t1
      rw [← t0, ← t1]
      exact List.ext_getElem (by simp [hl2]) fun i h1 h2 => by
        match i, h2 with
        | 0, _ => rfl
        | 1, _ => rfl
    rw [hm] at hlen ⊢
    simp at he0 he1
    generalize textV v.args[0] f.args[0] = t0 at *
    generalize textV v.args[1] f.args[1] = t1 at *
    simp [h0, aroundV, joinC] at hlen
    simp [Tryz.f40, a40, reg40, loop40, draw40, dok40, h0, show v.args.length = 2 by omega, hl, b1, b2, b3, b4, he0, he1, aroundV, joinC]
    repeat (rw [if_pos (by omega)]; simp [Tryz.f40, a40, reg40, loop40, draw40, dok40, h0, show v.args.length = 2 by omega, hl, b1, b2, b3, b4, he0, he1, aroundV, joinC])
  · simp [h0] at q1
    have a0 : 0 < v.args.length := by omega
    have f0 : 0 < f.args.length := by omega
    have f1 : 1 < f.args.length := by omega
    have b1 := Fun.at_cellsL f.args 0 f0
    have b2 := Fun.at_cellsL f.args 1 f1
    have b3 := Val.at_cellsL v.args 0 a0
    simp at b1 b2 b3
    have o0 := okL_mem hokl 0 a0
    rw [Nat.zero_add] at o0
    have hm : textL v.args (argF f v.num) 0 = [textV v.args[0] (argF f v.num 0)] := by
      have hl2 : (textL v.args (argF f v.num) 0).length = 1 := by rw [textL_length]; omega
      have t0 := textL_at v.args (argF f v.num) 0 0 a0
      rw [Nat.zero_add] at t0
      rw [← t0]
      exact List.ext_getElem (by simp [hl2]) fun i h1 h2 => by
        match i, h2 with
        | 0, _ => rfl
    rw [hm] at hlen ⊢
    by_cases cn : v.num = 0
    · have g0 : argF f v.num 0 = f.args[0] := by unfold argF; rw [if_neg (by omega), if_pos h0, cn, List.getD_eq_getElem?_getD, List.getElem?_eq_getElem (by simpa using f0)]; rfl
      rw [g0] at o0 hlen ⊢
      have he0 := H v.args[0] (List.getElem_mem a0) f.args[0] (shaped_arg hf f0) o0
      simp at he0
      generalize textV v.args[0] f.args[0] = t0 at *
      simp [h0, aroundV, cn] at hlen
      simp [Tryz.f40, a40, reg40, loop40, draw40, dok40, h0, q1.2, hl, b1, b2, b3, he0, cn, aroundV]
      repeat (rw [if_pos (by omega)]; simp [Tryz.f40, a40, reg40, loop40, draw40, dok40, h0, q1.2, hl, b1, b2, b3, he0, cn, aroundV])
    · have cm : v.num = 1 := by omega
      have g0 : argF f v.num 0 = f.args[1] := by unfold argF; rw [if_neg (by omega), if_pos h0, cm, List.getD_eq_getElem?_getD, List.getElem?_eq_getElem (by simpa using f1)]; rfl
      rw [g0] at o0 hlen ⊢
      have he0 := H v.args[0] (List.getElem_mem a0) f.args[1] (shaped_arg hf f1) o0
      simp at he0
      generalize textV v.args[0] f.args[1] = t0 at *
      have w2 : IntKind.i64.wrap 2 = 2 := by decide
      simp [h0, aroundV, cm] at hlen
      simp [Tryz.f40, a40, reg40, loop40, draw40, dok40, h0, q1.2, hl, b1, b2, b3, he0, cm, aroundV, w2]
      repeat (rw [if_pos (by omega)]; simp [Tryz.f40, a40, reg40, loop40, draw40, dok40, h0, q1.2, hl, b1, b2, b3, he0, cm, aroundV, w2])
  all_goals omega
set_option maxHeartbeats 4000000 in
theorem text_many (hn : n ≤ 1000000) (v : Val) (hb : v.nodes ≤ 1000000) (H : ∀ u, u ∈ v.args → TextAt ex n u) (f : Fun) (hf : shapedF f = true) (hok : okV ex n v f = true) (hk : 4 ≤ f.kind) (m : Mem) :
    evCall C0 40 [.agg f.cells, .agg v.cells] m = some (.ret (.str (textV v f)), m) := by
  have hlen := textV_len hn v f hf hok
  rw [okV_eq, Bool.and_eq_true, Bool.and_eq_true] at hok
  obtain ⟨⟨hh, _⟩, hokl⟩ := hok
  have hws := head_ws hh
  have hlna := v.length_args
  have hfl : f.args.length = 1 := by have := shaped_kind hf; omega
  have hk7 : f.kind ≤ 7 := by have := shaped_kind hf; omega
  have f0 : 0 < f.args.length := by omega
  have b1 := Fun.at_cellsL f.args 0 f0
  simp at b1
  have hg : ∀ j, argF f v.num j = f.args[0] := fun j => by
    unfold argF
    rw [if_neg (by omega), if_neg (by omega), List.getD_eq_getElem?_getD, List.getElem?_eq_getElem f0]
    rfl
  have k4 : ¬ f.kind = 0 ∧ ¬ f.kind = 1 ∧ ¬ f.kind = 2 ∧ ¬ f.kind = 3 := by omega
  have hs4 := argF_shaped hf k4.1 k4.2.1 hh
  have hsum := textL_len hn v.args (argF f v.num) 0 hs4 hokl
  have hvn := v.nodes_eq
  have htl := textL_length v.args (argF f v.num) 0
  have hta := fun j h => textL_at v.args (argF f v.num) 0 j h
  rw [textV_eq, if_neg (by omega)]
  have hE : ∃ E : List (List UInt8), E = elemsT f.kind (textL v.args (argF f v.num) 0) v.ws ∧ E.length = v.args.length ∧ sumL E ≤ sumL (textL v.args (argF f v.num) 0) + 10 * v.args.length := by
    refine ⟨_, rfl, ?_, ?_⟩
    · unfold elemsT
      split
      · rw [wtx_length, htl]
      · exact htl
    · unfold elemsT
      split
      · have := wtx_sum (textL v.args (argF f v.num) 0) v.ws fun x hx => by have := hws.1 x hx; omega
        rw [htl] at this
        exact this
      · omega
  obtain ⟨E, hEe, hEl, hEs⟩ := hE
  have hEat : ∀ (j : Nat) (h : j < v.args.length), E[j]'(by omega) = textV v.args[j] f.args[0] ++ (if h6 : 6 ≤ f.kind then [32, 58, 32] ++ Lib.itoa (v.ws.getD j 0) else []) := fun j h => by
    have h1 := hta j h
    rw [hg] at h1
    subst hEe
    unfold elemsT
    by_cases h6 : 6 ≤ f.kind
    · have hwt : wtd f.kind = true := by unfold wtd; simp; omega
      have hwl := hws.2 hwt
      simp only [if_pos h6, dif_pos h6]
      rw [wtx_at _ _ j (by rw [htl]; exact h) (by omega), h1, List.getD_eq_getElem?_getD, List.getElem?_eq_getElem (by omega)]
      rfl
    · simp only [if_neg h6, dif_neg h6, List.append_nil]
      exact h1
  have hfin : aroundV f.kind v.num (textL v.args (argF f v.num) 0) v.ws = (if f.kind = 4 then [91] else [123]) ++ joinC E ++ (if f.kind = 4 then [93] else [125]) := by
    unfold aroundV
    rw [if_neg k4.2.2.1, if_neg k4.2.2.2, hEe]
    by_cases h4 : f.kind = 4
    · rw [if_pos h4, if_pos h4, if_pos h4]
      unfold elemsT
      rw [if_neg (by omega)]
      rfl
    · rw [if_neg h4, if_neg h4, if_neg h4]
      rfl
  rw [hfin]
  have hjl := fun i => joinC_take E i
  have hbig : sumL E + 2 * E.length ≤ 100000000 := by omega
  have hopn : ∃ o c : UInt8, (if f.kind = 4 then [91] else [123]) = [o] ∧ (if f.kind = 4 then ([93] : List UInt8) else [125]) = [c] ∧ (f.kind = 4 → o = 91 ∧ c = 93) ∧ (¬ f.kind = 4 → o = 123 ∧ c = 125) := by
    by_cases h4 : f.kind = 4
    · exact ⟨91, 93, by rw [if_pos h4], by rw [if_pos h4], fun _ => ⟨rfl, rfl⟩, fun h => absurd h4 h⟩
    · exact ⟨123, 125, by rw [if_neg h4], by rw [if_neg h4], fun h => absurd h h4, fun _ => ⟨rfl, rfl⟩⟩
  obtain ⟨op, cl, ho, hc, ho4, hc4⟩ := hopn
  rw [ho, hc]
  rw [evCall_body C0 (C0_ext _ (by decide)) (by rw [C0_P]; exact Tryz.func40) rfl (by rw [C0_ann]; rfl) (by decide) (by simp [Tryz.f40])]
  by_cases h4 : f.kind = 4
  case' pos =>
    obtain ⟨e1, e2⟩ := ho4 h4
    have h6 : ¬ 6 ≤ f.kind := by omega
    simp [Tryz.f40, a40, reg40, loop40, draw40, dok40, h4]
  case' neg =>
    obtain ⟨e1, e2⟩ := hc4 h4
    simp [Tryz.f40, a40, reg40, loop40, draw40, dok40, k4, h4]
  all_goals
    refine loop_in (fun i : Nat => ⟨[(2, .ptr m.bx.length 0), (3, .ptr (m.bx.length + 1) 0), (5, .str (op :: joinC (E.take i))), (6, .str [cl]), (66, .isl false v.args.length (Val.cellsL v.args)), (67, .int .i64 v.args.length), (68, .int .i64 i)],
        ⟨m.bx ++ [f.cells, v.cells], m.rw⟩⟩)
      (fun i => some (.ret (.str (op :: (joinC E ++ [cl]))), m)) (fun i => v.args.length - i) (fun i => i ≤ v.args.length) 0 ?_ ?_ ?_ ?_ ?_
    · simp [joinC, h4, e1, e2]
    · simp
    · omega
    · intro x; simp [Tryz.f40, a40, reg40, loop40, draw40, dok40]
    · intro i hi hrec
      by_cases hlt : i < v.args.length
      · have w2 : IntKind.i64.wrap (i + 1) = i + 1 := wrap_id _ (by omega)
        have h3 : (i + 1) * 3 ≤ v.args.length * 3 := by omega
        have o0 := okL_mem hokl i hlt
        rw [Nat.zero_add, hg] at o0
        have he := H v.args[i] (List.getElem_mem hlt) f.args[0] (shaped_arg hf f0) o0
        have hEi := hEat i hlt
        have hiE : i < E.length := by omega
        have htk : E.take (i + 1) = E.take i ++ [E[i]] := List.take_succ_eq_append_getElem hiE
        have hml := mem_sumL (List.getElem_mem hiE)
        have hj := hjl i
        have hd0 := Val.at_cellsL v.args i hlt
        simp at he hd0
        have hnx : joinC (E.take (i + 1)) = if i = 0 then E[i] else joinC (E.take i) ++ ([44, 32] ++ E[i]) := by
          rw [htk]
          split
          · rename_i h0
            subst h0
            rfl
          · exact joinC_snoc _ _ fun h => by
              have := congrArg List.length h
              rw [List.length_take, List.length_nil] at this
              omega
        rw [hEi] at hnx hml
        generalize textV v.args[i] f.args[0] = T at *
        by_cases h6 : 6 ≤ f.kind
        · first | (exfalso; omega) | skip
          all_goals
            rw [dif_pos h6] at hnx hml
            have hwt : wtd f.kind = true := by unfold wtd; simp; omega
            have hiw : i < v.ws.length := by rw [hws.2 hwt]; exact hlt
            have hwx := hws.1 _ (List.getElem_mem hiw)
            have hgd : v.ws.getD i 0 = v.ws[i] := by rw [List.getD_eq_getElem?_getD, List.getElem?_eq_getElem hiw]; rfl
            rw [hgd] at hnx hml
            have hat := ints_at hiw
            have hit := ev_Itoa v.ws[i] (by omega) (by omega)
            generalize Lib.itoa v.ws[i] = W at *
            simp at hml
            by_cases hi0 : i = 0
            · rw [if_pos hi0] at hnx
              have hJ : joinC (E.take i) = [] := by rw [hi0]; rfl
              rw [hJ] at hj ⊢
              subst hi0
              simp at he hd0 hat
              simp [round, Tryz.f40, a40, reg40, loop40, draw40, dok40, h4, k4, hlt, w2, h3, hfl, b1, he, hd0, h6, hat, hit, hiw, show 1 ≤ v.ws.length by omega, endRound_M]
              repeat (rw [if_pos (by omega)]; simp [round, Tryz.f40, a40, reg40, loop40, draw40, dok40, h4, k4, hlt, w2, h3, hfl, b1, he, hd0, h6, hat, hit, hiw, show 1 ≤ v.ws.length by omega, endRound_M])
              refine hrec 1 _ _ ?_ ?_ ?_ ?_
              · omega
              · omega
              · simp [hnx, hfl, h4]
              · simp
            · rw [if_neg hi0] at hnx
              have hi1 : 0 < i := by omega
              generalize joinC (E.take i) = J at *
              simp [round, Tryz.f40, a40, reg40, loop40, draw40, dok40, h4, k4, hlt, w2, h3, hfl, b1, he, hd0, hi0, hi1, h6, hat, hit, hiw, show i + 1 ≤ v.ws.length by omega, endRound_M]
              repeat (rw [if_pos (by omega)]; simp [round, Tryz.f40, a40, reg40, loop40, draw40, dok40, h4, k4, hlt, w2, h3, hfl, b1, he, hd0, hi0, hi1, h6, hat, hit, hiw, show i + 1 ≤ v.ws.length by omega, endRound_M])
              refine hrec (i + 1) _ _ ?_ ?_ ?_ ?_
              · omega
              · omega
              · simp [hnx, hfl, h4]
              · simp
        · rw [dif_neg h6] at hnx hml
          simp at hml
          by_cases hi0 : i = 0
          · rw [if_pos hi0] at hnx
            have hJ : joinC (E.take i) = [] := by rw [hi0]; rfl
            rw [hJ] at hj ⊢
            subst hi0
            simp at he hd0
            simp [round, Tryz.f40, a40, reg40, loop40, draw40, dok40, h4, k4, hlt, w2, h3, hfl, b1, he, hd0, h6, endRound_M]
            repeat (rw [if_pos (by omega)]; simp [round, Tryz.f40, a40, reg40, loop40, draw40, dok40, h4, k4, hlt, w2, h3, hfl, b1, he, hd0, h6, endRound_M])
            refine hrec 1 _ _ ?_ ?_ ?_ ?_
            · omega
            · omega
            · simp [hnx, hfl, h4]
            · simp
          · rw [if_neg hi0] at hnx
            have hi1 : 0 < i := by omega
            generalize joinC (E.take i) = J at *
            simp [round, Tryz.f40, a40, reg40, loop40, draw40, dok40, h4, k4, hlt, w2, h3, hfl, b1, he, hd0, hi0, hi1, h6, endRound_M]
            repeat (rw [if_pos (by omega)]; simp [round, Tryz.f40, a40, reg40, loop40, draw40, dok40, h4, k4, hlt, w2, h3, hfl, b1, he, hd0, hi0, hi1, h6, endRound_M])
            refine hrec (i + 1) _ _ ?_ ?_ ?_ ?_
            · omega
            · omega
            · simp [hnx, hfl, h4]
            · simp
      · clear hrec
        have hie : i = v.args.length := by omega
        subst hie
        rw [List.take_of_length_le (by omega)]
        have hj := hjl E.length
        rw [List.take_of_length_le (by omega)] at hj
        generalize joinC E = J at *
        simp [round, Tryz.f40, a40, reg40, loop40, draw40, dok40, hlt]
        repeat (rw [if_pos (by omega)]; simp [round, Tryz.f40, a40, reg40, loop40, draw40, dok40, hlt])
theorem ev_VText (hn : n ≤ 1000000) (N : Nat) : ∀ (v : Val), v.nodes ≤ N → v.nodes ≤ 1000000 → TextAt ex n v := by
  induction N with
  | zero => intro v hN; have := v.nodes_pos; omega
  | succ N ih =>
  intro v hN hb f hf hok m
  have H : ∀ u, u ∈ v.args → TextAt ex n u := fun u hu => ih u (by have := Val.nodes_arg hu; omega) (by have := Val.nodes_arg hu; omega)
  by_cases hk : f.kind ≤ 3
  · exact text_plain hn v hb H f hf hok hk m
  · exact text_many hn v hb H f hf hok (by omega) m
end
def pStr (f : Fun) (n : Int) (v : Val) : List UInt8 × Int := if errV f n v = 0 then (textV v f, 0) else ([], errV f n v)
theorem ev_VString (f : Fun) (n : Int) (v : Val) (hbf : f.nodes ≤ 1000000000) (hb : v.nodes ≤ 1000000) (hs : slimV v) (m : Mem) :
    evCall C0 15 [.agg f.cells, .int .i64 n, .agg v.cells] m = some (.ret (.tup [.str (pStr f n v).1, .int .i64 (pStr f n v).2]), m) := by
  rw [evCall_body C0 (C0_ext _ (by decide)) (by rw [C0_P]; exact Tryz.func15) rfl (by rw [C0_ann]; rfl) (by decide) (by simp [Tryz.f15])]
  have he := ev_whole f n v hbf (by omega) hs
  simp at he
  unfold pStr
  by_cases h0 : errV f n v = 0
  case neg => simp [Tryz.f15, a15, reg15, he, h0]
  obtain ⟨h1, h2, h3⟩ := errV_zero h0
  have hz := errF_zero h1
  have ht := ev_VText (n := n) (ex := exS) (by omega) v.nodes v (Nat.le_refl _) hb f hz.1 h2
  simp at ht
  simp [h0] at he
  simp [Tryz.f15, a15, reg15, he, h0, ht]
theorem digN_cons {b : UInt8} (h : isDig b = false) (r : List UInt8) : digN (b :: r) = 0 := by unfold digN; simp [h]
theorem digN_consT {b : UInt8} (h : isDig b = true) (r : List UInt8) : digN (b :: r) = digN r + 1 := by unfold digN; simp [h]
end AE
end Go.Proofs.YthoomlenmgdebaaGreatDoor
