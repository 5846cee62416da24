/- Each operation of the evaluator does what the model's operation does: what makes memory; and all of them together. -/
import Derived.Test.YthoomlenmgdebaaGreatDoorAE7
set_option linter.unusedVariables false
set_option linter.unusedSimpArgs false
set_option maxHeartbeats 800000
namespace Go.Proofs.YthoomlenmgdebaaGreatDoor
namespace AE
open Go Go.RowKit

section
variable {P : Program} {gl : Nat → A} {w0 : World} {g : Gh} {m : Mem} {w : World}

theorem mod_cells (zs : Array Value) : ∀ n, ((List.range (n * zs.size)).map fun i => zs[i % zs.size]!) = (List.replicate n zs.toList).flatten
  | 0 => by simp
  | n + 1 => by
    rw [Nat.add_mul, Nat.one_mul, List.range_add, List.map_append, mod_cells zs n, List.replicate_succ', List.flatten_append]
    congr 1
    simp only [List.map_map, List.flatten_cons, List.flatten_nil, List.append_nil]
    apply List.ext_getElem?
    intro j
    rw [List.getElem?_map]
    by_cases hj : j < zs.size
    · have h1 : (n * zs.size + j) % zs.size = j := by rw [Nat.mul_comm, Nat.mul_add_mod, Nat.mod_eq_of_lt hj]
      simp [hj, h1]
    · rw [List.getElem?_eq_none (by simp; omega), List.getElem?_eq_none (by simp; omega)]
      rfl

theorem range_cells (zs : Array Value) (n k : Nat) (hk : k = n * zs.size) : ((Array.range k).map (zs[· % zs.size]!)).toList = (List.replicate n zs.toList).flatten := by
  subst hk
  rw [Array.toList_map, Array.toList_range]
  exact mod_cells zs n

theorem buildSliceA_good (hs : SR P gl w0 g m w) {t : TypeId} {n : Nat} {parts : List (Nat × A)} {pvs : Array (Nat × Value)} {a : A} (h : buildSliceA P t n parts = some a) (hp : VRp w g parts pvs.toList) :
    ∃ v w' g', (Instr.buildSlice t n pvs).run P w = .ok v w' ∧ VR w' g' a v ∧ SR P gl w0 g' m w' ∧ Ext w g w' g' := by
  unfold buildSliceA at h
  cases he : elemT P t with
  | none => simp [he] at h
  | some e =>
  cases hz : zeroOf P e with
  | none => simp [he, hz] at h
  | some z =>
    simp only [he, hz, Option.bind_eq_bind, Option.bind_some] at h
    split at h
    · rename_i hc
      obtain ⟨cs, hcs, h⟩ := Option.bind_eq_some_iff.1 h
      simp only [Option.some.injEq] at h
      subst h
      obtain ⟨zv, hzr, rfl⟩ := run_zero (w := w) hz
      obtain ⟨i, hi⟩ := zeroOf_info hz
      have hzl : zv.cells.size = szOf P e := by simpa using hc.2
      have hzc : VRs w g (List.replicate n (zv.cells.toList.map A.ofCell)).flatten (List.replicate n zv.cells.toList).flatten := (VRs_ofCells _).flatten n
      -- the zero cells
      obtain ⟨zc, hz0, hz1, hz2⟩ : ∃ zc : Array Value, (n * szOf P e = 0 → zc = #[]) ∧ (¬ n * szOf P e = 0 → zc = zv.cells) ∧ ((Array.range (n * szOf P e)).map (zc[· % zc.size]!)).toList = (List.replicate n zv.cells.toList).flatten := by
        by_cases h0 : n * szOf P e = 0
        · refine ⟨#[], fun _ => rfl, fun q => absurd h0 q, ?_⟩
          rw [h0]
          rcases Nat.mul_eq_zero.1 h0 with q | q
          · subst q; simp
          · have : zv.cells.toList = [] := by
              apply List.eq_nil_of_length_eq_zero
              rw [Array.length_toList]
              omega
            rw [this]
            simp
        · exact ⟨zv.cells, fun q => absurd q h0, fun _ => rfl, range_cells _ _ _ (by rw [hzl])⟩
      obtain ⟨vs, h1, h2⟩ := fill_sound (pv := fun i => some (i * szOf P e, szOf P e)) (us := (Array.range (n * szOf P e)).map (zc[· % zc.size]!)) (fun i p h => h) (by rw [hz2]; exact hzc) hp hcs
      obtain ⟨g', s1, s2, s3⟩ := hs.newFix vs e 0 0
      refine ⟨.slice (some ⟨w.heap.size, 0, none⟩) n n, _, g', ?_, ?_, s1, s2⟩
      · have h24 : ¬ (n * szOf P e > 2 ^ 24) := by
          have := hc.1
          omega
        by_cases h0 : n * szOf P e = 0
        · obtain rfl := hz0 h0
          simp only [Instr.buildSlice, Sem.run_bind, run_underlying (elemT_some he), Result.andThen_ok, run_size hi, Sem.run_ite, if_neg h24, if_pos h0, Sem.run_pure, h1, newRow, run_newObj]
          rfl
        · obtain rfl := hz1 h0
          simp only [Instr.buildSlice, Sem.run_bind, run_underlying (elemT_some he), Result.andThen_ok, run_size hi, Sem.run_ite, if_neg h24, if_neg h0, Sem.run_pure, hzr, h1, newRow, run_newObj]
          rfl
      · rw [VR]
        exact ⟨_, _, vs.toList, rfl, fun _ => rfl, Nat.le_refl _, h2.mono s2, fun _ => ⟨_, _, rfl, s3⟩⟩
    · cases h

theorem firstCells_sound (hs : SR P gl w0 g m w) {size n : Nat} {x : A} {cs : List A} {v : Value} (h : cellsA size n x m = some cs) (hx : VR w g x v) :
    ∃ us : List Value, (Builtin.firstCells size n v).run P w = .ok us.toArray w ∧ VRs w g cs us := by
  unfold cellsA at h
  split at h
  · rename_i s
    split at h
    · rename_i h1
      subst h1
      simp only [Option.some.injEq] at h
      subst h
      rw [VR] at hx
      subst hx
      refine ⟨(s.take n).map fun b => .int .u8 (b.toNat : Int), ?_, ?_⟩
      · simp only [Builtin.firstCells, Sem.run_pure]
        congr 1
        apply Array.ext'
        have := extract_bytes s 0 n
        rw [this]
        simp
      · generalize s.take n = l
        induction l with
        | nil => exact VRs.mk_nil
        | cons b r ih => exact .mk_cons VR.mkInt ih
    · cases h
  · rename_i k cs0
    split at h
    · rename_i hc
      simp only [Option.some.injEq] at h
      subst h
      rw [VR] at hx
      obtain ⟨p, c, us, rfl, _, _, hcc, hl⟩ := hx
      refine ⟨us.take (n * size), ?_, hcc.take _⟩
      have hlen := hcc.length
      by_cases hu : us = []
      · subst hu
        have : n * size = 0 := by
          have h1 := hc.1
          simp at hlen
          have h2 : k * size = 0 := by omega
          rcases Nat.mul_eq_zero.1 h2 with q | q
          · have : n = 0 := by omega
            rw [this, Nat.zero_mul]
          · rw [q, Nat.mul_zero]
        cases p with
        | none => simp [Builtin.firstCells]
        | some a => simp [Builtin.firstCells, this, loadCells, loadCellsFrom]
      · obtain ⟨b, o, rfl, hl2⟩ := hl hu
        have hn : (us.take (n * size)).length = n * size := by
          have := Nat.mul_le_mul_right size hc.2
          simp
          omega
        have := run_cells (P := P) (hl2.take (n * size)).at
        rw [hn] at this
        exact this
    · cases h
  · rename_i id ver off k
    cases hr : m.rw[id]? with
    | none => simp [hr] at h
    | some r =>
      simp only [hr, Option.bind_eq_bind, Option.bind_some] at h
      split at h
      · rename_i hc
        simp only [Option.some.injEq] at h
        subst h
        rw [VR] at hx
        obtain ⟨_, L, k1, k2, k3⟩ := hx
        have : L = r.cs.length := by
          rw [hs.rl, List.getElem?_map, hr] at k1
          simpa using k1.symm
        obtain ⟨c, rfl, _, _⟩ := k3 (by omega)
        obtain ⟨us, ss, rest, h1, h2, h3, h4⟩ := hs.rw id r hr
        refine ⟨(ss.drop off).take (n * size), ?_, h4.sub _ _⟩
        have hat := (At.of_block h1 h3).sub off (n * size)
        rw [Nat.zero_add] at hat
        have hlen := h4.length
        have hn : ((ss.drop off).take (n * size)).length = n * size := by
          have := Nat.mul_le_mul_right size hc.2.1
          simp
          omega
        have := run_cells (P := P) hat
        rw [hn] at this
        exact this
      · cases h
  · split at h
    · rename_i hn
      simp only [Option.some.injEq] at h
      subst h hn
      rw [VR] at hx
      subst hx
      exact ⟨[], by simp [Builtin.firstCells], VRs.mk_nil⟩
    · cases h
  all_goals cases h

theorem lenOf_sound {x : A} {v : Value} {n : Nat} (h : lenA x = some n) (hx : VR w g x v) : (Builtin.lenOf v).run P w = .ok n w := by
  unfold lenA at h
  split at h <;> simp only [Option.some.injEq, reduceCtorEq] at h <;> subst h
  · rw [VR] at hx
    subst hx
    simp only [Builtin.lenOf, Sem.run_pure]
    congr 1
  · rw [VR] at hx
    obtain ⟨_, _, _, rfl, _⟩ := hx
    rfl
  · rw [VR] at hx
    obtain ⟨⟨_, _, _, rfl, _⟩, _⟩ := hx
    rfl
  · rw [VR] at hx
    subst hx
    rfl

theorem growBy_le (need : Nat) : ∀ (r c : Nat), c < need → Builtin.growBy need r c ≤ 2 * need + 768
  | 0, c, h => by simp only [Builtin.growBy]; omega
  | r + 1, c, h => by
    simp only [Builtin.growBy]
    rw [if_neg (by omega)]
    by_cases hq : c + (c + 768) / 4 < need
    · exact growBy_le need r _ hq
    · cases r with
      | zero => simp only [Builtin.growBy]; omega
      | succ r => simp only [Builtin.growBy]; rw [if_pos (by omega)]; omega
theorem nextcap_le (need cap : Nat) (h : cap < need) : Builtin.nextslicecap need cap ≤ 2 * need + 768 := by
  unfold Builtin.nextslicecap
  split
  · omega
  · split
    · omega
    · exact growBy_le need 4 cap h

/-- The room that an append asks for. -/
theorem cap_fits {need cap by_ : Nat} (h : cap < need) (hb : by_ ≤ 1024) (hn : need * by_ ≤ 70368744177664) : ¬ (Builtin.nextslicecap need cap * by_ > 2 ^ 48) := by
  have h1 := nextcap_le need cap h
  have h2 := Nat.mul_le_mul_right by_ h1
  have h3 : (2 * need + 768) * by_ = 2 * (need * by_) + 768 * by_ := by rw [Nat.add_mul, Nat.mul_assoc]
  omega

theorem zeroCells_size (z : Array Value) (n : Nat) : (Builtin.zeroCells z n).size = n * z.size := by simp [Builtin.zeroCells]

theorem run_choose_app (need old : Nat) (e : TypeId) : ∃ c, (choose (.appendCap need old e)).run P w = .ok c w.drew ∧ need ≤ c := by
  refine ⟨(Question.appendCap need old e).cut (w.tape w.drawn (.appendCap need old e)), ?_, ?_⟩
  · rw [run_choose]
    simp [Question.forced]
  · simp only [Question.cut]
    omega

section
variable {ts tx ty e : TypeId} {base : Option Addr} {l c n : Nat} {xv : Value} {i : TypeInfo} (hts : P.underlying ts = some (.slice e)) (hi : P.info? e = some i)
    (htx : seqT P tx = true) (hn : (Builtin.lenOf xv).run P w = .ok n w) (tail1 : List TypeId) (tail2 : List Value)
include htx in
omit hts in
theorem append_type : ∃ d, P.underlying tx = some d ∧ ((∃ e', d = .slice e') ∨ d = .string) := by
  unfold seqT at htx
  cases hu : P.underlying tx with
  | none => simp [hu] at htx
  | some d => cases d <;> simp [hu] at htx <;> first | exact ⟨_, rfl, .inl ⟨_, rfl⟩⟩ | exact ⟨_, rfl, .inr rfl⟩

include hts hi htx hn

theorem run_append_in {us : Array Value} {w' : World} (hle : l + n ≤ c) (hf : (Builtin.firstCells (szOf P e) n xv).run P w = .ok us w)
    (hst : (match base with | some a => storeCells (a.add (l * szOf P e)) us.toList | none => pure ()).run P w = .ok () w') :
    (Builtin.append_ (ts :: tx :: tail1).toArray ty (.slice base l c :: xv :: tail2).toArray).run P w = .ok (.slice base (l + n) c) w' := by
  obtain ⟨d, hd, hdi⟩ := append_type htx
  have e1 : (ts :: tx :: tail1).toArray[0]? = some ts := by simp
  have e2 : (ts :: tx :: tail1).toArray[1]? = some tx := by simp
  have e3 : (Value.slice base l c :: xv :: tail2).toArray[0]? = some (.slice base l c) := by simp
  have e4 : (Value.slice base l c :: xv :: tail2).toArray[1]? = some xv := by simp
  unfold Builtin.append_
  rcases hdi with ⟨e', rfl⟩ | rfl <;>
    simp only [e1, e2, e3, e4, Sem.run_bind, run_underlying hts, Result.andThen_ok, run_size hi, run_underlying hd, Sem.run_pure, Bool.false_eq_true, if_false, hn, if_pos hle, Bool.not_false, if_true, hf] <;>
    cases base with
    | none =>
      simp only [Sem.run_pure, Result.ok.injEq, true_and] at hst ⊢
      exact hst
    | some a => simp only [Sem.run_bind, hst, Result.andThen_ok, Sem.run_pure]

theorem run_append_new {old us : Array Value} {zv : Value} {nc : Nat} (hlt : c < l + n) (hb : i.bytes ≤ 1024) (hnb : (l + n) * i.bytes ≤ 70368744177664) (hnl : l + n ≤ 70368744177664)
    (hch : (choose (.appendCap (l + n) c e)).run P w = .ok nc w.drew)
    (ho : (Builtin.firstCells (szOf P e) l (.slice base l c)).run P w.drew = .ok old w.drew) (hf : (Builtin.firstCells (szOf P e) n xv).run P w.drew = .ok us w.drew) (hz : (zeroValue e).run P w.drew = .ok zv w.drew) (hby : 0 < i.bytes) :
    (Builtin.append_ (ts :: tx :: tail1).toArray ty (.slice base l c :: xv :: tail2).toArray).run P w = .ok (.slice (some ⟨w.heap.size, 0, none⟩) (l + n) nc) (w.drew.alloc (.cells (old ++ us ++ Builtin.zeroCells zv.cells (nc - (l + n))) e)) := by
  obtain ⟨d, hd, hdi⟩ := append_type htx
  have e1 : (ts :: tx :: tail1).toArray[0]? = some ts := by simp
  have e2 : (ts :: tx :: tail1).toArray[1]? = some tx := by simp
  have e3 : (Value.slice base l c :: xv :: tail2).toArray[0]? = some (.slice base l c) := by simp
  have e4 : (Value.slice base l c :: xv :: tail2).toArray[1]? = some xv := by simp
  have hnle : ¬ l + n ≤ c := by omega
  have hfit := cap_fits hlt hb hnb
  have hti : ∀ W : World, (typeInfo e).run P W = .ok i W := fun W => by simp [typeInfo, hi]
  have hov : ¬ (((l + n : Nat) : Int) > IntKind.i64.max ∧ (False ∨ i.bytes = 0)) := by
    rintro ⟨_, q | q⟩
    · exact q
    · omega
  unfold Builtin.append_
  rcases hdi with ⟨e', rfl⟩ | rfl
  all_goals
    simp only [e1, e2, e3, e4, Sem.run_bind, run_underlying hts, Result.andThen_ok, run_size hi, run_underlying hd, Sem.run_pure, Bool.false_eq_true, if_false, hn, if_neg hnle, Bool.not_false, if_true, hti, Sem.run_ite, if_neg hov, if_neg hfit, hch, run_askRoom, ho, hf, hz, newRow, run_newObj]
    rfl
end

theorem appendA_good (hs : SR P gl w0 g m w) {ts tx ty : TypeId} {s x a : A} {m' : Mem} {sv xv : Value} (tail1 : List TypeId) (tail2 : List Value) (h : appendA P ts tx s x m = some (a, m')) (hsv : VR w g s sv) (hxv : VR w g x xv) :
    ∃ v w' g', (Builtin.append_ (ts :: tx :: tail1).toArray ty (sv :: xv :: tail2).toArray).run P w = .ok v w' ∧ VR w' g' a v ∧ SR P gl w0 g' m' w' ∧ Ext w g w' g' := by
  unfold appendA at h
  cases he : elemT P ts with
  | none => simp [he] at h
  | some e =>
  cases hz : zeroOf P e with
  | none => simp [he, hz] at h
  | some z =>
  cases hb : bytesOf P e with
  | none => simp [he, hz, hb] at h
  | some by_ =>
  cases hn : lenA x with
  | none => simp [he, hz, hb, hn] at h
  | some n =>
  cases hl : lenA s with
  | none => simp [he, hz, hb, hn, hl] at h
  | some l =>
  cases hcs : cellsA (szOf P e) n x m with
  | none => simp [he, hz, hb, hn, hl, hcs] at h
  | some cs =>
    simp only [he, hz, hb, hn, hl, hcs, Option.bind_eq_bind, Option.bind_some] at h
    split at h
    · rename_i hc
      obtain ⟨c1, c2, c2', c3, c4, c5, c6, c7, c8⟩ := hc
      have hts := elemT_some he
      obtain ⟨i, hi, rfl⟩ := run_bytes hb
      obtain ⟨zv, hzr, rfl⟩ := run_zero (w := w.drew) hz
      have hzl : zv.cells.size = szOf P e := by simpa using c1
      have hlx := lenOf_sound (P := P) hn hxv
      obtain ⟨us, hus, husr⟩ := firstCells_sound hs hcs hxv
      have husl := husr.length
      have hone := husr.flats c7
      -- behind the draw
      obtain ⟨hsd, hed⟩ := hs.drew
      obtain ⟨ud, hud, hudr⟩ := firstCells_sound hsd hcs (hxv.mono hed)
      have hudl := hudr.length
      split at h
      · -- nils
        rw [VR] at hsv
        subst hsv
        simp only [lenA, Option.some.injEq] at hl
        subst hl
        split at h
        · rename_i hn0
          simp only [Option.some.injEq, Prod.mk.injEq] at h
          obtain ⟨rfl, rfl⟩ := h
          subst hn0
          exact ⟨_, w, g, run_append_in hts hi c8 hlx tail1 tail2 (by omega) hus rfl, by rw [VR], hs, Ext.refl _ _⟩
        · rename_i hn0
          simp only [Option.some.injEq, Prod.mk.injEq] at h
          obtain ⟨rfl, rfl⟩ := h
          obtain ⟨nc, hch, hge⟩ := run_choose_app (P := P) (w := w) (0 + n) 0 e
          have hrun := run_append_new (l := 0) (c := 0) (base := none) hts hi c8 hlx tail1 tail2 (by omega) c3 c4 c5 hch (old := #[]) (by simp [Builtin.firstCells]) hud hzr c2' (ty := ty)
          obtain ⟨g', s1, s2, s3, s4, s5, s6⟩ := hsd.newRow (cs := cs) (us := #[] ++ ud.toArray ++ Builtin.zeroCells zv.cells (nc - (0 + n))) (ss := ud) (rest := (Builtin.zeroCells zv.cells (nc - (0 + n))).toList) e (by simp) hudr
          refine ⟨_, _, g', hrun, ?_, s1, hed.trans s2⟩
          rw [VR]
          have hsz : (#[] ++ ud.toArray ++ Builtin.zeroCells zv.cells (nc - (0 + n))).size = nc * szOf P e := by
            have h1 : nc = n + (nc - n) := by omega
            simp [zeroCells_size, hzl]
            rw [hudl, c6, ← Nat.add_mul, ← h1]
          refine ⟨⟨_, _, _, by rw [Nat.zero_add], by omega⟩, cs.length, s6, by omega, fun _ => ⟨nc, by rw [s3, Nat.zero_add]; rfl, by omega, fun _ => ?_⟩⟩
          rw [s5, s4, hsz]
          exact Nat.le_refl _
      · -- a full slice
        rename_i l' os
        simp only [lenA, Option.some.injEq] at hl
        subst hl
        have hsv' := hsv
        rw [VR] at hsv
        obtain ⟨p, c, uo, hv, hfull, _, huo, hlies⟩ := hsv
        have hcl : c = l' := hfull rfl
        rw [hcl] at hv
        subst hv
        split at h
        · rename_i hol
          split at h
          · rename_i hn0
            simp only [Option.some.injEq, Prod.mk.injEq] at h
            obtain ⟨rfl, rfl⟩ := h
            subst hn0
            have hu0 : us = [] := List.eq_nil_of_length_eq_zero (by rw [husl, c6]; omega)
            subst hu0
            refine ⟨_, w, g, run_append_in hts hi c8 hlx tail1 tail2 (by omega) hus ?_, hsv', hs, Ext.refl _ _⟩
            cases p <;> simp [storeCells]
          · rename_i hn0
            simp only [Option.some.injEq, Prod.mk.injEq] at h
            obtain ⟨rfl, rfl⟩ := h
            obtain ⟨nc, hch, hge⟩ := run_choose_app (P := P) (w := w) (l' + n) l' e
            obtain ⟨uo', ho1, ho2⟩ := firstCells_sound (size := szOf P e) (n := l') (x := .isl true l' os) (cs := os) hsd (by simp [cellsA, hol]; exact List.take_of_length_le (by omega)) (hsv'.mono hed)
            have hrun := run_append_new (l := l') (c := l') (base := p) hts hi c8 hlx tail1 tail2 (by omega) c3 c4 c5 hch ho1 hud hzr c2' (ty := ty)
            have ho2l := ho2.length
            obtain ⟨g', s1, s2, s3, s4, s5, s6⟩ := hsd.newRow (cs := os ++ cs) (us := uo'.toArray ++ ud.toArray ++ Builtin.zeroCells zv.cells (nc - (l' + n))) (ss := uo' ++ ud) (rest := (Builtin.zeroCells zv.cells (nc - (l' + n))).toList) e (by simp) (ho2.append hudr)
            refine ⟨_, _, g', hrun, ?_, s1, hed.trans s2⟩
            rw [VR]
            have hsz : (uo'.toArray ++ ud.toArray ++ Builtin.zeroCells zv.cells (nc - (l' + n))).size = nc * szOf P e := by
              have h1 : nc = (l' + n) + (nc - (l' + n)) := by omega
              simp [zeroCells_size, hzl]
              rw [hudl, c6, ho2l, hol, ← Nat.add_mul, ← Nat.add_mul, ← h1]
            refine ⟨⟨_, _, _, rfl, hge⟩, (os ++ cs).length, s6, by rw [List.length_append, c6, hol, Nat.add_mul]; exact Nat.le_refl _, fun _ => ⟨nc, by rw [s3]; rfl, hge, fun _ => ?_⟩⟩
            rw [s5, s4, hsz]
            exact Nat.le_refl _
        · cases h
      · -- a row
        rename_i id ver l'
        simp only [lenA, Option.some.injEq] at hl
        subst hl
        cases hr : m.rw[id]? with
        | none => simp [hr] at h
        | some r =>
          simp only [hr, Option.bind_some] at h
          split at h
          · rename_i hrc
            obtain ⟨r1, r2, r3⟩ := hrc
            simp only [Option.some.injEq, Prod.mk.injEq] at h
            obtain ⟨rfl, rfl⟩ := h
            have hsv' := hsv
            rw [VR] at hsv
            obtain ⟨_, L, k1, k2, k3⟩ := hsv
            have hL : L = r.cs.length := by
              rw [hs.rl, List.getElem?_map, hr] at k1
              simpa using k1.symm
            obtain ⟨c, rfl, hlc, hcap⟩ := k3 (by omega)
            have hcap := hcap rfl
            rw [hs.es id r hr, r2] at hcap
            obtain ⟨ua, ss, rest, h1, h2, h3, h4⟩ := hs.rw id r hr
            have h4l := h4.length
            have huas : ua.size = ss.length + rest.length := by rw [← Array.length_toList, h3, List.length_append]
            by_cases hle : l' + n ≤ c
            · -- in place
              have hm := Nat.mul_le_mul_right (szOf P e) hle
              rw [Nat.add_mul] at hm
              have hst := run_storeCells_at P (g.br id) (l' * szOf P e) r.el us 0 ua w h1 (by omega) hone
              have key : (ua.toList.take (l' * szOf P e + 0) ++ us ++ ua.toList.drop (l' * szOf P e + 0 + us.length)) = (ss ++ us) ++ rest.drop us.length := by
                have hsl : ss.length = l' * szOf P e := by omega
                rw [h3, Nat.add_zero, ← hsl, List.take_left' rfl, ← List.drop_drop, List.drop_left' rfl]
              obtain ⟨g', s1, s2, s3, s4, s5, s6⟩ := hs.setRow (i := id) (r := r) (cs := r.cs ++ cs) (us := (ua.toList.take (l' * szOf P e + 0) ++ us ++ ua.toList.drop (l' * szOf P e + 0 + us.length)).toArray) (ss := ss ++ us) (rest := rest.drop us.length) hr (by simp) (by rw [← h2, key]; simp; omega) key (h4.append husr)
              refine ⟨.slice (some ⟨g.br id, 0, none⟩) (l' + n) c, _, g', run_append_in hts hi c8 hlx tail1 tail2 hle hus ?_, ?_, by rw [show (⟨r.el, r.cs ++ cs⟩ : Row) = ⟨e, r.cs ++ cs⟩ from by rw [r2]] at s1; exact s1, s2⟩
              · simp only [add_plain', Nat.zero_add, List.size_toArray]
                exact hst
              · rw [VR]
                refine ⟨⟨_, _, _, rfl, hle⟩, _, s6, by rw [List.length_append, c6, r1, r3, Nat.add_mul]; exact Nat.le_refl _, fun _ => ⟨c, by rw [s3], hle, fun _ => ?_⟩⟩
                rw [s5, s4, hs.es id r hr, r2]
                exact hcap
            · -- a new block
              obtain ⟨nc, hch, hge⟩ := run_choose_app (P := P) (w := w) (l' + n) c e
              have hcellsL : cellsA (szOf P e) l' (.sl id ver 0 l') m = some r.cs := by
                simp only [cellsA, hr, Option.bind_eq_bind, Option.bind_some, List.drop_zero, Nat.zero_add]
                rw [if_pos ⟨r1, Nat.le_refl _, by omega⟩, List.take_of_length_le (by omega)]
              obtain ⟨uo', ho1, ho2⟩ := firstCells_sound hsd hcellsL (hsv'.mono hed)
              have hrun := run_append_new (l := l') (c := c) (base := some ⟨g.br id, 0, none⟩) hts hi c8 hlx tail1 tail2 (by omega) c3 c4 c5 hch ho1 hud hzr c2' (ty := ty)
              have ho2l := ho2.length
              have hnp : 0 < n * szOf P e := Nat.mul_pos (by omega) c2
              obtain ⟨g', s1, s2, s3, s4, s5, s6⟩ := hsd.moveRow (i := id) (r := r) (cs := r.cs ++ cs) (us := uo'.toArray ++ ud.toArray ++ Builtin.zeroCells zv.cells (nc - (l' + n))) (ss := uo' ++ ud) (rest := (Builtin.zeroCells zv.cells (nc - (l' + n))).toList) hr (by rw [List.length_append]; omega) (by simp) (ho2.append hudr)
              rw [show (⟨r.el, r.cs ++ cs⟩ : Row) = ⟨e, r.cs ++ cs⟩ from by rw [r2], r2] at s1
              rw [r2] at s2
              refine ⟨.slice (some ⟨w.heap.size, 0, none⟩) (l' + n) nc, _, g', hrun, ?_, s1, hed.trans s2⟩
              rw [VR]
              have hsz : (uo'.toArray ++ ud.toArray ++ Builtin.zeroCells zv.cells (nc - (l' + n))).size = nc * szOf P e := by
                have h1 : nc = (l' + n) + (nc - (l' + n)) := by omega
                simp [zeroCells_size, hzl]
                rw [hudl, c6, ho2l, r1, r3, ← Nat.add_mul, ← Nat.add_mul, ← h1]
              refine ⟨⟨_, _, _, rfl, hge⟩, _, s6, by rw [List.length_append, c6, r1, r3, Nat.add_mul]; exact Nat.le_refl _, fun _ => ⟨nc, by rw [s3]; rfl, hge, fun _ => ?_⟩⟩
              rw [s5, s4, hsz, r2]
              exact Nat.le_refl _
          · cases h
      · cases h
    · cases h
end
end AE
end Go.Proofs.YthoomlenmgdebaaGreatDoor
