/- All operations together. -/
import Derived.Test.YthoomlenmgdebaaGreatDoorAE8
import Derived.Laws.BytesArg
set_option linter.unusedVariables false
set_option linter.unusedSimpArgs false
set_option maxHeartbeats 800000
namespace Go.Proofs.YthoomlenmgdebaaGreatDoor
namespace AE
open Go Go.RowKit

section
variable {P : Program} {gl : Nat → A} {w0 : World} {g : Gh} {m : Mem} {w : World}

theorem makeSliceA_good (hs : SR P gl w0 g m w) {t : TypeId} {x y a : A} {m' : Mem} {v u : Value} (h : makeSliceA P t x y m = some (a, m')) (hx : VR w g x v) (hy : VR w g y u) :
    ∃ r w' g', (Instr.makeSlice t v u).run P w = .ok r w' ∧ VR w' g' a r ∧ SR P gl w0 g' m' w' ∧ Ext w g w' g' := by
  unfold makeSliceA at h
  cases he : elemT P t with
  | none => simp [he] at h
  | some e =>
  cases hz : zeroOf P e with
  | none => simp [he, hz] at h
  | some z =>
  cases hb : bytesOf P e with
  | none => simp [he, hz, hb] at h
  | some by_ =>
    simp only [he, hz, hb, Option.bind_eq_bind, Option.bind_some] at h
    split at h
    · rename_i k l k' c
      split at h
      · rename_i hc
        obtain ⟨rfl, c1, c2, c3, c4, c5⟩ := hc
        simp only [Option.some.injEq, Prod.mk.injEq] at h
        obtain ⟨rfl, rfl⟩ := h
        rw [VR] at hx
        rw [VR] at hy
        subst hx hy
        obtain ⟨i, hi, rfl⟩ := run_bytes hb
        obtain ⟨zv, hzr, rfl⟩ := run_zero (w := w) hz
        have hzl : zv.cells.size = szOf P e := by simpa using c4
        have hwrap : IntKind.i64.wrap l = l := IntWalk.i64_in l (by omega)
        have hti : ∀ W : World, (typeInfo e).run P W = .ok i W := fun W => by simp [typeInfo, hi]
        obtain ⟨n, rfl⟩ := Int.eq_ofNat_of_zero_le c1
        have hn : ((n : Int)).toNat = n := Int.toNat_natCast n
        have hbn : ((i.bytes : Int) * (n : Int)) = (n : Int) * (i.bytes : Int) := Int.mul_comm _ _
        have hnot : ¬ ((decide ((n : Int) < 0) || decide ((i.bytes : Int) * (n : Int) > 2 ^ 48)) = true) := by
          simp only [Bool.or_eq_true, decide_eq_true_eq]
          rintro (q | q)
          · omega
          · omega
        have hcond : ¬ (((decide ((n : Int) < 0) || decide ((i.bytes : Int) * (n : Int) > 2 ^ 48)) || decide ((n : Int) < 0) || decide ((n : Int) > (n : Int))) = true) := by
          simp only [Bool.or_eq_true, decide_eq_true_eq]
          rintro ((q | q) | q)
          · exact hnot (by simpa using q)
          · omega
          · omega
        have hcells : (if n * szOf P e = 0 then (Array.range (n * szOf P e)).map ((#[] : Array Value)[· % (#[] : Array Value).size]!) else (Array.range (n * szOf P e)).map (zv.cells[· % zv.cells.size]!)).toList = (List.replicate n zv.cells.toList).flatten := by
          by_cases h0 : n * szOf P e = 0
          · rw [if_pos h0, h0]
            rcases Nat.mul_eq_zero.1 h0 with q | q
            · subst q; simp
            · omega
          · rw [if_neg h0]
            exact range_cells _ _ _ (by rw [hzl])
        obtain ⟨g', s1, s2, s3, s4, s5, s6⟩ := hs.newRow (cs := (List.replicate n (zv.cells.toList.map A.ofCell)).flatten) (us := if n * szOf P e = 0 then (Array.range (n * szOf P e)).map ((#[] : Array Value)[· % (#[] : Array Value).size]!) else (Array.range (n * szOf P e)).map (zv.cells[· % zv.cells.size]!)) (ss := (List.replicate n zv.cells.toList).flatten) (rest := []) e (by rw [hcells]; simp) ((VRs_ofCells _).flatten n)
        have hlen : (List.replicate n (zv.cells.toList.map A.ofCell)).flatten.length = n * szOf P e := by simp [hzl]
        refine ⟨.slice (some ⟨w.heap.size, 0, none⟩) n n, _, g', ?_, ?_, by rw [hn]; exact s1, s2⟩
        · simp only [Instr.makeSlice, asInt, asIntOf, Sem.run_bind, run_underlying (elemT_some he), Sem.run_pure, Result.andThen_ok, hti, hwrap, Sem.run_ite, if_neg hcond, run_askRoom, hn, run_size hi]
          by_cases h0 : n * szOf P e = 0
          · simp only [if_pos h0, Sem.run_pure, Result.andThen_ok, newRow, Sem.run_bind, run_newObj]
            rfl
          · simp only [if_neg h0, hzr, Sem.run_pure, Result.andThen_ok, newRow, Sem.run_bind, run_newObj]
            rfl
        · rw [VR, hn]
          refine ⟨⟨_, _, _, rfl, Nat.le_refl _⟩, _, s6, by rw [hlen]; exact Nat.le_refl _, fun _ => ⟨n, by rw [s3], Nat.le_refl _, fun _ => ?_⟩⟩
          rw [s5, s4, ← Array.length_toList, hcells]
          simp [hzl]
      · cases h
    · cases h

theorem builtin_good (hs : SR P gl w0 g m w) {b : Builtin} {ts : List TypeId} {ty : TypeId} {consts : Array Bool} {xs : List A} {vs : List Value} {a : A} {m' : Mem} (h : builtinA P b ts xs m = some (a, m')) (hx : VRs w g xs vs) :
    Good P gl w0 w g m' a ((builtin b ts.toArray ty consts vs.toArray).run P w) := by
  unfold builtinA at h
  split at h
  · rename_i t tr x xr
    rw [VRs.cons_iff] at hx
    obtain ⟨v, vr, rfl, hx, _⟩ := hx
    obtain ⟨r, hr, he⟩ := Option.map_eq_some_iff.1 h
    simp only [Prod.mk.injEq] at he
    obtain ⟨rfl, rfl⟩ := he
    obtain ⟨u, hu, hv⟩ := lenB_sound (P := P) (ty := ty) (ts := tr) (vs := vr) hr hx
    exact Good.pure hs hv (by simp only [builtin, Sem.run_bind, hu, Result.andThen_ok, Sem.run_pure])
  · rename_i x y
    rw [VRs.cons_iff] at hx
    obtain ⟨v, vr, rfl, hx, hy⟩ := hx
    rw [VRs.cons_iff] at hy
    obtain ⟨v', vr, rfl, hy, hn⟩ := hy
    rw [VRs.nil_iff] at hn
    subst hn
    obtain ⟨r, hr, he⟩ := Option.map_eq_some_iff.1 h
    simp only [Prod.mk.injEq] at he
    obtain ⟨rfl, rfl⟩ := he
    obtain ⟨u, hu, hv⟩ := maxA_sound (P := P) (ty := ty) (tys := ts.toArray) hr hx hy
    exact Good.pure hs hv (by simp only [builtin, Sem.run_bind, hu, Result.andThen_ok, Sem.run_pure])
  · rename_i x y
    rw [VRs.cons_iff] at hx
    obtain ⟨v, vr, rfl, hx, hy⟩ := hx
    rw [VRs.cons_iff] at hy
    obtain ⟨v', vr, rfl, hy, hn⟩ := hy
    rw [VRs.nil_iff] at hn
    subst hn
    obtain ⟨r, hr, he⟩ := Option.map_eq_some_iff.1 h
    simp only [Prod.mk.injEq] at he
    obtain ⟨rfl, rfl⟩ := he
    obtain ⟨u, hu, hv⟩ := minA_sound (P := P) (ty := ty) (tys := ts.toArray) hr hx hy
    exact Good.pure hs hv (by simp only [builtin, Sem.run_bind, hu, Result.andThen_ok, Sem.run_pure])
  · rename_i t tx tr s x xr
    rw [VRs.cons_iff] at hx
    obtain ⟨v, vr, rfl, hx, hy⟩ := hx
    rw [VRs.cons_iff] at hy
    obtain ⟨v', vr, rfl, hy, _⟩ := hy
    obtain ⟨u, w', g', hu, hv, h1, h2⟩ := appendA_good hs tr vr h hx hy (ty := ty)
    exact ⟨u, w', g', .inl (by simp only [builtin, Sem.run_bind, hu, Result.andThen_ok, Sem.run_pure]), hv, h1, h2⟩
  · cases h

theorem VRs_map {l : List Operand} {ρA : Operand → A} {ρ : Operand → Value} (hρ : ∀ x, VR w g (ρA x) (ρ x)) : VRs w g (l.map ρA) (l.map ρ) := by
  induction l with
  | nil => exact VRs.mk_nil
  | cons x r ih => exact .mk_cons (hρ x) ih
theorem VRp_map {l : List (Nat × Operand)} {ρA : Operand → A} {ρ : Operand → Value} (hρ : ∀ x, VR w g (ρA x) (ρ x)) : VRp w g (l.map fun p => (p.1, ρA p.2)) (l.map fun p => (p.1, ρ p.2)) := by
  induction l with
  | nil => trivial
  | cons x r ih => exact ⟨rfl, hρ x.2, ih⟩
theorem VRo_map {l : Option Operand} {ρA : Operand → A} {ρ : Operand → Value} (hρ : ∀ x, VR w g (ρA x) (ρ x)) : VRo w g (l.map ρA) (l.map ρ) := by
  cases l with
  | none => trivial
  | some x => exact hρ x

theorem nilCheck_run {o : Oper} {x : Operand} (ho : o.op = .nilCheck x) {ρ : Operand → Value} {b : Addr} (h : ρ x = .pointer (some b)) : (execOp ρ o).run P w = .ok (.value (.pointer (some b))) w := by
  simp only [execOp, ho, h, Sem.run_pure]

theorem freeze_new (w : World) (us : Array Value) (e : TypeId) (n : Nat) : (w.alloc (.cells us e (0, 0))).freeze { block := w.heap.size, off := n } 1 = w.alloc (.cells us e (n, n + 1)) := by
  simp only [World.freeze, Nat.succ_ne_zero, if_false]
  have : ((w.alloc (.cells us e (0, 0))).heap.modify w.heap.size fun
      | .cells c elem (lo, hi) => .cells c elem (if lo == hi then (n, n + 1) else (min lo n, max hi (n + 1)))
      | o => o) = (w.alloc (.cells us e (n, n + 1))).heap := by
    show (w.heap.push (.cells us e (0, 0))).modify w.heap.size _ = w.heap.push (.cells us e (n, n + 1))
    apply Array.ext
    · simp
    · intro i h1 h2
      simp only [Array.getElem_modify, Array.getElem_push]
      by_cases hi : i < w.heap.size
      · rw [if_neg (by omega)]
        simp [hi]
      · have : i = w.heap.size := by simp at h2; omega
        subst this
        simp
  show ({ heap := (w.alloc (.cells us e (0, 0))).heap.modify w.heap.size _, tape := w.tape, drawn := w.drawn, os := w.os, output := w.output } : World) = { heap := w.heap.push (.cells us e (n, n + 1)), tape := w.tape, drawn := w.drawn, os := w.os, output := w.output }
  congr
theorem run_mark (w : World) (us : Array Value) (e : TypeId) : (markStringish ⟨w.heap.size, 0, none⟩).run P (w.alloc (.cells us e (0, 0))) = .ok () (w.alloc (.cells us e (us.size, us.size + 1))) := by
  have hsh : (w.alloc (.cells us e (0, 0))).shape? w.heap.size = some (e, us.size) := by
    unfold World.shape?
    rw [heap_new]
  unfold markStringish
  rw [Sem.run_bind, run_shape, Result.andThen_ok]
  simp only [hsh, run_freeze, freeze_new]
theorem bytesS_VRs : ∀ (cs : List A) (ns : List Int) (us : List Value), bytesS cs = some ns → VRs w g cs us → us = ns.map (Value.int .u8)
  | [], ns, us, h, hv => by
    simp only [bytesS, Option.some.injEq] at h
    subst h
    rw [VRs] at hv
    simpa using hv
  | a :: r, ns, us, h, hv => by
    unfold bytesS at h
    split at h
    · rename_i heq; cases heq
    · rename_i n r' heq
      cases heq
      obtain ⟨ms, h1, rfl⟩ := Option.map_eq_some_iff.1 h
      rw [VRs] at hv
      obtain ⟨u, t, rfl, h2, h3⟩ := hv
      rw [VR] at h2
      rw [bytesS_VRs r ms t h1 h3, h2]
      rfl
    · cases h
theorem strM_sound (hs : SR P gl w0 g m w) {s d : TypeId} {x a : A} {v : Value} (h : strM P s d x m = some a) (hx : VR w g x v) : ∃ u, (convert s d v).run P w = .ok u w ∧ VR w g a u := by
  unfold strM at h
  split at h
  · rename_i id ver off n
    split at h
    · rename_i r e hr hel
      split at h
      · rename_i hc
        obtain ⟨hu8', hstr, hver, hle⟩ := hc
        have hu8 : P.underlying e = some (.int .u8) := by
          unfold isU8 at hu8'
          split at hu8'
          · assumption
          · cases hu8'
        have hd : P.underlying d = some .string := by
          unfold isStr at hstr
          split at hstr
          · assumption
          · cases hstr
        obtain ⟨ns, hns, rfl⟩ := Option.map_eq_some_iff.1 h
        obtain ⟨us, ss, rest, h1, h2, h3, h4⟩ := hs.rw id r hr
        rw [VR] at hx
        obtain ⟨_, L, hL, _, hx⟩ := hx
        rw [hs.rl, List.getElem?_map, hr] at hL
        simp only [Option.map_some, Option.some.injEq] at hL
        obtain ⟨c, rfl, _⟩ := hx (by omega)
        have hat := (At.of_block h1 h3).sub off n
        have hv := VRs.take n (VRs.drop off h4)
        have hss := bytesS_VRs _ _ _ hns hv
        rw [hss, Nat.zero_add] at hat
        have hlen : ns.length = n := by
          have := congrArg List.length hss
          have hl := h4.length
          simp only [List.length_take, List.length_drop, List.length_map] at this
          omega
        refine ⟨_, run_convert_bytes_arg w s e (elemT_some hel) hu8 (g.br id) off n c ns hlen (fun i hi => ?_) d hd, ?_⟩
        · refine hat i _ ?_
          rw [List.getElem?_map, List.getElem?_eq_getElem (by omega)]
          simp [List.getD_eq_getElem?_getD, List.getElem?_eq_getElem (show i < ns.length by omega)]
        · rw [VR]; rfl
      · cases h
    · cases h
  · cases h
theorem bytes_VRs : ∀ (str : List UInt8), VRs w g (str.map fun b => A.int .u8 (b.toNat : Int)) (str.map fun b => Value.int .u8 (b.toNat : Int))
  | [] => VRs.mk_nil
  | b :: r => .mk_cons VR.mkInt (bytes_VRs r)
theorem bytesA_good (hs : SR P gl w0 g m w) {s d : TypeId} {x a : A} {v : Value} (h : bytesA P s d x = some a) (hx : VR w g x v) :
    ∃ u w' g', (convert s d v).run P w = .ok u w' ∧ VR w' g' a u ∧ SR P gl w0 g' m w' ∧ Ext w g w' g' := by
  unfold bytesA at h
  split at h
  · rename_i str e hel
    split at h
    · rename_i hc
      obtain ⟨hu8', hsrc⟩ := hc
      have hu8 : P.underlying e = some (.int .u8) := by
        unfold isU8 at hu8'
        split at hu8'
        · assumption
        · cases hu8'
      simp only [Option.some.injEq] at h
      subst h
      rw [VR] at hx
      subst hx
      obtain ⟨d', hd'⟩ := Option.isSome_iff_exists.mp hsrc
      have hd := elemT_some hel
      obtain ⟨c, hch, hle⟩ := run_choose_app (P := P) (w := w) str.length 0 e
      obtain ⟨hs1, he1⟩ := hs.drew
      let us : Array Value := (⟨str.toArray⟩ : ByteArray).data.map (fun b => Value.int .u8 b.toNat) ++ Array.replicate (c - str.length) (.int .u8 0)
      have hul : us.toList = str.map (fun b => Value.int .u8 (b.toNat : Int)) ++ List.replicate (c - str.length) (.int .u8 0) := by simp [us]
      have hsz : us.size = c := by rw [← Array.length_toList, hul]; simp; omega
      obtain ⟨g', s1, s2, s3⟩ := hs1.newFix us e c (c + 1)
      have hconv : (convert s d (.string ⟨str.toArray⟩)).run P w = (Conv.stringToBytes e ⟨str.toArray⟩).run P w := by
        unfold convert
        rw [Sem.run_bind, run_underlying hd', Result.andThen_ok, Sem.run_bind, run_underlying hd, Result.andThen_ok]
        cases d' <;> simp [run_underlying hu8]
      refine ⟨.slice (some ⟨w.drew.heap.size, 0, none⟩) str.length c, _, g', ?_, ?_, s1, he1.trans s2⟩
      · rw [hconv]
        have hsz0 : (⟨str.toArray⟩ : ByteArray).size = str.length := by show str.toArray.size = _; simp
        have hmk := run_mark (P := P) w.drew us e
        rw [hsz] at hmk
        unfold Conv.stringToBytes
        rw [hsz0]
        simp only [Sem.run_bind, hch, Result.andThen_ok, newRow, run_newObj, Sem.run_pure]
        erw [hmk]
        rfl
      · rw [VR]
        refine ⟨_, _, str.map (fun b => Value.int .u8 (b.toNat : Int)), rfl, by simp, hle, ?_, fun _ => ⟨_, _, rfl, ?_⟩⟩
        · exact bytes_VRs str
        · intro j u hj
          refine s3 j u ?_
          rw [hul, List.getElem?_append_left (by simpa using (List.getElem?_eq_some_iff.1 hj).1)]
          exact hj
    · cases h
  · cases h

/-- EVERY OPERATION. -/
theorem opA_sound (hs : SR P gl w0 g m w) (o : Oper) {ρA : Operand → A} {ρ : Operand → Value} {a : A} {m' : Mem} (h : opA P o.op ρA m = some (a, m')) (hρ : ∀ x, VR w g (ρA x) (ρ x)) :
    Good P gl w0 w g m' a ((execOp ρ o).run P w) := by
  obtain ⟨dst, op, ty, pos, after, guard⟩ := o
  simp only at h
  have pure1 : ∀ {x : Option A} {s : Sem Value}, x.map (·, m) = some (a, m') → (∀ r, x = some r → ∃ u, s.run P w = .ok u w ∧ VR w g r u) → Good P gl w0 w g m' a ((do pure (Next.value (← s)) : Sem Next).run P w) := by
    intro x s h1 h2
    obtain ⟨r, hr, he⟩ := Option.map_eq_some_iff.1 h1
    simp only [Prod.mk.injEq] at he
    obtain ⟨rfl, rfl⟩ := he
    obtain ⟨u, hu, hv⟩ := h2 r hr
    exact Good.pure hs hv (by simp only [Sem.run_bind, hu, Result.andThen_ok, Sem.run_pure])
  cases op <;> simp only [opA, reduceCtorEq] at h
  case move x =>
    simp only [Option.some.injEq, Prod.mk.injEq] at h
    obtain ⟨rfl, rfl⟩ := h
    exact Good.pure hs (hρ x) rfl
  case assign x =>
    simp only [Option.some.injEq, Prod.mk.injEq] at h
    obtain ⟨rfl, rfl⟩ := h
    exact Good.pure hs (hρ x) rfl
  case pick c x y =>
    obtain ⟨r, hr, he⟩ := Option.map_eq_some_iff.1 h
    simp only [Prod.mk.injEq] at he
    obtain ⟨rfl, rfl⟩ := he
    unfold pickA at hr
    split at hr
    · rename_i t hc
      simp only [Option.some.injEq] at hr
      have hcv := hρ c
      rw [hc, VR] at hcv
      refine Good.pure hs (v := if t then ρ x else ρ y) ?_ ?_
      · rw [← hr]
        cases t
        · exact hρ y
        · exact hρ x
      · simp only [execOp, hcv, asBool, Sem.run_bind, Sem.run_pure, Result.andThen_ok]
    · cases hr
  case alloc e =>
    obtain ⟨z, hz, h⟩ := Option.bind_eq_some_iff.1 h
    simp only [Option.some.injEq, Prod.mk.injEq] at h
    obtain ⟨rfl, rfl⟩ := h
    obtain ⟨zv, hzr, rfl⟩ := run_zero (w := w) hz
    obtain ⟨g', s1, s2, s3, s4⟩ := hs.newBox (cs := zv.cells.toList.map A.ofCell) (us := zv.cells) e (VRs_ofCells _)
    refine ⟨.pointer (some ⟨w.heap.size, 0, none⟩), _, g', .inl ?_, ?_, s1, s2⟩
    · simp only [execOp, Instr.alloc, Sem.run_bind, hzr, Result.andThen_ok, newVar, newRow, run_newObj, Sem.run_pure]
      rfl
    · rw [VR, s3, s4]
      exact ⟨by omega, rfl⟩
  case box e x =>
    split at h
    · rename_i hok
      simp only [Option.some.injEq, Prod.mk.injEq] at h
      obtain ⟨rfl, rfl⟩ := h
      obtain ⟨g', s1, s2, s3, s4⟩ := hs.newBox (cs := (ρA x).cells) (us := (ρ x).cells) e ((hρ x).part hok)
      refine ⟨.pointer (some ⟨w.heap.size, 0, none⟩), _, g', .inl ?_, ?_, s1, s2⟩
      · simp only [execOp, Instr.box, Sem.run_bind, Result.andThen_ok, newVar, newRow, run_newObj, Sem.run_pure]
        rfl
      · rw [VR, s3, s4]
        exact ⟨by omega, rfl⟩
    · cases h
  case build t ps =>
    exact pure1 h fun r hr => buildA_sound hr (by rw [Array.toList_map]; exact VRp_map hρ)
  case buildSlice t n ps =>
    obtain ⟨r, hr, he⟩ := Option.map_eq_some_iff.1 h
    simp only [Prod.mk.injEq] at he
    obtain ⟨rfl, rfl⟩ := he
    obtain ⟨v, w', g', h1, h2, h3, h4⟩ := buildSliceA_good hs (pvs := ps.map fun (i, x) => (i, ρ x)) hr (by rw [Array.toList_map]; exact VRp_map hρ)
    exact ⟨v, w', g', .inl (by simp only [execOp, Sem.run_bind, h1, Result.andThen_ok, Sem.run_pure]), h2, h3, h4⟩
  case load t x => exact pure1 h fun r hr => loadA_sound hs hr (hρ x)
  case store t x y =>
    obtain ⟨r, hr, he⟩ := Option.map_eq_some_iff.1 h
    simp only [Prod.mk.injEq] at he
    obtain ⟨rfl, rfl⟩ := he
    obtain ⟨w', g', h1, h2, h3⟩ := storeA_sound hs hr (hρ x) (hρ y)
    refine ⟨undef, w', g', .inr ⟨?_, rfl⟩, ?_, h2, h3⟩
    · simp only [execOp, Sem.run_bind, h1, Result.andThen_ok, Sem.run_pure]
    · rw [VR]
      exact ⟨[], rfl, VRs.mk_nil⟩
  case nilCheck x =>
    obtain ⟨r, hr, he⟩ := Option.map_eq_some_iff.1 h
    simp only [Prod.mk.injEq] at he
    obtain ⟨rfl, rfl⟩ := he
    have hx := hρ x
    have hp : ∃ b, ρ x = .pointer (some b) := by
      unfold nilA at hr
      split at hr
      · rename_i hv; rw [hv, VR] at hx; exact ⟨_, hx.2⟩
      · rename_i hv; rw [hv, VR] at hx; obtain ⟨⟨_, _, q⟩, _⟩ := hx; exact ⟨_, q⟩
      · rename_i hv; rw [hv, VR] at hx; obtain ⟨_, _, _, q, _⟩ := hx; exact ⟨_, q⟩
      · cases hr
    have hre : r = ρA x := by
      unfold nilA at hr
      split at hr <;> first | (cases hr; done) | (simp only [Option.some.injEq] at hr; rw [← hr]; symm; assumption)
    obtain ⟨b, hb⟩ := hp
    subst hre
    exact Good.pure hs (v := .pointer (some b)) (by rw [← hb]; exact hx) (nilCheck_run rfl hb)
  case binOp bo t x y u => exact pure1 h fun r hr => binA_sound hr (hρ x) (hρ y)
  case unOp uo t x => exact pure1 h fun r hr => unA_sound hr (hρ x)
  case convert s d x =>
    cases hcv : convA P s d (ρA x) with
    | some r0 =>
      rw [hcv] at h
      exact pure1 (x := some r0) h fun r hr => by
        simp only [Option.some.injEq] at hr
        subst hr
        exact convA_sound hcv (hρ x)
    | none =>
      rw [hcv] at h
      obtain ⟨r, hr, he⟩ := Option.map_eq_some_iff.1 h
      simp only [Prod.mk.injEq] at he
      obtain ⟨rfl, rfl⟩ := he
      obtain ⟨v, w', g', h1, h2, h3, h4⟩ := bytesA_good hs hr (hρ x)
      exact ⟨v, w', g', .inl (by simp only [execOp, Sem.run_bind, h1, Result.andThen_ok, Sem.run_pure]), h2, h3, h4⟩
  case makeInterface t x =>
    split at h
    · cases h
    · rename_i hi
      simp only [Option.some.injEq, Prod.mk.injEq] at h
      obtain ⟨rfl, rfl⟩ := h
      refine Good.pure hs (v := .iface t (ρ x)) (by rw [VR]; exact ⟨_, rfl, hρ x⟩) ?_
      simp only [execOp, Sem.run_bind, run_makeInterface (by simpa using hi), Result.andThen_ok, Sem.run_pure]
  case makeFunc fn first caps =>
    cases fn <;> simp only [reduceCtorEq] at h
    rename_i f
    split at h
    · rename_i h0
      simp only [Option.some.injEq, Prod.mk.injEq] at h
      obtain ⟨rfl, rfl⟩ := h
      refine Good.pure hs (v := .func (.func f) #[] (caps.map ρ)) (by rw [VR]; exact ⟨caps.toList.map ρ, by rw [← Array.toList_map, Array.toArray_toList], VRs_map hρ⟩) ?_
      have hf : first = #[] := Array.eq_empty_of_size_eq_zero h0
      simp only [execOp, Instr.makeFunc, hf, Sem.run_bind, Sem.run_pure, Result.andThen_ok, Array.map_empty]
    · cases h
  case makeSlice t x y =>
    obtain ⟨v, w', g', h1, h2, h3, h4⟩ := makeSliceA_good hs h (hρ x) (hρ y)
    exact ⟨v, w', g', .inl (by simp only [execOp, Sem.run_bind, h1, Result.andThen_ok, Sem.run_pure]), h2, h3, h4⟩
  case slice t x lo hi mx =>
    refine pure1 h fun r hr => ?_
    split at hr
    · rename_i hsl
      exact sliceA_sound hsl hr (hρ x) (VRo_map hρ) (VRo_map hρ) (VRo_map hρ)
    · split at hr
      · rename_i hn
        simp only [Bool.and_eq_true, Option.isNone_iff_eq_none] at hn
        obtain ⟨⟨rfl, rfl⟩, rfl⟩ := hn
        exact slarrA_sound hr (hρ x)
      · cases hr
  case fieldAddr t x i => exact pure1 h fun r hr => fieldAddrA_sound hr (hρ x)
  case field t x i => exact pure1 h fun r hr => fieldA_sound hr (hρ x)
  case indexAddr t x i => exact pure1 h fun r hr => indexAddrA_sound hr (hρ x) (hρ i)
  case index t x i => exact pure1 h fun r hr => indexA_sound hr (hρ x) (hρ i)
  case typeAssert x xt t ok => exact pure1 h fun r hr => assertA_sound hr (hρ x)
  case extract x i =>
    refine pure1 h fun r hr => ?_
    have hx := hρ x
    unfold extractA at hr
    split at hr
    · rename_i vs hv
      rw [hv, VR] at hx
      obtain ⟨us, hu, hx⟩ := hx
      obtain ⟨u, h1, h2⟩ := hx.at_ _ _ hr
      have h1' : us.toArray[i]? = some u := by simpa using h1
      exact ⟨u, by simp only [hu, Instr.extract, h1', Sem.run_pure], h2⟩
    · cases hr
  case call c =>
    obtain ⟨callee, args, argTypes⟩ := c
    cases callee <;> simp only [opA, reduceCtorEq] at h
    rename_i b
    have key : ∀ consts : Array Bool, Good P gl w0 w g m' a ((builtin b argTypes ty consts (args.map ρ)).run P w) := fun consts => by
      have := builtin_good hs (ty := ty) (consts := consts) (vs := args.toList.map ρ) h (VRs_map hρ)
      rwa [show (args.toList.map ρ).toArray = args.map ρ from by rw [← Array.toList_map, Array.toArray_toList], show argTypes.toList.toArray = argTypes from Array.toArray_toList] at this
    exact key _
end
end AE
end Go.Proofs.YthoomlenmgdebaaGreatDoor
