/- Each operation of the evaluator does what the model's operation does. -/
import Derived.Test.YthoomlenmgdebaaGreatDoorAE2
import Derived.Lib.Strings
import Derived.Lib.SmallJoins
set_option linter.unusedVariables false
set_option linter.unusedSimpArgs false
namespace Go.Proofs.YthoomlenmgdebaaGreatDoor
namespace AE
open Go Go.RowKit

def Good (P : Program) (gl : Nat → A) (w0 w : World) (g : Gh) (m' : Mem) (a : A) (r : Result Next) : Prop :=
  ∃ v w' g', (r = .ok (.value v) w' ∨ (r = .ok .skip w' ∧ v = undef)) ∧ VR w' g' a v ∧ SR P gl w0 g' m' w' ∧ Ext w g w' g'

section
variable {P : Program} {gl : Nat → A} {w0 : World} {g : Gh} {m : Mem} {w : World}
theorem Good.pure (hs : SR P gl w0 g m w) {a : A} {v : Value} {r : Result Next} (hv : VR w g a v) (hr : r = .ok (.value v) w) : Good P gl w0 w g m a r :=
  ⟨v, w, g, .inl hr, hv, hs, Ext.refl _ _⟩

/-! ### Types -/
theorem underlying_some {t : TypeId} {d : TypeDesc} (h : P.underlying t = some d) : ∃ i, P.info? t = some i := by
  unfold Program.underlying at h
  cases hi : P.info? t with
  | none => simp [hi] at h
  | some i => exact ⟨i, rfl⟩
theorem elemT_some {t e : TypeId} (h : elemT P t = some e) : P.underlying t = some (.slice e) := by
  unfold elemT at h
  cases hu : P.underlying t with
  | none => simp [hu] at h
  | some d => cases d <;> simp [hu] at h; rw [h]
theorem arrT_some {t e : TypeId} {n : Nat} (h : arrT P t = some (n, e)) : P.underlying t = some (.array n e) := by
  unfold arrT at h
  cases hu : P.underlying t with
  | none => simp [hu] at h
  | some d => cases d <;> simp [hu] at h; rw [h.1, h.2]
theorem isStr_true {t : TypeId} (h : isStr P t = true) : P.underlying t = some .string := by
  unfold isStr at h
  cases hu : P.underlying t with
  | none => simp [hu] at h
  | some d => cases d <;> simp [hu] at h; rfl
theorem isBool_true {t : TypeId} (h : isBool P t = true) : P.underlying t = some .bool := by
  unfold isBool at h
  cases hu : P.underlying t with
  | none => simp [hu] at h
  | some d => cases d <;> simp [hu] at h; rfl
theorem isPtr_true {t : TypeId} (h : isPtr P t = true) : ∃ e, P.underlying t = some (.pointer e) := by
  unfold isPtr at h
  cases hu : P.underlying t with
  | none => simp [hu] at h
  | some d => cases d <;> simp [hu] at h; exact ⟨_, rfl⟩
theorem run_isAgg {t : TypeId} {b : Bool} (h : aggT P t = some b) : (isAgg t).run P w = .ok b w := by
  unfold aggT at h
  cases hu : P.underlying t with
  | none => simp [hu] at h
  | some d =>
    simp only [hu, Option.map_some, Option.some.injEq] at h
    simp only [isAgg, Sem.run_bind, run_underlying hu, Result.andThen_ok]
    cases d <;> simp_all
theorem aggT_info {t : TypeId} {b : Bool} (h : aggT P t = some b) : ∃ i, P.info? t = some i := by
  unfold aggT at h
  cases hu : P.underlying t with
  | none => simp [hu] at h
  | some d => exact underlying_some hu
theorem run_size {t : TypeId} {i : TypeInfo} (h : P.info? t = some i) : (sizeOf t).run P w = .ok (szOf P t) w := by
  simp [sizeOf, typeInfo, h, szOf]
theorem run_size' {t : TypeId} (h : szOf P t ≠ 0) : (sizeOf t).run P w = .ok (szOf P t) w := by
  unfold szOf at h
  cases hi : P.info? t with
  | none => simp [hi] at h
  | some i => exact run_size hi
theorem run_zero {t : TypeId} {z : List A} (h : zeroOf P t = some z) : ∃ v, (zeroValue t).run P w = .ok v w ∧ z = v.cells.toList.map A.ofCell := by
  unfold zeroOf at h
  cases hi : P.info? t with
  | none => simp [hi] at h
  | some i =>
    simp only [hi, Option.bind_some] at h
    cases hz : i.zero with
    | none => simp [hz] at h
    | some v =>
      simp only [hz, Option.map_some, Option.some.injEq] at h
      exact ⟨v, by simp [zeroValue, typeInfo, hi, hz], h.symm⟩
theorem zeroOf_info {t : TypeId} {z : List A} (h : zeroOf P t = some z) : ∃ i, P.info? t = some i := by
  unfold zeroOf at h
  cases hi : P.info? t with
  | none => simp [hi] at h
  | some i => exact ⟨i, rfl⟩
theorem run_bytes {t : TypeId} {b : Nat} (h : bytesOf P t = some b) : ∃ i, P.info? t = some i ∧ i.bytes = b := by
  unfold bytesOf at h
  cases hi : P.info? t with
  | none => simp [hi] at h
  | some i => exact ⟨i, rfl, by simpa [hi] using h⟩

/-! ### Constants -/
theorem VR_ofV (v : Value) : VR w g (A.ofV v) v := by
  unfold A.ofV
  split <;> rw [VR] <;> first | trivial | rfl | exact ⟨[], rfl, VRs.mk_nil⟩
theorem VR_ofCell (v : Value) : VR w g (A.ofCell v) v := by
  unfold A.ofCell
  split <;> first | (rw [VR]; trivial) | exact VR_ofV v
theorem VRs_ofCells : ∀ l : List Value, VRs w g (l.map A.ofCell) l
  | [] => VRs.mk_nil
  | v :: r => .mk_cons (VR_ofCell v) (VRs_ofCells r)

theorem add_plain' (b o n : Nat) : (⟨b, o, none⟩ : Addr).add n = ⟨b, o + n, none⟩ := by unfold Addr.add; split <;> simp_all

/-! ### Loads -/
/-- What lies at an address, some cells of it. -/
def At (w : World) (b o : Nat) (us : List Value) : Prop := ∀ j u, us[j]? = some u → w.cell? ⟨b, o + j, none⟩ = some u
theorem Lies.at {b o : Nat} {us : List Value} (h : Lies w g b o us) : At w b o us := fun j u hj => (h j u hj).2
theorem At.sub {b o : Nat} {us : List Value} (h : At w b o us) (d n : Nat) : At w b (o + d) ((us.drop d).take n) := fun j u hj => by
  rw [List.getElem?_take] at hj
  split at hj
  · rw [List.getElem?_drop] at hj
    rw [Nat.add_assoc]
    exact h _ _ hj
  · cases hj
theorem At.of_block {b : Nat} {us : Array Value} {e : TypeId} {fr : Nat × Nat} (h : w.heap[b]? = some (.cells us e fr)) {ss rest : List Value} (hs : us.toList = ss ++ rest) : At w b 0 ss := fun j u hj => by
  simp only [World.cell?, h, Nat.zero_add]
  have : us.toList[j]? = some u := by
    rw [hs, List.getElem?_append_left (List.getElem?_eq_some_iff.1 hj).1]
    exact hj
  simpa using this
theorem run_cells {b o : Nat} {us : List Value} (h : At w b o us) : (loadCells ⟨b, o, none⟩ us.length).run P w = .ok us.toArray w := by
  refine run_loadCells_list w _ us fun j v hj => ?_
  rw [add_plain']
  exact h j v hj

theorem run_var {t : TypeId} {b o : Nat} {gb : Bool} (hg : aggT P t = some gb) {cs : List A} {us : List Value} (hc : VRs w g cs us) (ha : At w b o us) (hn : cs.length = if gb then szOf P t else 1) {a : A} (hv : asVar gb cs = some a) :
    ∃ v, (loadVar t ⟨b, o, none⟩).run P w = .ok v w ∧ VR w g a v := by
  obtain ⟨i, hi⟩ := aggT_info hg
  cases gb with
  | true =>
    simp only [asVar, if_true, Option.some.injEq] at hv
    subst hv
    refine ⟨.agg us.toArray, ?_, by rw [VR]; exact ⟨us, rfl, hc⟩⟩
    have hl : szOf P t = us.length := by rw [hc.length, hn]; rfl
    have := run_cells (P := P) ha
    simp only [loadVar, Sem.run_bind, run_isAgg hg, Result.andThen_ok, if_true, run_size hi, hl, this, Sem.run_pure]
  | false =>
    simp only [Bool.false_eq_true, if_false] at hn
    match cs, hn, hv, hc with
    | [c], _, hv, hc =>
      simp only [asVar, Bool.false_eq_true, if_false, Option.some.injEq] at hv
      subst hv
      rw [VRs.cons_iff] at hc
      obtain ⟨u, t', rfl, h1, _⟩ := hc
      refine ⟨u, ?_, h1⟩
      have := ha 0 u rfl
      simp only [Nat.add_zero] at this
      simp only [loadVar, Sem.run_bind, run_isAgg hg, Result.andThen_ok, Bool.false_eq_true, if_false, run_load, this]

theorem VRs.sub {cs : List A} {us : List Value} (h : VRs w g cs us) (d n : Nat) : VRs w g ((cs.drop d).take n) ((us.drop d).take n) := (h.drop d).take n

theorem loadA_sound (hs : SR P gl w0 g m w) {t : TypeId} {x a : A} {v : Value} (h : loadA P t x m = some a) (hx : VR w g x v) :
    ∃ u, (Instr.loadAt t v).run P w = .ok u w ∧ VR w g a u := by
  unfold loadA at h
  cases hg : aggT P t with
  | none => simp [hg] at h
  | some gb =>
    simp only [hg, Option.bind_eq_bind, Option.bind_some] at h
    generalize hN : (if gb = true then szOf P t else 1) = n at h
    cases x <;> simp only [reduceCtorEq] at h
    case rp cs =>
      rw [VR] at hx
      obtain ⟨b, o, us, rfl, hc, hl⟩ := hx
      split at h
      · rename_i hn
        obtain ⟨u, hu, hv⟩ := run_var hg (hc.take _) (o := o) (b := b) (by simpa using hl.at.sub 0 n) (by simp; omega) h
        exact ⟨u, by simp [Instr.loadAt, Instr.sureAddr, hu], hv⟩
      · cases h
    case ptr id off =>
      rw [VR] at hx
      obtain ⟨hid, rfl⟩ := hx
      cases hb : m.bx[id]? with
      | none => simp [hb] at h
      | some cs =>
        simp only [hb, Option.bind_some] at h
        obtain ⟨us, e, h1, h2⟩ := hs.bx id cs hb
        split at h
        · rename_i hn
          have hat := (At.of_block h1 (ss := us.toList) (rest := []) (by simp)).sub off n
          rw [Nat.zero_add] at hat
          obtain ⟨u, hu, hv⟩ := run_var hg (h2.sub off _) hat (by simp; omega) h
          exact ⟨u, by simp [Instr.loadAt, Instr.sureAddr, hu], hv⟩
        · cases h
    case rptr id ver off =>
      rw [VR] at hx
      obtain ⟨_, L, hL, hle, hx⟩ := hx
      cases hb : m.rw[id]? with
      | none => simp [hb] at h
      | some r =>
        simp only [hb, Option.bind_some] at h
        obtain ⟨us, ss, rest, h1, h2, h3, h4⟩ := hs.rw id r hb
        split at h
        · rename_i hn
          have : L = r.cs.length := by
            rw [hs.rl, List.getElem?_map, hb] at hL
            simpa using hL.symm
          obtain rfl := hx (by omega)
          have hat := (At.of_block h1 h3).sub off n
          rw [Nat.zero_add] at hat
          obtain ⟨u, hu, hv⟩ := run_var hg (h4.sub off _) hat (by simp; omega) h
          exact ⟨u, by simp [Instr.loadAt, Instr.sureAddr, hu], hv⟩
        · cases h

/-! ### Stores -/
theorem VRs.setCells {cs xs : List A} {us vs : List Value} (hc : VRs w g cs us) (hx : VRs w g xs vs) (off : Nat) : VRs w g (setCells cs off xs) (us.take off ++ vs ++ us.drop (off + vs.length)) := by
  unfold AE.setCells
  rw [hx.length]
  exact ((hc.take off).append hx).append (hc.drop _)

theorem storeA_sound (hs : SR P gl w0 g m w) {t : TypeId} {x y : A} {m' : Mem} {v u : Value} (h : storeA P t x y m = some m') (hx : VR w g x v) (hy : VR w g y u) :
    ∃ w' g', (Instr.storeAt t v u).run P w = .ok () w' ∧ SR P gl w0 g' m' w' ∧ Ext w g w' g' := by
  unfold storeA at h
  split at h
  · rename_i h0
    have hp : ∃ p, v = .pointer (some p) := by
      cases x <;> simp only [reduceCtorEq] at h
      · rw [VR] at hx; exact ⟨_, hx.2⟩
      · rw [VR] at hx; obtain ⟨⟨_, _, q⟩, _⟩ := hx; exact ⟨_, q⟩
    obtain ⟨p, rfl⟩ := hp
    have hm : (y.cells.length = 0 ∧ (aggT P t).isSome = true ∧ y.cells.all flat = true) ∧ m = m' := by
      cases x <;> simp only [reduceCtorEq] at h
      all_goals
        split at h
        · rename_i hc; simp only [Option.some.injEq] at h; exact ⟨hc, h⟩
        · cases h
    obtain ⟨⟨hc1, hc2, hc3⟩, rfl⟩ := hm
    have hcs := hy.cells hc3
    have hlen : u.cells = #[] := Array.eq_empty_of_size_eq_zero (by have := hcs.length; simp at this; omega)
    obtain ⟨gb, hgb⟩ := Option.isSome_iff_exists.1 hc2
    obtain ⟨i, hi⟩ := aggT_info hgb
    refine ⟨w, g, ?_, hs, Ext.refl _ _⟩
    simp [Instr.storeAt, Instr.sureAddr, storeVar, run_size hi, hlen, h0, storeCells]
  split at h
  · rename_i hc
    have hcs := hy.cells hc.2.2
    have hfl := hcs.flats hc.2.2
    have hlen : u.cells.size = szOf P t := by rw [← hc.1, ← hcs.length]; simp
    have hpos : szOf P t ≠ 0 := by omega
    cases x <;> simp only [reduceCtorEq, Option.bind_eq_bind] at h
    case ptr id off =>
      rw [VR] at hx
      obtain ⟨hid, rfl⟩ := hx
      cases hb : m.bx[id]? with
      | none => simp [hb] at h
      | some cs =>
        simp only [hb, Option.bind_some] at h
        obtain ⟨us, e, h1, h2⟩ := hs.bx id cs hb
        split at h
        · rename_i hn
          simp only [Option.some.injEq] at h
          subst h
          have hul := h2.length
          simp at hul
          have hst := run_storeCells_at P (g.bb id) off e u.cells.toList 0 us w h1 (by have := hcs.length; simp at this ⊢; omega) hfl
          have hset := (hs.setBox (i := id) (cs := AE.setCells cs off y.cells) (us := (us.toList.take (off + 0) ++ u.cells.toList ++ us.toList.drop (off + 0 + u.cells.toList.length)).toArray) (List.getElem?_eq_some_iff.1 hb).1 (by simpa using h2.setCells hcs off))
          refine ⟨_, g, ?_, hset.1, hset.2⟩
          simp [Instr.storeAt, Instr.sureAddr, storeVar, run_size' hpos, hlen, hst]
        · cases h
    case rptr id ver off =>
      rw [VR] at hx
      obtain ⟨_, L, hL, hle, hx⟩ := hx
      cases hb : m.rw[id]? with
      | none => simp [hb] at h
      | some r =>
        simp only [hb, Option.bind_some] at h
        obtain ⟨us, ss, rest, h1, h2, h3, h4⟩ := hs.rw id r hb
        split at h
        · rename_i hn
          simp only [Option.some.injEq] at h
          subst h
          have : L = r.cs.length := by
            rw [hs.rl, List.getElem?_map, hb] at hL
            simpa using hL.symm
          obtain rfl := hx (by omega)
          have hul := h4.length
          have husz : us.size = ss.length + rest.length := by rw [← Array.length_toList, h3, List.length_append]
          have hyl := hcs.length
          simp at hyl
          have hst := run_storeCells_at P (g.br id) off r.el u.cells.toList 0 us w h1 (by simp; omega) hfl
          have hl2 : u.cells.toList.length = u.cells.size := by simp
          have key : (us.toList.take (off + 0) ++ u.cells.toList ++ us.toList.drop (off + 0 + u.cells.toList.length)) = (ss.take off ++ u.cells.toList ++ ss.drop (off + u.cells.toList.length)) ++ rest := by
            rw [h3, Nat.add_zero, List.take_append_of_le_length (by omega), List.drop_append_of_le_length (by omega)]
            simp
          obtain ⟨g', hg1, hg2, _⟩ := hs.setRow (i := id) (cs := AE.setCells r.cs off y.cells) (us := (us.toList.take (off + 0) ++ u.cells.toList ++ us.toList.drop (off + 0 + u.cells.toList.length)).toArray) hb (by simp [AE.setCells]; omega) (by rw [← h2, key]; simp; omega) key (h4.setCells hcs off)
          refine ⟨_, g', ?_, hg1, hg2⟩
          simp [Instr.storeAt, Instr.sureAddr, storeVar, run_size' hpos, hlen, hst]
        · cases h
  · cases h
end
end AE
end Go.Proofs.YthoomlenmgdebaaGreatDoor
