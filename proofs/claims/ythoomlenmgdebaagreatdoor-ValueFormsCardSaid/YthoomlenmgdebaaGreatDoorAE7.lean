/- Each operation of the evaluator does what the model's operation does: literals, numbers and strings. -/
import Derived.Test.YthoomlenmgdebaaGreatDoorAE6
set_option linter.unusedVariables false
set_option linter.unusedSimpArgs false
set_option maxHeartbeats 800000
namespace Go.Proofs.YthoomlenmgdebaaGreatDoor
namespace AE
open Go Go.RowKit

section
variable {P : Program} {gl : Nat → A} {w0 : World} {g : Gh} {m : Mem} {w : World}

theorem foldl_set (off : Nat) : ∀ (l : List Value) (k : Nat) (cells : Array Value), off + k + l.length ≤ cells.size →
    ((l.zipIdx k).foldl (fun cs (x : Value × Nat) => cs.setIfInBounds (off + x.2) x.1) cells).toList = cells.toList.take (off + k) ++ l ++ cells.toList.drop (off + k + l.length)
  | [], k, cells, h => by simp
  | v :: rest, k, cells, h => by
    simp only [List.length_cons] at h
    rw [List.zipIdx_cons, List.foldl_cons, foldl_set off rest (k + 1) _ (by simp; omega)]
    have e := list_seg_step cells.toList (off + k) v rest (by simp; omega)
    simpa [Array.toList_setIfInBounds, Nat.add_assoc] using e

def VRp (w : World) (g : Gh) : List (Nat × A) → List (Nat × Value) → Prop
  | [], [] => True
  | (i, a) :: r, (j, v) :: s => i = j ∧ VR w g a v ∧ VRp w g r s
  | _, _ => False

theorem fill_sound {pa pv : Nat → Option (Nat × Nat)} (hp : ∀ i p, pa i = some p → pv i = some p) : ∀ {parts : List (Nat × A)} {pvs : List (Nat × Value)} {cells cs : List A} {us : Array Value}, VRs w g cells us.toList → VRp w g parts pvs → fillA pa cells parts = some cs →
    ∃ vs : Array Value, Instr.fill pv us pvs = some vs ∧ VRs w g cs vs.toList
  | [], [], cells, cs, us, hc, _, h => by
    simp only [fillA, Option.some.injEq] at h
    subst h
    exact ⟨us, rfl, hc⟩
  | [], _ :: _, _, _, _, _, h, _ => h.elim
  | _ :: _, [], _, _, _, _, h, _ => h.elim
  | (i, a) :: r, (j, v) :: s, cells, cs, us, hc, hpr, h => by
    obtain ⟨rfl, ha, hr⟩ := hpr
    unfold fillA at h
    cases hi : pa i with
    | none => simp [hi] at h
    | some p =>
      obtain ⟨off, size⟩ := p
      simp only [hi] at h
      split at h
      · rename_i hcc
        obtain ⟨c1, c2, c3⟩ := hcc
        have hac := ha.part c3
        have hal := hac.length
        have hul := hc.length
        simp at hal hul
        have hset := foldl_set off v.cells.toList 0 us (by simp; omega)
        have hrec := hc.setCells hac off
        obtain ⟨vs, h1, h2⟩ := fill_sound hp (us := (v.cells.toList.zipIdx 0).foldl (fun cs (x : Value × Nat) => cs.setIfInBounds (off + x.2) x.1) us) (by rw [hset]; simpa using hrec) hr h
        refine ⟨vs, ?_, h2⟩
        unfold Instr.fill
        simp only [hp i _ hi]
        rw [if_neg (by simp; omega), ← h1]
        congr 1
        rw [← Array.foldl_toList]
        simp
      · cases h

theorem fieldT_place {t : TypeId} {fs : Array Field} (hu : P.underlying t = some (.struct fs)) (places : Array (Nat × Nat)) (hpl : places.toList = fs.toList.map fun f => (f.offset, szOf P f.type)) (i : Nat) (p : Nat × Nat)
    (h : ((fieldT P t i).map fun p => (p.1, szOf P p.2)) = some p) : places[i]? = some p := by
  rw [← Array.getElem?_toList, hpl, List.getElem?_map]
  unfold fieldT at h
  simp only [hu, Option.bind_some, Option.map_map] at h
  rw [Array.getElem?_toList, ← h]
  rfl

theorem run_places : ∀ (l : List Field), (∀ f ∈ l, ∃ i, P.info? f.type = some i) → (l.mapM (m := Sem) fun f => do pure (f.offset, ← sizeOf f.type)).run P w = .ok (l.map fun f => (f.offset, szOf P f.type)) w
  | [], _ => by simp
  | f :: r, h => by
    obtain ⟨i, hi⟩ := h f (by simp)
    simp only [List.mapM_cons, Sem.run_bind, run_size hi, Result.andThen_ok, Sem.run_pure, run_places r (fun f hf => h f (by simp [hf])), List.map_cons]

theorem buildA_sound {t : TypeId} {parts : List (Nat × A)} {pvs : Array (Nat × Value)} {a : A} (h : buildA P t parts = some a) (hp : VRp w g parts pvs.toList) :
    ∃ r, (Instr.build t pvs).run P w = .ok r w ∧ VR w g a r := by
  unfold buildA at h
  cases hz : zeroOf P t with
  | none => simp [hz] at h
  | some z =>
    obtain ⟨zv, hzr, rfl⟩ := run_zero (w := w) hz
    simp only [hz, Option.bind_eq_bind, Option.bind_some] at h
    have hzc : VRs w g (zv.cells.toList.map A.ofCell) zv.cells.toList := VRs_ofCells _
    split at h
    · cases h
    rename_i hok
    replace hok : fieldsOk P t = true := by simpa using hok
    unfold fieldsOk at hok
    cases hu : P.underlying t with
    | none => simp [hu] at h
    | some d =>
      simp only [hu] at h hok
      cases d <;> simp only [reduceCtorEq] at h
      case array n e =>
        obtain ⟨i, hi⟩ := Option.isSome_iff_exists.1 hok
        obtain ⟨cs, hcs, rfl⟩ := Option.map_eq_some_iff.1 h
        obtain ⟨vs, h1, h2⟩ := fill_sound (pv := fun i => some (i * szOf P e, szOf P e)) (fun i p h => h) hzc hp hcs
        refine ⟨.agg vs, ?_, by rw [VR]; exact ⟨vs.toList, rfl, h2⟩⟩
        simp only [Instr.build, Sem.run_bind, hzr, Result.andThen_ok, run_underlying hu, run_size hi, h1, Sem.run_pure]
      case struct fs =>
        obtain ⟨cs, hcs, rfl⟩ := Option.map_eq_some_iff.1 h
        have hall : ∀ f ∈ fs.toList, ∃ i, P.info? f.type = some i := fun f hf => by
          have := Array.all_eq_true'.1 hok f (by simpa using hf)
          exact Option.isSome_iff_exists.1 this
        have hrun := run_places (P := P) (w := w) fs.toList hall
        have hrun' : (fs.mapM (m := Sem) fun f => do pure (f.offset, ← sizeOf f.type)).run P w = .ok (fs.toList.map fun f => (f.offset, szOf P f.type)).toArray w := by
          rw [Array.mapM_eq_mapM_toList, Sem.run_map, hrun]
          rfl
        obtain ⟨vs, h1, h2⟩ := fill_sound (pv := ((fs.toList.map fun f => (f.offset, szOf P f.type)).toArray[·]?)) (fun i p h => fieldT_place hu _ (by simp) i p h) hzc hp hcs
        refine ⟨.agg vs, ?_, by rw [VR]; exact ⟨vs.toList, rfl, h2⟩⟩
        simp only [Instr.build, Sem.run_bind, hzr, Result.andThen_ok, run_underlying hu, hrun', h1, Sem.run_pure]

/-! ### Numbers and strings -/
theorem toList_mk (s : List UInt8) : (⟨s.toArray⟩ : ByteArray).toList = s := by rw [Lib.toList_data]

theorem eqGuard_plain {op : BinOp} {t : TypeId} {x y : Operand} {a b : Value} (h : ¬ (a = .nilIface ∧ b = .nilIface)) (h2 : ∀ c d, ¬ (a = .agg c ∧ b = .agg d)) : (eqGuard op t x y a b).run P w = .ok () w := by
  unfold eqGuard
  cases op <;> first
    | rfl
    | (cases a <;> cases b <;> first | rfl | exact absurd ⟨rfl, rfl⟩ h | exact absurd ⟨rfl, rfl⟩ (h2 _ _))

theorem VR.mkInt {k : IntKind} {n : Int} : VR w g (.int k n) (.int k n) := by rw [VR]
theorem VR.mkBool {b : Bool} : VR w g (.bool b) (.bool b) := by rw [VR]
theorem VR.mkStr {s : List UInt8} : VR w g (.str s) (.string ⟨s.toArray⟩) := by rw [VR]

theorem run_equalIn_ptr {e t : TypeId} (hu : P.underlying t = some (.pointer e)) (p : Addr) (d : Nat) : (Op.equalIn (d + 1) t (.pointer (some p)) (.pointer none)).run P w = .ok false w := by
  simp [Op.equalIn, run_underlying hu]
theorem run_equalIn_bool {t : TypeId} (hu : P.underlying t = some .bool) (a b : Bool) (d : Nat) : (Op.equalIn (d + 1) t (.bool a) (.bool b)).run P w = .ok (a == b) w := by
  simp [Op.equalIn, run_underlying hu]
theorem run_equal_ptr {e t : TypeId} (hu : P.underlying t = some (.pointer e)) (p : Addr) : (Op.equal t (.pointer (some p)) (.pointer none)).run P w = .ok false w := run_equalIn_ptr hu p 9999
theorem run_equal_bool {t : TypeId} (hu : P.underlying t = some .bool) (a b : Bool) : (Op.equal t (.bool a) (.bool b)).run P w = .ok (a == b) w := run_equalIn_bool hu a b 9999
theorem run_eq_nil {e t : TypeId} {op : BinOp} (hu : P.underlying t = some (.pointer e)) (p : Addr) (ho : op = .eql ∨ op = .neq) : (binOp op t (.pointer (some p)) (.pointer none)).run P w = .ok (.bool (op == .neq)) w := by
  rcases ho with rfl | rfl
  · show (do pure (.bool (← Op.equal t _ _)) : Sem Value).run P w = _
    rw [Sem.run_bind, run_equal_ptr hu]; rfl
  · show (do pure (.bool (!(← Op.equal t _ _))) : Sem Value).run P w = _
    rw [Sem.run_bind, run_equal_ptr hu]; rfl

theorem run_equalIn_nils {e t : TypeId} (hu : P.underlying t = some (.pointer e)) (d : Nat) : (Op.equalIn (d + 1) t (.pointer none) (.pointer none)).run P w = .ok true w := by
  simp [Op.equalIn, run_underlying hu]
theorem run_eq_nils {e t : TypeId} {op : BinOp} (hu : P.underlying t = some (.pointer e)) (ho : op = .eql ∨ op = .neq) : (binOp op t (.pointer none) (.pointer none)).run P w = .ok (.bool (op == .eql)) w := by
  have hq : (Op.equal t (.pointer none) (.pointer none)).run P w = .ok true w := run_equalIn_nils hu 9999
  rcases ho with rfl | rfl
  · show (do pure (.bool (← Op.equal t _ _)) : Sem Value).run P w = _
    rw [Sem.run_bind, hq]; rfl
  · show (do pure (.bool (!(← Op.equal t _ _))) : Sem Value).run P w = _
    rw [Sem.run_bind, hq]; rfl
theorem isIfc_true {t : TypeId} (h : isIfc P t = true) : ∃ ms, P.underlying t = some (.interface ms) := by
  unfold isIfc at h
  split at h
  · exact ⟨_, by assumption⟩
  · cases h
theorem run_equalIn_ifc {t : TypeId} {ms} (hu : P.underlying t = some (.interface ms)) (s : TypeId) (x : Value) (d : Nat) : (Op.equalIn (d + 1) t (.iface s x) .nilIface).run P w = .ok false w := by
  simp [Op.equalIn, run_underlying hu]
theorem run_equalIn_nili {t : TypeId} {ms} (hu : P.underlying t = some (.interface ms)) (d : Nat) : (Op.equalIn (d + 1) t .nilIface .nilIface).run P w = .ok true w := by
  simp [Op.equalIn, run_underlying hu]
theorem run_equal_ifc {t : TypeId} {ms} (hu : P.underlying t = some (.interface ms)) (s : TypeId) (x : Value) : (Op.equal t (.iface s x) .nilIface).run P w = .ok false w := run_equalIn_ifc hu s x 9999
theorem run_equal_nili {t : TypeId} {ms} (hu : P.underlying t = some (.interface ms)) : (Op.equal t .nilIface .nilIface).run P w = .ok true w := run_equalIn_nili hu 9999
theorem run_eq_ifc {t : TypeId} {ms} {op : BinOp} (hu : P.underlying t = some (.interface ms)) (s : TypeId) (x : Value) (ho : op = .eql ∨ op = .neq) : (binOp op t (.iface s x) .nilIface).run P w = .ok (.bool (op == .neq)) w := by
  rcases ho with rfl | rfl
  · show (do pure (.bool (← Op.equal t _ _)) : Sem Value).run P w = _
    rw [Sem.run_bind, run_equal_ifc hu]; rfl
  · show (do pure (.bool (!(← Op.equal t _ _))) : Sem Value).run P w = _
    rw [Sem.run_bind, run_equal_ifc hu]; rfl
theorem run_eq_nili {t : TypeId} {ms} {op : BinOp} (hu : P.underlying t = some (.interface ms)) (ho : op = .eql ∨ op = .neq) : (binOp op t .nilIface .nilIface).run P w = .ok (.bool (op == .eql)) w := by
  rcases ho with rfl | rfl
  · show (do pure (.bool (← Op.equal t _ _)) : Sem Value).run P w = _
    rw [Sem.run_bind, run_equal_nili hu]; rfl
  · show (do pure (.bool (!(← Op.equal t _ _))) : Sem Value).run P w = _
    rw [Sem.run_bind, run_equal_nili hu]; rfl
theorem eqGuard_const {op : BinOp} {t : TypeId} {x y : Operand} (h : (isConst x || isConst y) = true) : (eqGuard op t x y .nilIface .nilIface).run P w = .ok () w := by
  unfold eqGuard
  cases op <;> first
    | rfl
    | (cases x <;> cases y <;> first | rfl | (simp [isConst] at h; done))

theorem binA_sound {op : BinOp} {t : TypeId} {x y a : A} {v u : Value} {ox oy : Operand} (h : binA P op t (isConst ox || isConst oy) x y = some a) (hx : VR w g x v) (hy : VR w g y u) :
    ∃ r, (do eqGuard op t ox oy v u; binOp op t v u : Sem Value).run P w = .ok r w ∧ VR w g a r := by
  unfold binA at h
  split at h
  · rename_i k n k' n'
    rw [VR] at hx
    rw [VR] at hy
    subst hx hy
    split at h
    · rename_i hk
      subst hk
      rw [Sem.run_bind, eqGuard_plain (by simp) (by simp), Result.andThen_ok]
      cases op <;> simp only [reduceCtorEq] at h <;> simp only [intOp, Option.some.injEq] at h
      case quo =>
        split at h
        · cases h
        · rename_i hb
          simp only [Option.some.injEq] at h
          subst h
          exact ⟨_, by simp [binOp, Op.intDiv, hb], VR.mkInt⟩
      case rem =>
        split at h
        · cases h
        · rename_i hb
          simp only [Option.some.injEq] at h
          subst h
          exact ⟨_, by simp [binOp, Op.intDiv, hb], VR.mkInt⟩
      all_goals
        subst h
        first
          | exact ⟨_, by simp [binOp, Op.intArith, Op.intCmp], VR.mkInt⟩
          | exact ⟨_, by simp [binOp, Op.intArith, Op.intCmp], VR.mkBool⟩
    · cases h
  · rename_i s s'
    rw [VR] at hx
    rw [VR] at hy
    subst hx hy
    rw [Sem.run_bind, eqGuard_plain (by simp) (by simp), Result.andThen_ok]
    cases op <;> simp only [strOp, reduceCtorEq] at h
    case add =>
      split at h
      · rename_i hl
        simp only [Option.some.injEq] at h
        subst h
        refine ⟨.string ⟨(s ++ s').toArray⟩, ?_, VR.mkStr⟩
        have hs1 : (⟨s.toArray⟩ : ByteArray).size = s.length := by show s.toArray.size = _; simp
        have hs2 : (⟨s'.toArray⟩ : ByteArray).size = s'.length := by show s'.toArray.size = _; simp
        have hm : ¬ (((s.length + s'.length : Nat) : Int) > IntKind.i64.max) := by
          show ¬ (((s.length + s'.length : Nat) : Int) > 9223372036854775807)
          omega
        have e : (⟨s.toArray⟩ ++ ⟨s'.toArray⟩ : ByteArray) = ⟨(s ++ s').toArray⟩ := by
          apply ByteArray.ext
          apply Array.ext'
          have := Joins.data_append ⟨s.toArray⟩ ⟨s'.toArray⟩
          simp [this]
        simp only [binOp, Op.stringOp, hs1, hs2, if_neg hm, Sem.run_pure, e]
      · cases h
    all_goals
      simp only [Option.some.injEq] at h
      subst h
      exact ⟨_, by simp [binOp, Op.stringOp, toList_mk], VR.mkBool⟩
  · rename_i b b'
    rw [VR] at hx
    rw [VR] at hy
    subst hx hy
    split at h
    · rename_i hb
      have hu := isBool_true hb
      rw [Sem.run_bind, eqGuard_plain (by simp) (by simp), Result.andThen_ok]
      cases op <;> simp only [reduceCtorEq, Option.some.injEq] at h
      all_goals
        subst h
        first
          | exact ⟨_, (show (do pure (.bool (← Op.equal t (.bool b) (.bool b'))) : Sem Value).run P w = .ok (.bool (b == b')) w from by rw [Sem.run_bind, run_equal_bool hu]; rfl), VR.mkBool⟩
          | exact ⟨_, (show (do pure (.bool (!(← Op.equal t (.bool b) (.bool b')))) : Sem Value).run P w = .ok (.bool (!(b == b'))) w from by rw [Sem.run_bind, run_equal_bool hu]; rfl), VR.mkBool⟩
    · cases h
  · split at h
    · rename_i hb
      obtain ⟨ms, hu⟩ := isIfc_true hb
      rw [VR] at hx
      rw [VR] at hy
      obtain ⟨_, rfl, _⟩ := hx
      subst hy
      rw [Sem.run_bind, eqGuard_plain (by simp) (by simp), Result.andThen_ok]
      cases op <;> simp only [reduceCtorEq, Option.some.injEq] at h
      · subst h; exact ⟨_, run_eq_ifc hu _ _ (.inl rfl), VR.mkBool⟩
      · subst h; exact ⟨_, run_eq_ifc hu _ _ (.inr rfl), VR.mkBool⟩
    · cases h
  · split at h
    · rename_i hb
      obtain ⟨ms, hu⟩ := isIfc_true hb.1
      rw [VR] at hx
      rw [VR] at hy
      subst hx hy
      rw [Sem.run_bind, eqGuard_const hb.2, Result.andThen_ok]
      cases op <;> simp only [reduceCtorEq, Option.some.injEq] at h
      · subst h; exact ⟨_, run_eq_nili hu (.inl rfl), VR.mkBool⟩
      · subst h; exact ⟨_, run_eq_nili hu (.inr rfl), VR.mkBool⟩
    · cases h
  · split at h
    · rename_i hb
      obtain ⟨e, hu⟩ := isPtr_true hb
      rw [VR] at hx
      rw [VR] at hy
      obtain ⟨_, rfl⟩ := hx
      subst hy
      rw [Sem.run_bind, eqGuard_plain (by simp) (by simp), Result.andThen_ok]
      cases op <;> simp only [reduceCtorEq, Option.some.injEq] at h
      · subst h; exact ⟨_, run_eq_nil hu _ (.inl rfl), VR.mkBool⟩
      · subst h; exact ⟨_, run_eq_nil hu _ (.inr rfl), VR.mkBool⟩
    · cases h
  · split at h
    · rename_i hb
      obtain ⟨e, hu⟩ := isPtr_true hb
      rw [VR] at hx
      rw [VR] at hy
      obtain ⟨⟨_, _, rfl⟩, _⟩ := hx
      subst hy
      rw [Sem.run_bind, eqGuard_plain (by simp) (by simp), Result.andThen_ok]
      cases op <;> simp only [reduceCtorEq, Option.some.injEq] at h
      · subst h; exact ⟨_, run_eq_nil hu _ (.inl rfl), VR.mkBool⟩
      · subst h; exact ⟨_, run_eq_nil hu _ (.inr rfl), VR.mkBool⟩
    · cases h
  · split at h
    · rename_i hb
      obtain ⟨e, hu⟩ := isPtr_true hb
      rw [VR] at hx
      rw [VR] at hy
      obtain ⟨_, _, _, rfl, _⟩ := hx
      subst hy
      rw [Sem.run_bind, eqGuard_plain (by simp) (by simp), Result.andThen_ok]
      cases op <;> simp only [reduceCtorEq, Option.some.injEq] at h
      · subst h; exact ⟨_, run_eq_nil hu _ (.inl rfl), VR.mkBool⟩
      · subst h; exact ⟨_, run_eq_nil hu _ (.inr rfl), VR.mkBool⟩
    · cases h
  · split at h
    · rename_i hb
      obtain ⟨e, hu⟩ := isPtr_true hb
      rw [VR] at hx
      rw [VR] at hy
      subst hx hy
      rw [Sem.run_bind, eqGuard_plain (by simp) (by simp), Result.andThen_ok]
      cases op <;> simp only [reduceCtorEq, Option.some.injEq] at h
      · subst h; exact ⟨_, run_eq_nils hu (.inl rfl), VR.mkBool⟩
      · subst h; exact ⟨_, run_eq_nils hu (.inr rfl), VR.mkBool⟩
    · cases h
  · cases h

theorem unA_sound {op : UnOp} {x a : A} {v : Value} (h : unA op x = some a) (hx : VR w g x v) : ∃ r, (Op.unary op v).run P w = .ok r w ∧ VR w g a r := by
  unfold unA at h
  split at h
  · rw [VR] at hx
    subst hx
    simp only [Option.some.injEq] at h
    subst h
    exact ⟨_, by simp [Op.unary, Op.intArith], VR.mkInt⟩
  · rw [VR] at hx
    subst hx
    simp only [Option.some.injEq] at h
    subst h
    exact ⟨_, by simp [Op.unary], VR.mkBool⟩
  · cases h

theorem convA_sound {s d : TypeId} {x a : A} {v : Value} (h : convA P s d x = some a) (hx : VR w g x v) : ∃ r, (convert s d v).run P w = .ok r w ∧ VR w g a r := by
  unfold convA at h
  split at h
  all_goals first | (cases h; done) | (split at h <;> first | (cases h; done) | skip)
  · rename_i k _ n hu hs
    rw [VR] at hx
    subst hx
    obtain ⟨d', hd'⟩ := Option.isSome_iff_exists.mp hs
    simp only [Option.some.injEq] at h
    subst h
    exact ⟨_, by simp [convert, run_underlying hd', run_underlying hu, Conv.intToInt], VR.mkInt⟩
  · rename_i str hu hs
    rw [VR] at hx
    subst hx
    obtain ⟨d', hd'⟩ := Option.isSome_iff_exists.mp hs
    simp only [Option.some.injEq] at h
    subst h
    exact ⟨_, by simp [convert, run_underlying hd', run_underlying hu], VR.mkStr⟩
  · rename_i n hu hs
    rw [VR] at hx
    subst hx
    obtain ⟨d', hd'⟩ := Option.isSome_iff_exists.mp hs
    simp only [Option.some.injEq] at h
    subst h
    exact ⟨.string (Utf8.encode n), by simp [convert, run_underlying hd', run_underlying hu, Conv.intToString], by rw [VR]⟩

theorem lenB_sound {t ty : TypeId} {x a : A} {v : Value} {ts : List TypeId} {vs : List Value} (h : lenB P t x = some a) (hx : VR w g x v) : ∃ r, (Builtin.len_ (t :: ts).toArray ty (v :: vs).toArray).run P w = .ok r w ∧ VR w g a r := by
  have e1 : (t :: ts).toArray[0]? = some t := by simp
  have e2 : (v :: vs).toArray[0]? = some v := by simp
  unfold lenB at h
  split at h <;> simp only [Option.some.injEq, reduceCtorEq] at h <;> subst h
  · rename_i s hu
    rw [VR] at hx
    subst hx
    refine ⟨.int .i64 s.length, ?_, VR.mkInt⟩
    have hs1 : (⟨s.toArray⟩ : ByteArray).size = s.length := by show s.toArray.size = _; simp
    simp only [Builtin.len_, e1, e2, Sem.run_bind, run_underlying hu, Result.andThen_ok, Sem.run_pure, goInt, hs1]
  · rename_i f n cs hu
    rw [VR] at hx
    obtain ⟨_, _, _, rfl, _⟩ := hx
    exact ⟨_, by simp only [Builtin.len_, e1, e2, Sem.run_bind, run_underlying hu, Result.andThen_ok, Sem.run_pure, goInt], VR.mkInt⟩
  · rename_i id ver off n hu
    rw [VR] at hx
    obtain ⟨⟨_, _, _, rfl, _⟩, _⟩ := hx
    exact ⟨_, by simp only [Builtin.len_, e1, e2, Sem.run_bind, run_underlying hu, Result.andThen_ok, Sem.run_pure, goInt], VR.mkInt⟩
  · rename_i hu
    rw [VR] at hx
    subst hx
    exact ⟨_, by simp only [Builtin.len_, e1, e2, Sem.run_bind, run_underlying hu, Result.andThen_ok, Sem.run_pure, goInt]; rfl, VR.mkInt⟩
  · rename_i n e hu
    exact ⟨_, by simp only [Builtin.len_, e1, e2, Sem.run_bind, run_underlying hu, Result.andThen_ok, Sem.run_pure, goInt], VR.mkInt⟩

theorem maxA_sound {x y a : A} {v u : Value} {tys : Array TypeId} {ty : TypeId} (h : maxA x y = some a) (hx : VR w g x v) (hy : VR w g y u) : ∃ r, (Builtin.max_ tys ty #[v, u]).run P w = .ok r w ∧ VR w g a r := by
  unfold maxA at h
  split at h
  · split at h
    · rename_i hk
      subst hk
      simp only [Option.some.injEq] at h
      rw [VR] at hx
      rw [VR] at hy
      subst h hx hy
      exact ⟨_, by simp [Builtin.max_, Builtin.max2], VR.mkInt⟩
    · cases h
  · cases h
theorem minA_sound {x y a : A} {v u : Value} {tys : Array TypeId} {ty : TypeId} (h : minA x y = some a) (hx : VR w g x v) (hy : VR w g y u) : ∃ r, (Builtin.min_ tys ty #[v, u]).run P w = .ok r w ∧ VR w g a r := by
  unfold minA at h
  split at h
  · split at h
    · rename_i hk
      subst hk
      simp only [Option.some.injEq] at h
      rw [VR] at hx
      rw [VR] at hy
      subst h hx hy
      exact ⟨_, by simp [Builtin.min_, Builtin.min2], VR.mkInt⟩
    · cases h
  · cases h

theorem ifcT_false {t : TypeId} (h : ifcT P t = false) : ∃ d, P.underlying t = some d ∧ ∀ ms, d ≠ .interface ms := by
  unfold ifcT at h
  cases hu : P.underlying t with
  | none => simp [hu] at h
  | some d => exact ⟨d, rfl, fun ms e => by subst e; simp [hu] at h⟩
theorem assertA_sound {t xt : TypeId} {ok : Bool} {x a : A} {v : Value} (h : assertA P t ok x = some a) (hx : VR w g x v) : ∃ r, (Instr.typeAssert v xt t ok).run P w = .ok r w ∧ VR w g a r := by
  unfold assertA at h
  split at h
  · rename_i u y
    rw [VR] at hx
    obtain ⟨y', rfl, hy⟩ := hx
    split at h
    · rename_i hc
      obtain ⟨rfl, hi⟩ := hc
      obtain ⟨d, hd, hn⟩ := ifcT_false hi
      simp only [Option.some.injEq] at h
      subst h
      refine ⟨if ok then .tuple #[y', .bool true] else y', ?_, ?_⟩
      · unfold Instr.typeAssert
        rw [Sem.run_bind, run_underlying hd, Result.andThen_ok]
        cases d <;> first | exact absurd rfl (hn _) | (simp only [if_true]; cases ok <;> rfl)
      · cases ok
        · exact hy
        · simp only [if_true]
          rw [VR]
          exact ⟨[y', .bool true], rfl, .mk_cons hy (.mk_cons VR.mkBool VRs.mk_nil)⟩
    · cases h
  · cases h
theorem run_makeInterface {t : TypeId} (h : ifcT P t = false) (v : Value) : (Instr.makeInterface t v).run P w = .ok (.iface t v) w := by
  obtain ⟨d, hu, hd⟩ := ifcT_false h
  simp only [Instr.makeInterface, Sem.run_bind, run_underlying hu, Result.andThen_ok]
  cases d <;> first | exact absurd rfl (hd _) | rfl
end
end AE
end Go.Proofs.YthoomlenmgdebaaGreatDoor
