/- A row of numbers that the library writes anew. -/
import Derived.Test.YthoomlenmgdebaaGreatDoorAED
import Derived.Test.YthoomlenmgdebaaGreatDoorATF
import Derived.Sort.Grow
import Derived.Lib.SlicesCompact
set_option linter.unusedVariables false
set_option linter.unusedSimpArgs false
namespace Go.Proofs.YthoomlenmgdebaaGreatDoor
namespace AE
open Go Go.RowKit Go.Sort

section
variable {P : Program} {gl : Nat → A} {w0 : World} {g : Gh} {m : Mem} {w w' : World}
/-- What has turned above alone leaves all as it was. -/
theorem sr_above (hs : SR P gl w0 g m w) (hbel : Below w.heap.size w w') (hd : w.drawn ≤ w'.drawn) : SR P gl w0 g m w' ∧ Ext w g w' g := by
  have hcell : ∀ k o, k < w.heap.size → w'.cell? ⟨k, o, none⟩ = w.cell? ⟨k, o, none⟩ := fun k o hk => hbel.cell (p := ⟨k, o, none⟩) hk
  have hext : Ext w g w' g := ⟨⟨fun k o hF => ⟨hF, hcell k o (hs.lim k o hF)⟩, Nat.le_refl _, fun _ _ => rfl, fun i L h => ⟨L, h, Nat.le_refl _, fun _ => ⟨rfl, rfl⟩, rfl⟩⟩, fun b hb hl => ⟨hbel.block b hb, hl⟩, hbel.size⟩
  refine ⟨?_, hext⟩
  exact {
    below := hs.below.trans (hbel.mono hs.szB)
    nb := hs.nb
    rl := hs.rl
    es := hs.es
    bx := fun i cs hi => by
      obtain ⟨us, t, h1, h2⟩ := hs.bx i cs hi
      refine ⟨us, t, ?_, h2.mono hext⟩
      rw [hbel.block _ (Array.getElem?_eq_some_iff.1 h1).1]
      exact h1
    rw := fun i r hi => by
      obtain ⟨us, ss, rest, h1, h2, h3, h4⟩ := hs.rw i r hi
      refine ⟨us, ss, rest, ?_, h2, h3, h4.mono hext⟩
      rw [hbel.block _ (Array.getElem?_eq_some_iff.1 h1).1]
      exact h1
    ownb := hs.ownb
    ownr := hs.ownr
    injb := hs.injb
    injr := hs.injr
    dis := hs.dis
    old := hs.old
    lim := fun b o hF => Nat.lt_of_lt_of_le (hs.lim b o hF) hbel.size
    gl := fun n => (hs.gl n).mono hext
    dr := fun hf => Nat.le_trans (hs.dr hf) hd }
theorem ints_VRs : ∀ {zs : List Int} {us : List Value}, VRs w g (ints zs) us → us = zs.map (Value.int .i64)
  | [], us, h => VRs.nil_iff.1 h
  | z :: r, us, h => by
    rw [show ints (z :: r) = A.int .i64 z :: ints r from rfl, VRs] at h
    obtain ⟨u, t, rfl, h1, h2⟩ := h
    rw [VR] at h1
    rw [ints_VRs h2, h1]
    rfl
theorem VRs_ints : ∀ zs : List Int, VRs w g (ints zs) (zs.map (Value.int .i64))
  | [] => VRs.mk_nil
  | z :: r => .mk_cons VR.mkInt (VRs_ints r)
theorem mapBlock_setRow {blk : Nat} {c : Array Value} {e : TypeId} {fr : Nat × Nat} (h : w.heap[blk]? = some (.cells c e fr)) (f : Array Value → Array Value) : mapBlock w blk f = w.setRow blk (f c) := by
  rw [mapBlock_congr w blk f (fun _ => f c) fun c' e' fr' h' => by rw [h] at h'; cases h'; rfl]
  unfold mapBlock World.setRow
  congr 1
theorem putCells_list {zs' : List Int} {us : Array Value} {ss rest : List Value} (h : us.toList = ss ++ rest) (hl : ss.length = zs'.length) : (putCells (Value.int .i64) 0 zs'.toArray us).toList = zs'.map (Value.int .i64) ++ rest := by
  apply List.ext_getElem?
  intro k
  have hk : us[k]? = (ss ++ rest)[k]? := by rw [← h, Array.getElem?_toList]
  unfold putCells
  rw [Array.getElem?_toList, Array.getElem?_mapIdx, hk]
  simp only [List.size_toArray, Nat.zero_add, Nat.zero_le, true_and, Nat.sub_zero]
  rw [List.getElem?_append, List.getElem?_append, hl, List.length_map]
  by_cases h1 : k < zs'.length
  · rw [if_pos h1, if_pos h1, List.getElem?_eq_getElem (by omega), List.getElem?_eq_getElem (by simpa using h1)]
    simp [h1]
  · rw [if_neg h1, if_neg h1]
    simp [h1]
/-- A row of numbers is written anew by others. -/
theorem put_ok (hs : SR P gl w0 g m w) {i : Nat} {t : TypeId} {zs zs' : List Int} (hi : m.rw[i]? = some ⟨t, ints zs⟩) (hl : zs'.length = zs.length) (n : Nat) (os : Array Obj) :
    ∃ g', SR P gl w0 g' ⟨m.bx, m.rw.set i ⟨t, ints zs'⟩⟩ (grow (putRow (Value.int .i64) (Sort.ahead w n) (g.br i) 0 zs'.toArray) os) ∧ Ext w g (grow (putRow (Value.int .i64) (Sort.ahead w n) (g.br i) 0 zs'.toArray) os) g' ∧ g'.br = g.br ∧ g'.cz = g.cz ∧ g'.es = g.es ∧ g'.rl[i]? = some zs'.length := by
  obtain ⟨us, ss, rest, h1, h2, h3, h4⟩ := hs.rw i _ hi
  have hss := ints_VRs h4
  have e1 : Below w.heap.size w (Sort.ahead w n) := ⟨rfl, rfl, rfl, Nat.le_refl _, fun _ _ => rfl⟩
  obtain ⟨s1, x1⟩ := sr_above hs e1 (Nat.le_add_right _ _)
  have h1' : (Sort.ahead w n).heap[g.br i]? = some (.cells us t (0, 0)) := h1
  have hput : putRow (Value.int .i64) (Sort.ahead w n) (g.br i) 0 zs'.toArray = (Sort.ahead w n).setRow (g.br i) (putCells (Value.int .i64) 0 zs'.toArray us) := mapBlock_setRow h1' _
  obtain ⟨g', s2, x2, hb, hc, he, hr⟩ := s1.setRow (cs := ints zs') (us := putCells (Value.int .i64) 0 zs'.toArray us) (ss := zs'.map (Value.int .i64)) (rest := rest) hi (by simp [hl]) (by rw [← h2]; simp [putCells]) (putCells_list h3 (by rw [hss]; simp [hl])) (VRs_ints zs')
  rw [← hput] at s2 x2
  have e3 : Below (putRow (Value.int .i64) (Sort.ahead w n) (g.br i) 0 zs'.toArray).heap.size (putRow (Value.int .i64) (Sort.ahead w n) (g.br i) 0 zs'.toArray) (grow (putRow (Value.int .i64) (Sort.ahead w n) (g.br i) 0 zs'.toArray) os) :=
    ⟨rfl, rfl, rfl, by rw [size_grow]; omega, fun k hk => heap_grow_old _ _ hk⟩
  obtain ⟨s3, x3⟩ := sr_above s2 e3 (Nat.le_refl _)
  exact ⟨g', s3, (x1.trans x2).trans x3, hb, hc, he, by rw [hr]; simp⟩
theorem holds_row (hs : SR P gl w0 g m w) {i : Nat} {t : TypeId} {zs : List Int} (hi : m.rw[i]? = some ⟨t, ints zs⟩) : Holds (Value.int .i64) w (g.br i) 0 zs.toArray ∧ g.br i < w.heap.size := by
  obtain ⟨us, ss, rest, h1, h2, h3, h4⟩ := hs.rw i _ hi
  have hss := ints_VRs h4
  refine ⟨fun j hj => ?_, (Array.getElem?_eq_some_iff.1 h1).1⟩
  simp only [List.size_toArray] at hj
  constructor
  · have : us[0 + j]? = some (Value.int .i64 zs[j]) := by
      rw [Nat.zero_add, ← Array.getElem?_toList, h3, hss, List.getElem?_append_left (by simpa using hj), List.getElem?_eq_getElem (by simpa using hj)]
      simp
    simp only [World.cell?, h1, this]
    rw [getElem!_pos zs.toArray j (by simpa using hj)]
    simp
  · simp [World.frozen?, h1]
theorem sl_value (hs : SR P gl w0 g m w) {i : Nat} {t : TypeId} {zs : List Int} (hi : m.rw[i]? = some ⟨t, ints zs⟩) {n : Nat} {v : Value} (hv : VR w g (.sl i zs.length 0 n) v) :
    ∃ c, v = .slice (some ⟨g.br i, 0, none⟩) n c ∧ n ≤ c ∧ c * g.es i ≤ g.cz i := by
  rw [VR] at hv
  obtain ⟨_, L, hL, _, h⟩ := hv
  have : g.rl[i]? = some zs.length := by rw [hs.rl, List.getElem?_map, hi]; simp
  rw [this] at hL
  cases hL
  obtain ⟨c, h1, h2, h3⟩ := h rfl
  exact ⟨c, h1, h2, h3 rfl⟩
end

/-- slices.Sort and slices.Compact over numbers. -/
def sortI (l : List Int) : List Int := l.mergeSort fun x y => decide (x ≤ y)
theorem length_sortI (l : List Int) : (sortI l).length = l.length := List.length_mergeSort l
def unInts : List A → Option (List Int)
  | [] => some []
  | .int .i64 n :: r => (unInts r).map (n :: ·)
  | _ => none
theorem unInts_some : ∀ {cs : List A} {zs : List Int}, unInts cs = some zs → cs = ints zs
  | [], zs, h => by rw [unInts] at h; cases h; rfl
  | a :: r, zs, h => by
    unfold unInts at h
    split at h
    · rename_i e; cases e
    · rename_i n r' e
      cases e
      obtain ⟨q, h1, rfl⟩ := Option.map_eq_some_iff.1 h
      rw [unInts_some h1]
      rfl
    · cases h
@[simp] theorem unInts_ints : ∀ zs : List Int, unInts (ints zs) = some zs
  | [] => rfl
  | z :: r => by
    show (unInts (ints r)).map (z :: ·) = _
    rw [unInts_ints r]
    rfl
def sortG : List A → Mem → Option (Res × Mem)
  | [.nils], m => some (.ret (.tup []), m)
  | [.sl id ver 0 n], m =>
    match m.rw[id]? with
    | some r => match unInts r.cs with
      | some zs => if ver = zs.length ∧ n = zs.length ∧ zs.length < 4611686018427387904 then some (.ret (.tup []), ⟨m.bx, m.rw.set id ⟨r.el, ints (sortI zs)⟩⟩) else none
      | none => none
    | none => none
  | _, _ => none
def padI (l : List Int) (n : Nat) : List Int := l ++ List.replicate (n - l.length) 0
def compactG : List A → Mem → Option (Res × Mem)
  | [.nils], m => some (.ret .nils, m)
  | [.sl id ver 0 n], m =>
    match m.rw[id]? with
    | some r => match unInts r.cs with
      | some zs => if ver = zs.length ∧ n = zs.length ∧ zs.length ≤ 9223372036854775807 then some (.ret (.sl id zs.length 0 (Lib.compact zs).length), ⟨m.bx, m.rw.set id ⟨r.el, ints (padI (Lib.compact zs) zs.length)⟩⟩) else none
      | none => none
    | none => none
  | _, _ => none
theorem length_upTo (d : Array Int) (m : Nat) : (Lib.compactUpTo d m).length ≤ m := by
  unfold Lib.compactUpTo
  rw [List.length_map]
  refine Nat.le_trans (List.length_filter_le _ _) (by simp)
theorem length_padI (zs : List Int) : (padI (Lib.compact zs) zs.length).length = zs.length := by
  have := length_upTo zs.toArray zs.length
  unfold padI Lib.compact
  simp
  omega

theorem sort_call {C : Cfg} {f : FuncId} (hf : callable C.P f)
    (h0 : ∀ w, Calls C.P f #[.slice none 0 0] w fun e w' => e = .returned (.tuple #[]) ∧ w' = w)
    (h1 : ∀ (blk off cap : Nat) (zs : List Int) (w : World), Holds (Value.int .i64) w blk off zs.toArray → blk < w.heap.size → zs.length < 4611686018427387904 →
      Calls C.P f #[.slice (some ⟨blk, off, none⟩) zs.length cap] w fun e w' => e = .returned (.tuple #[]) ∧ ∃ n os, w' = grow (putRow (Value.int .i64) (Sort.ahead w n) blk off (sortI zs).toArray) os)
    {args : List A} {m : Mem} {r : Res × Mem} (h : sortG args m = some r) : CallOk C f args m r := by
  refine ⟨hf, fun w0 g w vals hs hv => ?_⟩
  unfold sortG at h
  split at h
  · cases h
    rw [VRs] at hv
    obtain ⟨u, t, rfl, hu, ht⟩ := hv
    rw [VRs] at ht
    subst ht
    rw [VR] at hu
    subst hu
    refine Calls.mono (h0 w) ?_
    rintro e w' ⟨rfl, rfl⟩
    refine ⟨g, hs, Ext.refl _ _, ?_⟩
    show VR _ _ _ _
    rw [VR]
    exact ⟨[], rfl, VRs.mk_nil⟩
  · rename_i _ id ver n
    cases hr : m.rw[id]? with
    | none => rw [hr] at h; cases h
    | some row =>
      rw [hr] at h
      obtain ⟨el, cs⟩ := row
      simp only at h
      cases hz : unInts cs with
      | none => rw [hz] at h; cases h
      | some zs =>
        rw [hz] at h
        have hcs := unInts_some hz
        subst hcs
        simp only at h
        split at h
        case isFalse => cases h
        rename_i hc
        obtain ⟨rfl, rfl, hlt⟩ := hc
        cases h
        rw [VRs] at hv
        obtain ⟨u, t, rfl, hu, ht⟩ := hv
        rw [VRs] at ht
        subst ht
        obtain ⟨c, rfl, hc1, hc2⟩ := sl_value hs hr hu
        obtain ⟨hH, hb⟩ := holds_row hs hr
        refine Calls.mono (h1 (g.br id) 0 c zs w hH hb hlt) ?_
        rintro e w' ⟨rfl, k, os, rfl⟩
        obtain ⟨g', s', x', _⟩ := put_ok hs hr (length_sortI zs) k os
        refine ⟨g', s', x', ?_⟩
        show VR _ _ _ _
        rw [VR]
        exact ⟨[], rfl, VRs.mk_nil⟩
  · cases h

theorem compact_call {C : Cfg} {f : FuncId} (hf : callable C.P f)
    (h0 : ∀ w, Calls C.P f #[.slice none 0 0] w fun e w' => e = .returned (.slice none 0 0) ∧ w' = w)
    (h1 : ∀ (blk off cap : Nat) (zs : List Int) (w : World), Holds (Value.int .i64) w blk off zs.toArray → zs.length ≤ 9223372036854775807 → zs.length ≤ cap →
      Calls C.P f #[.slice (some ⟨blk, off, none⟩) zs.length cap] w fun e w' => e = .returned (.slice (some ⟨blk, off, none⟩) (Lib.compact zs).length cap) ∧ ∃ q, w' = putRow (Value.int .i64) (Sort.ahead w q) blk off (Lib.compact zs ++ List.replicate (zs.length - (Lib.compact zs).length) 0).toArray)
    {args : List A} {m : Mem} {r : Res × Mem} (h : compactG args m = some r) : CallOk C f args m r := by
  refine ⟨hf, fun w0 g w vals hs hv => ?_⟩
  unfold compactG at h
  split at h
  · cases h
    rw [VRs] at hv
    obtain ⟨u, t, rfl, hu, ht⟩ := hv
    rw [VRs] at ht
    subst ht
    rw [VR] at hu
    subst hu
    refine Calls.mono (h0 w) ?_
    rintro e w' ⟨rfl, rfl⟩
    refine ⟨g, hs, Ext.refl _ _, ?_⟩
    show VR _ _ _ _
    rw [VR]
  · rename_i _ id ver n
    cases hr : m.rw[id]? with
    | none => rw [hr] at h; cases h
    | some row =>
      rw [hr] at h
      obtain ⟨el, cs⟩ := row
      simp only at h
      cases hz : unInts cs with
      | none => rw [hz] at h; cases h
      | some zs =>
        rw [hz] at h
        have hcs := unInts_some hz
        subst hcs
        simp only at h
        split at h
        case isFalse => cases h
        rename_i hc
        obtain ⟨rfl, rfl, hlt⟩ := hc
        cases h
        rw [VRs] at hv
        obtain ⟨u, t, rfl, hu, ht⟩ := hv
        rw [VRs] at ht
        subst ht
        obtain ⟨c, rfl, hc1, hc2⟩ := sl_value hs hr hu
        obtain ⟨hH, hb⟩ := holds_row hs hr
        refine Calls.mono (h1 (g.br id) 0 c zs w hH hlt hc1) ?_
        rintro e w' ⟨rfl, k, rfl⟩
        obtain ⟨g', s', x', hbr, hcz, hes, hrl⟩ := put_ok hs hr (length_padI zs) k #[]
        rw [grow_empty] at s' x'
        refine ⟨g', s', x', ?_⟩
        have hle : (Lib.compact zs).length ≤ zs.length := length_upTo zs.toArray zs.length
        show VR _ _ _ _
        rw [VR]
        refine ⟨⟨_, _, _, rfl, by omega⟩, zs.length, by rw [hrl, length_padI], Nat.le_refl _, fun _ => ⟨c, by rw [hbr], by omega, fun _ => by rw [hes, hcz]; exact hc2⟩⟩
  · cases h
end AE
end Go.Proofs.YthoomlenmgdebaaGreatDoor
