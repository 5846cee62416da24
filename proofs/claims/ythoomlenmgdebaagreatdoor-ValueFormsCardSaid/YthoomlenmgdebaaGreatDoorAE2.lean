/- The evaluator's values and memory, held against the model's: when a value stands for a model's value in a world, and how that lives on. -/
import Derived.Test.YthoomlenmgdebaaGreatDoorAE1
import Derived.Below
import Derived.Laws.CopyOwn
import Derived.Laws.Rows
import Derived.Laws.Cells
set_option linter.unusedVariables false
set_option linter.unusedSimpArgs false
namespace Go.Proofs.YthoomlenmgdebaaGreatDoor
namespace AE
open Go Go.RowKit

/-- Where boxes and rows lie, which cells are written no more; how long the rows are. -/
structure Gh where
  bb : Nat → Nat
  br : Nat → Nat
  cz : Nat → Nat
  es : Nat → Nat
  F : Nat → Nat → Prop
  nb : Nat
  rl : List Nat

/-- These values lie from cell o of block b on, for good. -/
def Lies (w : World) (g : Gh) (b o : Nat) (us : List Value) : Prop :=
  ∀ j u, us[j]? = some u → g.F b (o + j) ∧ w.cell? ⟨b, o + j, none⟩ = some u

mutual
def VR (w : World) (g : Gh) : A → Value → Prop
  | .undef, _ => True
  | .int k n, v => v = .int k n
  | .bool b, v => v = .bool b
  | .str s, v => v = .string ⟨s.toArray⟩
  | .nilp, v => v = .pointer none
  | .nili, v => v = .nilIface
  | .nilf, v => v = .nilFunc
  | .nils, v => v = .slice none 0 0
  | .ifc t x, v => ∃ u, v = .iface t u ∧ VR w g x u
  | .agg cs, v => ∃ us : List Value, v = .agg us.toArray ∧ VRs w g cs us
  | .tup cs, v => ∃ us : List Value, v = .tuple us.toArray ∧ VRs w g cs us
  | .isl full n cs, v => ∃ a c, ∃ us : List Value, v = .slice a n c ∧ (full = true → c = n) ∧ n ≤ c ∧ VRs w g cs us ∧ (us ≠ [] → ∃ b o, a = some ⟨b, o, none⟩ ∧ Lies w g b o us)
  | .rp cs, v => ∃ b o, ∃ us : List Value, v = .pointer (some ⟨b, o, none⟩) ∧ VRs w g cs us ∧ Lies w g b o us
  | .ptr id off, v => id < g.nb ∧ v = .pointer (some ⟨g.bb id, off, none⟩)
  | .sl id ver off n, v => (∃ b o c, v = .slice (some ⟨b, o, none⟩) n c ∧ n ≤ c) ∧ ∃ L, g.rl[id]? = some L ∧ ver ≤ L ∧ (ver = L → ∃ c, v = .slice (some ⟨g.br id, off, none⟩) n c ∧ n ≤ c ∧ (off = 0 → c * g.es id ≤ g.cz id))
  | .rptr id ver off, v => (∃ b o, v = .pointer (some ⟨b, o, none⟩)) ∧ ∃ L, g.rl[id]? = some L ∧ ver ≤ L ∧ (ver = L → v = .pointer (some ⟨g.br id, off, none⟩))
  | .fn f cs, v => ∃ us : List Value, v = .func (.func f) #[] us.toArray ∧ VRs w g cs us
def VRs (w : World) (g : Gh) : List A → List Value → Prop
  | [], us => us = []
  | a :: r, us => ∃ u t, us = u :: t ∧ VR w g a u ∧ VRs w g r t
end

/-- What stood for a value stands for it still. -/
structure ExtB (w : World) (g : Gh) (w' : World) (g' : Gh) : Prop where
  fx : ∀ b o, g.F b o → g'.F b o ∧ w'.cell? ⟨b, o, none⟩ = w.cell? ⟨b, o, none⟩
  nb : g.nb ≤ g'.nb
  bb : ∀ i, i < g.nb → g'.bb i = g.bb i
  rl : ∀ i L, g.rl[i]? = some L → ∃ L', g'.rl[i]? = some L' ∧ L ≤ L' ∧ (L' = L → g'.br i = g.br i ∧ g'.cz i = g.cz i) ∧ g'.es i = g.es i
/-- A block that stands for nothing. -/
def Loose (g : Gh) (b : Nat) : Prop := (∀ i, i < g.nb → g.bb i ≠ b) ∧ (∀ i, i < g.rl.length → g.br i ≠ b) ∧ ∀ o, ¬ g.F b o
/-- And what stood for nothing is as it was. -/
structure Ext (w : World) (g : Gh) (w' : World) (g' : Gh) : Prop extends ExtB w g w' g' where
  fr : ∀ b, b < w.heap.size → Loose g b → w'.heap[b]? = w.heap[b]? ∧ Loose g' b
  sz : w.heap.size ≤ w'.heap.size

theorem ExtB.refl (w : World) (g : Gh) : ExtB w g w g := ⟨fun _ _ h => ⟨h, rfl⟩, Nat.le_refl _, fun _ _ => rfl, fun i L h => ⟨L, h, Nat.le_refl _, fun _ => ⟨rfl, rfl⟩, rfl⟩⟩
theorem Ext.refl (w : World) (g : Gh) : Ext w g w g := ⟨ExtB.refl w g, fun b _ h => ⟨rfl, h⟩, Nat.le_refl _⟩
theorem Ext.trans {w w1 w2 : World} {g g1 g2 : Gh} (h : Ext w g w1 g1) (k : Ext w1 g1 w2 g2) : Ext w g w2 g2 := by
  refine ⟨⟨fun b o hF => ?_, Nat.le_trans h.nb k.nb, fun i hi => ?_, fun i L hL => ?_⟩, fun b hb hl => ?_, Nat.le_trans h.sz k.sz⟩
  · obtain ⟨h1, h2⟩ := h.fx b o hF
    obtain ⟨k1, k2⟩ := k.fx b o h1
    exact ⟨k1, k2.trans h2⟩
  · rw [k.bb i (Nat.lt_of_lt_of_le hi h.nb), h.bb i hi]
  · obtain ⟨L1, h1, h2, h3, h4⟩ := h.rl i L hL
    obtain ⟨L2, k1, k2, k3, k4⟩ := k.rl i L1 h1
    refine ⟨L2, k1, Nat.le_trans h2 k2, fun e => ?_, k4.trans h4⟩
    have e1 : L1 = L := by omega
    have e2 : L2 = L1 := by omega
    exact ⟨(k3 e2).1.trans (h3 e1).1, (k3 e2).2.trans (h3 e1).2⟩
  · obtain ⟨h1, h2⟩ := h.fr b hb hl
    have hb1 : b < w1.heap.size := by
      rw [Array.getElem?_eq_getElem hb] at h1
      exact (Array.getElem?_eq_some_iff.1 h1).1
    obtain ⟨k1, k2⟩ := k.fr b hb1 h2
    exact ⟨k1.trans h1, k2⟩

section
variable {w w' : World} {g g' : Gh}
theorem Lies.monoB (h : ExtB w g w' g') {b o : Nat} {us : List Value} (k : Lies w g b o us) : Lies w' g' b o us := fun j u hj => by
  obtain ⟨k1, k2⟩ := k j u hj
  obtain ⟨h1, h2⟩ := h.fx _ _ k1
  exact ⟨h1, h2.trans k2⟩

mutual
theorem VR.monoB (h : ExtB w g w' g') : ∀ (a : A) (v : Value), VR w g a v → VR w' g' a v
  | .undef, _, _ => by rw [VR]; trivial
  | .int _ _, _, k => by rw [VR] at k ⊢; exact k
  | .bool _, _, k => by rw [VR] at k ⊢; exact k
  | .str _, _, k => by rw [VR] at k ⊢; exact k
  | .nilp, _, k => by rw [VR] at k ⊢; exact k
  | .nili, _, k => by rw [VR] at k ⊢; exact k
  | .nilf, _, k => by rw [VR] at k ⊢; exact k
  | .nils, _, k => by rw [VR] at k ⊢; exact k
  | .ifc t x, _, k => by
    rw [VR] at k ⊢
    obtain ⟨u, e, k⟩ := k
    exact ⟨u, e, VR.monoB h x u k⟩
  | .agg cs, _, k => by
    rw [VR] at k ⊢
    obtain ⟨us, e, k⟩ := k
    exact ⟨us, e, VRs.monoB h cs us k⟩
  | .tup cs, _, k => by
    rw [VR] at k ⊢
    obtain ⟨us, e, k⟩ := k
    exact ⟨us, e, VRs.monoB h cs us k⟩
  | .isl full n cs, _, k => by
    rw [VR] at k ⊢
    obtain ⟨a, c, us, e, k1, k2, k3, k4⟩ := k
    refine ⟨a, c, us, e, k1, k2, VRs.monoB h cs us k3, fun hn => ?_⟩
    obtain ⟨b, o, e, l⟩ := k4 hn
    exact ⟨b, o, e, l.monoB h⟩
  | .rp cs, _, k => by
    rw [VR] at k ⊢
    obtain ⟨b, o, us, e, k1, k2⟩ := k
    exact ⟨b, o, us, e, VRs.monoB h cs us k1, k2.monoB h⟩
  | .ptr id off, _, k => by
    rw [VR] at k ⊢
    exact ⟨Nat.lt_of_lt_of_le k.1 h.nb, by rw [h.bb _ k.1]; exact k.2⟩
  | .sl id ver off n, _, k => by
    rw [VR] at k ⊢
    obtain ⟨k0, L, k1, k2, k3⟩ := k
    obtain ⟨L', h1, h2, h3, h4⟩ := h.rl id L k1
    refine ⟨k0, L', h1, by omega, fun e => ?_⟩
    obtain ⟨c, e1, e2, e3⟩ := k3 (by omega)
    obtain ⟨h5, h6⟩ := h3 (by omega)
    exact ⟨c, by rw [h5]; exact e1, e2, by rw [h4, h6]; exact e3⟩
  | .rptr id ver off, _, k => by
    rw [VR] at k ⊢
    obtain ⟨k0, L, k1, k2, k3⟩ := k
    obtain ⟨L', h1, h2, h3, h4⟩ := h.rl id L k1
    exact ⟨k0, L', h1, by omega, fun e => by rw [(h3 (by omega)).1]; exact k3 (by omega)⟩
  | .fn f cs, _, k => by
    rw [VR] at k ⊢
    obtain ⟨us, e, k⟩ := k
    exact ⟨us, e, VRs.monoB h cs us k⟩
theorem VRs.monoB (h : ExtB w g w' g') : ∀ (cs : List A) (us : List Value), VRs w g cs us → VRs w' g' cs us
  | [], _, k => by rw [VRs] at k ⊢; exact k
  | a :: r, _, k => by
    rw [VRs] at k ⊢
    obtain ⟨u, t, e, k1, k2⟩ := k
    exact ⟨u, t, e, VR.monoB h a u k1, VRs.monoB h r t k2⟩
end
theorem Lies.mono (h : Ext w g w' g') {b o : Nat} {us : List Value} (k : Lies w g b o us) : Lies w' g' b o us := k.monoB h.toExtB
theorem VR.mono (h : Ext w g w' g') (a : A) (v : Value) (k : VR w g a v) : VR w' g' a v := VR.monoB h.toExtB a v k
theorem VRs.mono (h : Ext w g w' g') (cs : List A) (us : List Value) (k : VRs w g cs us) : VRs w' g' cs us := VRs.monoB h.toExtB cs us k
end

/-! ### Lists of values -/
section
variable {w : World} {g : Gh}
theorem VRs.nil_iff {us : List Value} : VRs w g [] us ↔ us = [] := by rw [VRs]
theorem VRs.cons_iff {a : A} {r : List A} {us : List Value} : VRs w g (a :: r) us ↔ ∃ u t, us = u :: t ∧ VR w g a u ∧ VRs w g r t := by rw [VRs]
theorem VRs.mk_nil : VRs w g [] [] := by rw [VRs]
theorem VRs.mk_cons {a : A} {r : List A} {u : Value} {t : List Value} (h : VR w g a u) (k : VRs w g r t) : VRs w g (a :: r) (u :: t) := by rw [VRs]; exact ⟨u, t, rfl, h, k⟩
theorem VRs.one {a : A} {u : Value} (h : VR w g a u) : VRs w g [a] [u] := .mk_cons h .mk_nil
theorem VRs.length : ∀ {cs : List A} {us : List Value}, VRs w g cs us → us.length = cs.length
  | [], _, h => by rw [VRs.nil_iff] at h; subst h; rfl
  | a :: r, _, h => by
    rw [VRs.cons_iff] at h
    obtain ⟨u, t, rfl, _, h⟩ := h
    simp [VRs.length h]
theorem VRs.append : ∀ {cs ds : List A} {us vs : List Value}, VRs w g cs us → VRs w g ds vs → VRs w g (cs ++ ds) (us ++ vs)
  | [], _, _, _, h, k => by rw [VRs.nil_iff] at h; subst h; exact k
  | a :: r, _, _, _, h, k => by
    rw [VRs.cons_iff] at h
    obtain ⟨u, t, rfl, h1, h⟩ := h
    exact .mk_cons h1 (VRs.append h k)
theorem VRs.take : ∀ {cs : List A} {us : List Value} (n : Nat), VRs w g cs us → VRs w g (cs.take n) (us.take n)
  | [], _, n, h => by rw [VRs.nil_iff] at h; subst h; simpa using VRs.mk_nil
  | a :: r, _, 0, h => by simpa using VRs.mk_nil
  | a :: r, _, n + 1, h => by
    rw [VRs.cons_iff] at h
    obtain ⟨u, t, rfl, h1, h⟩ := h
    exact .mk_cons h1 (VRs.take n h)
theorem VRs.drop : ∀ {cs : List A} {us : List Value} (n : Nat), VRs w g cs us → VRs w g (cs.drop n) (us.drop n)
  | [], _, n, h => by rw [VRs.nil_iff] at h; subst h; simpa using VRs.mk_nil
  | a :: r, _, 0, h => by simpa using h
  | a :: r, _, n + 1, h => by
    rw [VRs.cons_iff] at h
    obtain ⟨u, t, rfl, h1, h⟩ := h
    exact VRs.drop n h
theorem VRs.at_ : ∀ {cs : List A} {us : List Value} (n : Nat) (a : A), VRs w g cs us → cs[n]? = some a → ∃ u, us[n]? = some u ∧ VR w g a u
  | [], _, n, a, h, k => by simp at k
  | b :: r, _, 0, a, h, k => by
    rw [VRs.cons_iff] at h
    obtain ⟨u, t, rfl, h1, h⟩ := h
    simp at k
    subst k
    exact ⟨u, rfl, h1⟩
  | b :: r, _, n + 1, a, h, k => by
    rw [VRs.cons_iff] at h
    obtain ⟨u, t, rfl, h1, h⟩ := h
    exact VRs.at_ n a h (by simpa using k)
theorem VRs.replicate {a : A} {u : Value} (h : VR w g a u) : ∀ n, VRs w g (List.replicate n a) (List.replicate n u)
  | 0 => .mk_nil
  | n + 1 => .mk_cons h (VRs.replicate h n)
theorem VRs.flatten {z : List A} {zs : List Value} (h : VRs w g z zs) : ∀ n, VRs w g (List.replicate n z).flatten (List.replicate n zs).flatten
  | 0 => .mk_nil
  | n + 1 => by
    rw [List.replicate_succ, List.replicate_succ, List.flatten_cons, List.flatten_cons]
    exact .append h (VRs.flatten h n)
theorem VRs.split {cs ds : List A} {us : List Value} (h : VRs w g (cs ++ ds) us) : ∃ u1 u2, us = u1 ++ u2 ∧ VRs w g cs u1 ∧ VRs w g ds u2 := by
  refine ⟨us.take cs.length, us.drop cs.length, (List.take_append_drop _ _).symm, ?_, ?_⟩
  · have := h.take cs.length; rwa [List.take_left'] at this; rfl
  · have := h.drop cs.length; rwa [List.drop_left'] at this; rfl
theorem Lies.drop {b o : Nat} {us : List Value} (h : Lies w g b o us) (n : Nat) : Lies w g b (o + n) (us.drop n) := fun j u hj => by
  have := h (n + j) u (by rw [List.getElem?_drop] at hj; exact hj)
  rwa [← Nat.add_assoc] at this
theorem Lies.take {b o : Nat} {us : List Value} (h : Lies w g b o us) (n : Nat) : Lies w g b o (us.take n) := fun j u hj => by
  rw [List.getElem?_take] at hj
  split at hj
  · exact h j u hj
  · cases hj
theorem Lies.loads {P : Program} {b o : Nat} {us : List Value} (h : Lies w g b o us) : (loadCells ⟨b, o, none⟩ us.length).run P w = .ok us.toArray w := by
  refine run_loadCells_list w _ us fun j v hj => ?_
  have := (h j v hj).2
  rwa [show (⟨b, o, none⟩ : Addr).add j = ⟨b, o + j, none⟩ from by unfold Addr.add; split <;> simp_all]

/-- A value that takes one cell. -/
theorem VR.flat : ∀ {a : A} {v : Value}, VR w g a v → flat a = true → v.oneCell' = true ∧ v.cells = #[v] := by
  intro a v h hf
  cases a <;> simp only [AE.flat, Bool.false_eq_true] at hf <;> rw [VR] at h
  all_goals first
    | (subst h; exact ⟨rfl, rfl⟩)
    | (obtain ⟨u, rfl, _⟩ := h; exact ⟨rfl, rfl⟩)
    | (obtain ⟨u, t, x, rfl, _⟩ := h; exact ⟨rfl, rfl⟩)
    | (obtain ⟨_, rfl⟩ := h; exact ⟨rfl, rfl⟩)
    | (obtain ⟨⟨_, _, rfl⟩, _⟩ := h; exact ⟨rfl, rfl⟩)
    | (obtain ⟨⟨_, _, _, rfl, _⟩, _⟩ := h; exact ⟨rfl, rfl⟩)
theorem VR.cells : ∀ {a : A} {v : Value}, VR w g a v → (a.cells.all AE.flat = true) → VRs w g a.cells v.cells.toList := by
  intro a v h hf
  by_cases ha : ∃ cs, a = .agg cs
  · obtain ⟨cs, rfl⟩ := ha
    rw [VR] at h
    obtain ⟨us, rfl, h⟩ := h
    simpa [Value.cells, A.cells] using h
  · have hc : a.cells = [a] := by cases a <;> first | rfl | exact absurd ⟨_, rfl⟩ ha
    rw [hc] at hf ⊢
    simp at hf
    rw [(VR.flat h hf).2]
    exact .one h
theorem VR.part {a : A} {v : Value} (h : VR w g a v) (hf : okPart a = true) : VRs w g a.cells v.cells.toList := by
  by_cases ha : ∃ cs, a = .agg cs
  · obtain ⟨cs, rfl⟩ := ha
    rw [VR] at h
    obtain ⟨us, rfl, h⟩ := h
    simpa [Value.cells, A.cells] using h
  · have hc : a.cells = [a] := by cases a <;> first | rfl | exact absurd ⟨_, rfl⟩ ha
    have hf' : AE.flat a = true := by cases a <;> first | exact hf | exact absurd ⟨_, rfl⟩ ha
    rw [hc, (VR.flat h hf').2]
    exact .one h
theorem VRs.flats : ∀ {cs : List A} {us : List Value}, VRs w g cs us → cs.all AE.flat = true → ∀ u ∈ us, u.oneCell' = true
  | [], _, h, _ => by rw [VRs.nil_iff] at h; subst h; simp
  | a :: r, _, h, k => by
    rw [VRs.cons_iff] at h
    obtain ⟨u, t, rfl, h1, h⟩ := h
    simp at k
    intro x hx
    rcases List.mem_cons.1 hx with rfl | hx
    · exact (VR.flat h1 k.1).1
    · exact VRs.flats h (by simpa using k.2) x hx
end

/-! ### The whole state -/
structure SR (P : Program) (glo : Nat → A) (w0 : World) (g : Gh) (m : Mem) (w : World) : Prop where
  below : Below w0.heap.size w0 w
  nb : g.nb = m.bx.length
  rl : g.rl = m.rw.map fun r => r.cs.length
  es : ∀ i r, m.rw[i]? = some r → g.es i = szOf P r.el
  bx : ∀ i cs, m.bx[i]? = some cs → ∃ (us : Array Value) (e : TypeId), w.heap[g.bb i]? = some (.cells us e (0, 0)) ∧ VRs w g cs us.toList
  rw : ∀ i r, m.rw[i]? = some r → ∃ (us : Array Value) (ss rest : List Value), w.heap[g.br i]? = some (.cells us r.el (0, 0)) ∧ us.size = g.cz i ∧ us.toList = ss ++ rest ∧ VRs w g r.cs ss
  ownb : ∀ i, i < g.nb → w0.heap.size ≤ g.bb i ∧ ∀ o, ¬ g.F (g.bb i) o
  ownr : ∀ i, i < g.rl.length → w0.heap.size ≤ g.br i ∧ ∀ o, ¬ g.F (g.br i) o
  injb : ∀ i j, i < g.nb → j < g.nb → g.bb i = g.bb j → i = j
  injr : ∀ i j, i < g.rl.length → j < g.rl.length → g.br i = g.br j → i = j
  dis : ∀ i j, i < g.nb → j < g.rl.length → g.bb i ≠ g.br j
  old : ∀ b o, b < w0.heap.size → g.F b o
  lim : ∀ b o, g.F b o → b < w.heap.size
  gl : ∀ n, VR w g (glo n) (.pointer (some ⟨n, 0, none⟩))
  dr : glo 1000000007 = .rp [] → w0.drawn ≤ w.drawn

theorem alloc_eq (w : World) (o : Obj) : ({ w with heap := w.heap.push o } : World) = w.alloc o := rfl

section
variable {P : Program} {gl : Nat → A} {w0 : World} {g : Gh} {m : Mem} {w : World}
theorem SR.szB (h : SR P gl w0 g m w) : w0.heap.size ≤ w.heap.size := h.below.size
theorem SR.bb_lt (h : SR P gl w0 g m w) {i : Nat} (hi : i < g.nb) : g.bb i < w.heap.size := by
  rw [h.nb] at hi
  obtain ⟨us, e, h1, _⟩ := h.bx i _ (List.getElem?_eq_getElem hi)
  exact (Array.getElem?_eq_some_iff.1 h1).1
theorem SR.br_lt (h : SR P gl w0 g m w) {i : Nat} (hi : i < g.rl.length) : g.br i < w.heap.size := by
  rw [h.rl, List.length_map] at hi
  obtain ⟨us, ss, rest, h1, _⟩ := h.rw i _ (List.getElem?_eq_getElem hi)
  exact (Array.getElem?_eq_some_iff.1 h1).1
theorem SR.rlen (h : SR P gl w0 g m w) : g.rl.length = m.rw.length := by rw [h.rl, List.length_map]

/-- A draw turns nothing. -/
theorem SR.drew (h : SR P gl w0 g m w) : SR P gl w0 g m w.drew ∧ Ext w g w.drew g :=
  have e : Ext w g w.drew g := ⟨⟨fun _ _ h => ⟨h, rfl⟩, Nat.le_refl _, fun _ _ => rfl, fun i L h => ⟨L, h, Nat.le_refl _, fun _ => ⟨rfl, rfl⟩, rfl⟩⟩, fun b _ h => ⟨rfl, h⟩, Nat.le_refl _⟩
  ⟨⟨h.below.drew, h.nb, h.rl, h.es, fun i cs hi => by
      obtain ⟨us, t, h1, h2⟩ := h.bx i cs hi
      exact ⟨us, t, h1, h2.mono e⟩, fun i r hi => by
      obtain ⟨us, ss, rest, h1, h2, h3, h4⟩ := h.rw i r hi
      exact ⟨us, ss, rest, h1, h2, h3, h4.mono e⟩, h.ownb, h.ownr, h.injb, h.injr, h.dis, h.old, h.lim, fun n => (h.gl n).mono e, fun hf => Nat.le_succ_of_le (h.dr hf)⟩, e⟩

theorem cell_alloc (w : World) (o : Obj) {b : Nat} (i : Nat) (h : b < w.heap.size) : (w.alloc o).cell? ⟨b, i, none⟩ = w.cell? ⟨b, i, none⟩ := World.cell?_alloc_lt _ _ _ h
theorem heap_alloc (w : World) (o : Obj) {b : Nat} (h : b < w.heap.size) : (w.alloc o).heap[b]? = w.heap[b]? := Below.heap_alloc _ _ _ h
theorem heap_new (w : World) (o : Obj) : (w.alloc o).heap[w.heap.size]? = some o := by
  show (w.heap.push o)[w.heap.size]? = some o
  simp

/-- A new box. -/
theorem SR.newBox (h : SR P gl w0 g m w) {cs : List A} {us : Array Value} (e : TypeId) (hc : VRs w g cs us.toList) :
    ∃ g', SR P gl w0 g' ⟨m.bx ++ [cs], m.rw⟩ (w.alloc (.cells us e)) ∧ Ext w g (w.alloc (.cells us e)) g' ∧ g'.bb m.bx.length = w.heap.size ∧ g'.nb = m.bx.length + 1 := by
  let g' : Gh := { g with bb := fun i => if i = m.bx.length then w.heap.size else g.bb i, nb := m.bx.length + 1 }
  have E : Ext w g (w.alloc (.cells us e)) g' := by
    refine ⟨⟨fun b o hF => ⟨hF, cell_alloc _ _ _ (h.lim b o hF)⟩, by simp [g', h.nb], fun i hi => ?_, fun i L h => ⟨L, h, Nat.le_refl _, fun _ => ⟨rfl, rfl⟩, rfl⟩⟩, fun b hb hl => ⟨heap_alloc _ _ hb, fun i hi => ?_, hl.2⟩, by simp⟩
    · rw [h.nb] at hi
      simp only [g']
      rw [if_neg (by omega)]
    · simp only [g']
      split
      · omega
      · refine hl.1 i ?_
        rw [h.nb]
        simp only [g'] at hi
        omega
  have hlt : ∀ i, i < m.bx.length → g'.bb i = g.bb i := fun i hi => by simp only [g']; rw [if_neg (by omega)]
  have hnew : g'.bb m.bx.length = w.heap.size := by simp [g']
  refine ⟨g', ⟨h.below.alloc h.szB _, by simp [g'], h.rl, h.es, fun i ds hi => ?_, fun i r hi => ?_, fun i hi => ?_, h.ownr, fun i j hi hj hij => ?_, h.injr, fun i j hi hj => ?_, h.old, fun b o hF => ?_, fun n => (h.gl n).mono E, h.dr⟩, E, hnew, rfl⟩
  · rcases Nat.lt_or_ge i m.bx.length with hl | hl
    · rw [List.getElem?_append_left hl] at hi
      obtain ⟨vs, t, h1, h2⟩ := h.bx i ds hi
      refine ⟨vs, t, ?_, h2.mono E⟩
      rw [hlt i hl, heap_alloc _ _ (Array.getElem?_eq_some_iff.1 h1).1]
      exact h1
    · rw [List.getElem?_append_right hl] at hi
      obtain rfl : i = m.bx.length := by
        have := (List.getElem?_eq_some_iff.1 hi).1
        simp at this
        omega
      simp at hi
      subst hi
      exact ⟨us, e, by rw [hnew]; exact heap_new _ _, hc.mono E⟩
  · obtain ⟨vs, ss, rest, h1, h2, h3, h4⟩ := h.rw i r hi
    exact ⟨vs, ss, rest, by rw [heap_alloc _ _ (Array.getElem?_eq_some_iff.1 h1).1]; exact h1, h2, h3, h4.mono E⟩
  · simp only [g'] at hi
    rcases Nat.lt_or_ge i m.bx.length with hl | hl
    · rw [hlt i hl]
      exact h.ownb i (by rw [h.nb]; exact hl)
    · obtain rfl : i = m.bx.length := by omega
      rw [hnew]
      exact ⟨h.szB, fun o hF => absurd (h.lim _ _ hF) (by omega)⟩
  · simp only [g'] at hi hj
    rcases Nat.lt_or_ge i m.bx.length with hl | hl <;> rcases Nat.lt_or_ge j m.bx.length with hk | hk
    · rw [hlt i hl, hlt j hk] at hij
      exact h.injb i j (by rw [h.nb]; exact hl) (by rw [h.nb]; exact hk) hij
    · obtain rfl : j = m.bx.length := by omega
      rw [hlt i hl, hnew] at hij
      have := h.bb_lt (i := i) (by rw [h.nb]; exact hl)
      omega
    · obtain rfl : i = m.bx.length := by omega
      rw [hlt j hk, hnew] at hij
      have := h.bb_lt (i := j) (by rw [h.nb]; exact hk)
      omega
    · omega
  · simp only [g'] at hi
    rcases Nat.lt_or_ge i m.bx.length with hl | hl
    · rw [hlt i hl]
      exact h.dis i j (by rw [h.nb]; exact hl) hj
    · obtain rfl : i = m.bx.length := by omega
      rw [hnew]
      have := h.br_lt (i := j) hj
      show w.heap.size ≠ g.br j
      omega
  · have := h.lim b o hF
    simp
    omega

/-- A block that stood for nothing becomes a box. -/
theorem SR.adopt (h : SR P gl w0 g m w) {b : Nat} {us : Array Value} {e : TypeId} {z : List A} (hb : w0.heap.size ≤ b) (hl : Loose g b) (hh : w.heap[b]? = some (.cells us e (0, 0))) (hc : VRs w g z us.toList) :
    ∃ g', SR P gl w0 g' ⟨m.bx ++ [z], m.rw⟩ w ∧ ExtB w g w g' ∧ g'.bb m.bx.length = b ∧ g'.nb = m.bx.length + 1 ∧ ∀ b', b' ≠ b → Loose g b' → Loose g' b' := by
  let g' : Gh := { g with bb := fun i => if i = m.bx.length then b else g.bb i, nb := m.bx.length + 1 }
  have E : ExtB w g w g' := by
    refine ⟨fun b o hF => ⟨hF, rfl⟩, by simp [g', h.nb], fun i hi => ?_, fun i L h => ⟨L, h, Nat.le_refl _, fun _ => ⟨rfl, rfl⟩, rfl⟩⟩
    rw [h.nb] at hi
    simp only [g']
    rw [if_neg (by omega)]
  have hlt : ∀ i, i < m.bx.length → g'.bb i = g.bb i := fun i hi => by simp only [g']; rw [if_neg (by omega)]
  have hnew : g'.bb m.bx.length = b := by simp [g']
  have hcase : ∀ i, i < g'.nb → i = m.bx.length ∨ (i < m.bx.length ∧ i < g.nb) := fun i hi => by
    have : i < m.bx.length + 1 := hi
    rw [h.nb]
    omega
  refine ⟨g', ⟨h.below, by simp [g'], h.rl, h.es, fun i ds hi => ?_, fun i r hi => ?_, fun i hi => ?_, h.ownr, fun i j hi hj hij => ?_, h.injr, fun i j hi hj => ?_, h.old, h.lim, fun n => VR.monoB E _ _ (h.gl n), h.dr⟩, E, hnew, rfl, fun b' hb' hl' => ⟨fun i hi => ?_, hl'.2⟩⟩
  · rcases Nat.lt_or_ge i m.bx.length with hl2 | hl2
    · rw [List.getElem?_append_left hl2] at hi
      obtain ⟨vs, t, h1, h2⟩ := h.bx i ds hi
      exact ⟨vs, t, by rw [hlt i hl2]; exact h1, VRs.monoB E _ _ h2⟩
    · rw [List.getElem?_append_right hl2] at hi
      obtain rfl : i = m.bx.length := by
        have := (List.getElem?_eq_some_iff.1 hi).1
        simp at this
        omega
      simp at hi
      subst hi
      exact ⟨us, e, by rw [hnew]; exact hh, VRs.monoB E _ _ hc⟩
  · obtain ⟨vs, ss, rest, h1, h2, h3, h4⟩ := h.rw i r hi
    exact ⟨vs, ss, rest, h1, h2, h3, VRs.monoB E _ _ h4⟩
  · rcases hcase i hi with rfl | ⟨h1, h2⟩
    · rw [hnew]; exact ⟨hb, hl.2.2⟩
    · rw [hlt i h1]; exact h.ownb i h2
  · rcases hcase i hi with rfl | ⟨h1, h2⟩
    · rcases hcase j hj with rfl | ⟨h3, h4⟩
      · rfl
      · rw [hnew, hlt j h3] at hij
        exact absurd hij.symm (hl.1 j h4)
    · rcases hcase j hj with rfl | ⟨h3, h4⟩
      · rw [hnew, hlt i h1] at hij
        exact absurd hij (hl.1 i h2)
      · rw [hlt i h1, hlt j h3] at hij
        exact h.injb i j h2 h4 hij
  · rcases hcase i hi with rfl | ⟨h1, h2⟩
    · rw [hnew]; exact Ne.symm (hl.2.1 j hj)
    · rw [hlt i h1]; exact h.dis i j h2 hj
  · rcases hcase i hi with rfl | ⟨h1, h2⟩
    · rw [hnew]; exact Ne.symm hb'
    · rw [hlt i h1]; exact hl'.1 i h2

/-- A new block that stands for nothing. -/
theorem SR.newLoose (h : SR P gl w0 g m w) (o : Obj) : SR P gl w0 g m (w.alloc o) ∧ Ext w g (w.alloc o) g ∧ Loose g w.heap.size := by
  have E : Ext w g (w.alloc o) g := ⟨⟨fun b k hF => ⟨hF, cell_alloc _ _ _ (h.lim b k hF)⟩, Nat.le_refl _, fun _ _ => rfl, fun i L h => ⟨L, h, Nat.le_refl _, fun _ => ⟨rfl, rfl⟩, rfl⟩⟩, fun b hb hl => ⟨heap_alloc _ _ hb, hl⟩, by simp⟩
  refine ⟨⟨h.below.alloc h.szB _, h.nb, h.rl, h.es, fun i ds hi => ?_, fun i r hi => ?_, h.ownb, h.ownr, h.injb, h.injr, h.dis, h.old, fun b k hF => ?_, fun n => (h.gl n).mono E, h.dr⟩, E, fun i hi => ?_, fun i hi => ?_, fun k hF => ?_⟩
  · obtain ⟨vs, t, h1, h2⟩ := h.bx i ds hi
    exact ⟨vs, t, by rw [heap_alloc _ _ (Array.getElem?_eq_some_iff.1 h1).1]; exact h1, h2.mono E⟩
  · obtain ⟨vs, ss, rest, h1, h2, h3, h4⟩ := h.rw i r hi
    exact ⟨vs, ss, rest, by rw [heap_alloc _ _ (Array.getElem?_eq_some_iff.1 h1).1]; exact h1, h2, h3, h4.mono E⟩
  · have := h.lim b k hF
    simp
    omega
  · have := h.bb_lt hi; omega
  · have := h.br_lt hi; omega
  · have := h.lim _ k hF; omega

/-- A block that nobody writes any more. -/
theorem SR.newFix (h : SR P gl w0 g m w) (us : Array Value) (e : TypeId) (lo hi : Nat) :
    ∃ g', SR P gl w0 g' m (w.alloc (.cells us e (lo, hi))) ∧ Ext w g (w.alloc (.cells us e (lo, hi))) g' ∧ Lies (w.alloc (.cells us e (lo, hi))) g' w.heap.size 0 us.toList := by
  let g' : Gh := { g with F := fun b o => g.F b o ∨ (b = w.heap.size ∧ o < us.size) }
  have E : Ext w g (w.alloc (.cells us e (lo, hi))) g' := ⟨⟨fun b o hF => ⟨.inl hF, cell_alloc _ _ _ (h.lim b o hF)⟩, Nat.le_refl _, fun i hi => rfl, fun i L h => ⟨L, h, Nat.le_refl _, fun _ => ⟨rfl, rfl⟩, rfl⟩⟩, fun b hb hl => ⟨heap_alloc _ _ hb, hl.1, hl.2.1, fun o hF => by
    rcases hF with hF | ⟨rfl, _⟩
    · exact hl.2.2 o hF
    · omega⟩, by simp⟩
  refine ⟨g', ⟨h.below.alloc h.szB _, h.nb, h.rl, h.es, fun i ds hi => ?_, fun i r hi => ?_, fun i hi => ⟨(h.ownb i hi).1, fun o hF => ?_⟩, fun i hi => ⟨(h.ownr i hi).1, fun o hF => ?_⟩, h.injb, h.injr, h.dis, fun b o hb => .inl (h.old b o hb), fun b o hF => ?_, fun n => (h.gl n).mono E, h.dr⟩, E, fun j u hj => ?_⟩
  · obtain ⟨vs, t, h1, h2⟩ := h.bx i ds hi
    exact ⟨vs, t, by rw [heap_alloc _ _ (Array.getElem?_eq_some_iff.1 h1).1]; exact h1, h2.mono E⟩
  · obtain ⟨vs, ss, rest, h1, h2, h3, h4⟩ := h.rw i r hi
    exact ⟨vs, ss, rest, by rw [heap_alloc _ _ (Array.getElem?_eq_some_iff.1 h1).1]; exact h1, h2, h3, h4.mono E⟩
  · rcases hF with hF | ⟨hF, _⟩
    · exact (h.ownb i hi).2 o hF
    · have := h.bb_lt hi
      have hF : g.bb i = w.heap.size := hF
      have hi : i < g.nb := hi
      omega
  · rcases hF with hF | ⟨hF, _⟩
    · exact (h.ownr i hi).2 o hF
    · have := h.br_lt hi
      have hF : g.br i = w.heap.size := hF
      have hi : i < g.rl.length := hi
      omega
  · rcases hF with hF | ⟨hF, _⟩
    · have := h.lim b o hF; simp; omega
    · simp; omega
  · have hj' : j < us.size := by
      have := (List.getElem?_eq_some_iff.1 hj).1
      simpa using this
    refine ⟨.inr ⟨rfl, by omega⟩, ?_⟩
    have hn := heap_new w (.cells us e (lo, hi))
    simp only [World.cell?, hn, Nat.zero_add]
    simpa using hj

/-- A new row. -/
theorem SR.newRow (h : SR P gl w0 g m w) {cs : List A} {us : Array Value} {ss rest : List Value} (e : TypeId) (hus : us.toList = ss ++ rest) (hc : VRs w g cs ss) :
    ∃ g', SR P gl w0 g' ⟨m.bx, m.rw ++ [⟨e, cs⟩]⟩ (w.alloc (.cells us e)) ∧ Ext w g (w.alloc (.cells us e)) g' ∧ g'.br m.rw.length = w.heap.size ∧ g'.cz m.rw.length = us.size ∧ g'.es m.rw.length = szOf P e ∧ g'.rl[m.rw.length]? = some cs.length := by
  let g' : Gh := { g with br := fun i => if i = m.rw.length then w.heap.size else g.br i, cz := fun i => if i = m.rw.length then us.size else g.cz i, es := fun i => if i = m.rw.length then szOf P e else g.es i, rl := g.rl ++ [cs.length] }
  have hlen := h.rlen
  have E : Ext w g (w.alloc (.cells us e)) g' := by
    refine ⟨⟨fun b o hF => ⟨hF, cell_alloc _ _ _ (h.lim b o hF)⟩, Nat.le_refl _, fun i hi => rfl, fun i L hL => ?_⟩, fun b hb hl => ⟨heap_alloc _ _ hb, hl.1, fun i hi => ?_, hl.2.2⟩, by simp⟩
    · have hi := (List.getElem?_eq_some_iff.1 hL).1
      refine ⟨L, by simp only [g']; rw [List.getElem?_append_left hi]; exact hL, Nat.le_refl _, fun _ => ?_, ?_⟩
      · simp only [g']; rw [if_neg (by omega), if_neg (by omega)]; exact ⟨rfl, rfl⟩
      · simp only [g']; rw [if_neg (by omega)]
    · simp only [g']
      split
      · omega
      · refine hl.2.1 i ?_
        simp [g'] at hi
        omega
  have hlt : ∀ i, i < m.rw.length → g'.br i = g.br i ∧ g'.cz i = g.cz i ∧ g'.es i = g.es i := fun i hi => by
    simp only [g']; rw [if_neg (by omega), if_neg (by omega), if_neg (by omega)]; exact ⟨rfl, rfl, rfl⟩
  have hnew : g'.br m.rw.length = w.heap.size ∧ g'.cz m.rw.length = us.size ∧ g'.es m.rw.length = szOf P e := by simp [g']
  have hl' : g'.rl.length = m.rw.length + 1 := by simp [g', hlen]
  refine ⟨g', ⟨h.below.alloc h.szB _, h.nb, by simp [g', h.rl], fun i r hi => ?_, fun i ds hi => ?_, fun i r hi => ?_, h.ownb, fun i hi => ?_, h.injb, fun i j hi hj hij => ?_, fun i j hi hj => ?_, h.old, fun b o hF => ?_, fun n => (h.gl n).mono E, h.dr⟩, E, hnew.1, hnew.2.1, hnew.2.2, ?_⟩
  · rcases Nat.lt_or_ge i m.rw.length with hl | hl
    · rw [List.getElem?_append_left hl] at hi
      rw [(hlt i hl).2.2]
      exact h.es i r hi
    · rw [List.getElem?_append_right hl] at hi
      obtain rfl : i = m.rw.length := by
        have := (List.getElem?_eq_some_iff.1 hi).1
        simp at this
        omega
      simp at hi
      subst hi
      exact hnew.2.2
  · obtain ⟨vs, t, h1, h2⟩ := h.bx i ds hi
    exact ⟨vs, t, by show (w.alloc _).heap[g.bb i]? = _; rw [heap_alloc _ _ (Array.getElem?_eq_some_iff.1 h1).1]; exact h1, h2.mono E⟩
  · rcases Nat.lt_or_ge i m.rw.length with hl | hl
    · rw [List.getElem?_append_left hl] at hi
      obtain ⟨vs, ss', rest', h1, h2, h3, h4⟩ := h.rw i r hi
      refine ⟨vs, ss', rest', ?_, by rw [(hlt i hl).2.1]; exact h2, h3, h4.mono E⟩
      rw [(hlt i hl).1, heap_alloc _ _ (Array.getElem?_eq_some_iff.1 h1).1]
      exact h1
    · rw [List.getElem?_append_right hl] at hi
      obtain rfl : i = m.rw.length := by
        have := (List.getElem?_eq_some_iff.1 hi).1
        simp at this
        omega
      simp at hi
      subst hi
      exact ⟨us, ss, rest, by rw [hnew.1]; exact heap_new _ _, hnew.2.1.symm, hus, hc.mono E⟩
  · rw [hl'] at hi
    rcases Nat.lt_or_ge i m.rw.length with hl | hl
    · rw [(hlt i hl).1]
      exact h.ownr i (by omega)
    · obtain rfl : i = m.rw.length := by omega
      rw [hnew.1]
      exact ⟨h.szB, fun o hF => absurd (h.lim _ _ hF) (by omega)⟩
  · rw [hl'] at hi hj
    rcases Nat.lt_or_ge i m.rw.length with hl | hl <;> rcases Nat.lt_or_ge j m.rw.length with hk | hk
    · rw [(hlt i hl).1, (hlt j hk).1] at hij
      exact h.injr i j (by omega) (by omega) hij
    · obtain rfl : j = m.rw.length := by omega
      rw [(hlt i hl).1, hnew.1] at hij
      have := h.br_lt (i := i) (by omega)
      omega
    · obtain rfl : i = m.rw.length := by omega
      rw [(hlt j hk).1, hnew.1] at hij
      have := h.br_lt (i := j) (by omega)
      omega
    · omega
  · rw [hl'] at hj
    rcases Nat.lt_or_ge j m.rw.length with hl | hl
    · rw [(hlt j hl).1]
      exact h.dis i j hi (by omega)
    · obtain rfl : j = m.rw.length := by omega
      rw [hnew.1]
      have := h.bb_lt (i := i) hi
      show g.bb i ≠ w.heap.size
      omega
  · have := h.lim b o hF
    simp
    omega
  · simp only [g']
    rw [List.getElem?_append_right (by omega), hlen]
    simp

theorem cell_setRow_F (h : SR P gl w0 g m w) {k : Nat} (us : Array Value) (hk : ∀ o, ¬ g.F k o) {b o : Nat} (hF : g.F b o) : (w.setRow k us).cell? ⟨b, o, none⟩ = w.cell? ⟨b, o, none⟩ :=
  cell_setRow_other _ _ _ _ fun e => hk o (by rw [← e]; exact hF)

/-- A store into a box. -/
theorem SR.setBox (h : SR P gl w0 g m w) {i : Nat} {cs : List A} {us : Array Value} (hi : i < m.bx.length) (hc : VRs w g cs us.toList) :
    SR P gl w0 g ⟨m.bx.set i cs, m.rw⟩ (w.setRow (g.bb i) us) ∧ Ext w g (w.setRow (g.bb i) us) g := by
  have hin : i < g.nb := by rw [h.nb]; exact hi
  have own := h.ownb i hin
  have E : Ext w g (w.setRow (g.bb i) us) g := ⟨⟨fun b o hF => ⟨hF, cell_setRow_F h us own.2 hF⟩, Nat.le_refl _, fun _ _ => rfl, fun i L h => ⟨L, h, Nat.le_refl _, fun _ => ⟨rfl, rfl⟩, rfl⟩⟩, fun b hb hl => ⟨setRow_other _ _ _ _ (Ne.symm (hl.1 i hin)), hl⟩, by simp⟩
  refine ⟨⟨below_setRow h.below own.1 us, by simp [h.nb], h.rl, h.es, fun j ds hj => ?_, fun j r hj => ?_, h.ownb, h.ownr, h.injb, h.injr, h.dis, h.old, fun b o hF => by simpa using h.lim b o hF, fun n => (h.gl n).mono E, h.dr⟩, E⟩
  · rw [List.getElem?_set] at hj
    by_cases hij : i = j
    · subst hij
      simp [hi] at hj
      subst hj
      obtain ⟨vs, t, h1, _⟩ := h.bx i _ (List.getElem?_eq_getElem hi)
      exact ⟨us, t, setRow_heap _ _ _ _ _ _ h1, hc.mono E⟩
    · rw [if_neg hij] at hj
      obtain ⟨vs, t, h1, h2⟩ := h.bx j ds hj
      have hjl := (List.getElem?_eq_some_iff.1 hj).1
      exact ⟨vs, t, by rw [setRow_other _ _ _ _ fun e => hij (h.injb i j hin (by rw [h.nb]; exact hjl) e.symm)]; exact h1, h2.mono E⟩
  · obtain ⟨vs, ss, rest, h1, h2, h3, h4⟩ := h.rw j r hj
    have hjl := (List.getElem?_eq_some_iff.1 hj).1
    exact ⟨vs, ss, rest, by rw [setRow_other _ _ _ _ fun e => h.dis i j hin (by rw [h.rlen]; exact hjl) e.symm]; exact h1, h2, h3, h4.mono E⟩

/-- A store into a row's block: the row as it lies; its cells may have become more. -/
theorem SR.setRow (h : SR P gl w0 g m w) {i : Nat} {r : Row} {cs : List A} {us : Array Value} {ss rest : List Value} (hi : m.rw[i]? = some r) (hle : r.cs.length ≤ cs.length) (hsz : us.size = g.cz i) (hus : us.toList = ss ++ rest) (hc : VRs w g cs ss) :
    ∃ g', SR P gl w0 g' ⟨m.bx, m.rw.set i ⟨r.el, cs⟩⟩ (w.setRow (g.br i) us) ∧ Ext w g (w.setRow (g.br i) us) g' ∧ g'.br = g.br ∧ g'.cz = g.cz ∧ g'.es = g.es ∧ g'.rl[i]? = some cs.length := by
  have hlt := (List.getElem?_eq_some_iff.1 hi).1
  have hin : i < g.rl.length := by rw [h.rlen]; exact hlt
  have own := h.ownr i hin
  have hri : g.rl[i]? = some r.cs.length := by rw [h.rl, List.getElem?_map, hi]; rfl
  let g' : Gh := { g with rl := g.rl.set i cs.length }
  have E : Ext w g (w.setRow (g.br i) us) g' := by
    refine ⟨⟨fun b o hF => ⟨hF, cell_setRow_F h us own.2 hF⟩, Nat.le_refl _, fun _ _ => rfl, fun j L hL => ?_⟩, fun b hb hl => ⟨setRow_other _ _ _ _ (Ne.symm (hl.2.1 i hin)), hl.1, fun j hj => hl.2.1 j (by simpa [g'] using hj), hl.2.2⟩, by simp⟩
    by_cases hij : i = j
    · subst hij
      rw [hri] at hL
      cases hL
      exact ⟨cs.length, by simp [g', hin], hle, fun _ => ⟨rfl, rfl⟩, rfl⟩
    · exact ⟨L, by simp only [g']; rw [List.getElem?_set_ne hij]; exact hL, Nat.le_refl _, fun _ => ⟨rfl, rfl⟩, rfl⟩
  refine ⟨g', ⟨below_setRow h.below own.1 us, h.nb, ?_, fun j s hj => ?_, fun j ds hj => ?_, fun j s hj => ?_, h.ownb, fun j hj => h.ownr j (by simpa [g'] using hj), h.injb, fun j k hj hk => h.injr j k (by simpa [g'] using hj) (by simpa [g'] using hk), fun j k hj hk => h.dis j k hj (by simpa [g'] using hk), h.old, fun b o hF => by simpa using h.lim b o hF, fun n => (h.gl n).mono E, h.dr⟩, E, rfl, rfl, rfl, by simp [g', hin]⟩
  · simp only [g', h.rl, List.map_set]
  · rw [List.getElem?_set] at hj
    by_cases hij : i = j
    · subst hij
      simp [hlt] at hj
      subst hj
      exact h.es i r hi
    · rw [if_neg hij] at hj
      exact h.es j s hj
  · obtain ⟨vs, t, h1, h2⟩ := h.bx j ds hj
    have hjl := (List.getElem?_eq_some_iff.1 hj).1
    exact ⟨vs, t, by show (w.setRow _ _).heap[g.bb j]? = _; rw [setRow_other _ _ _ _ (h.dis j i (by rw [h.nb]; exact hjl) hin)]; exact h1, h2.mono E⟩
  · rw [List.getElem?_set] at hj
    by_cases hij : i = j
    · subst hij
      simp [hlt] at hj
      subst hj
      obtain ⟨vs, ss', rest', h1, h2, h3, h4⟩ := h.rw i r hi
      exact ⟨us, ss, rest, setRow_heap _ _ _ _ _ _ h1, hsz, hus, hc.mono E⟩
    · rw [if_neg hij] at hj
      obtain ⟨vs, ss', rest', h1, h2, h3, h4⟩ := h.rw j s hj
      have hjl := (List.getElem?_eq_some_iff.1 hj).1
      exact ⟨vs, ss', rest', by show (w.setRow _ _).heap[g.br j]? = _; rw [setRow_other _ _ _ _ fun e => hij (h.injr i j hin (by rw [h.rlen]; exact hjl) e.symm)]; exact h1, h2, h3, h4.mono E⟩

/-- A row that grows out of its block: it lies in a new one. -/
theorem SR.moveRow (h : SR P gl w0 g m w) {i : Nat} {r : Row} {cs : List A} {us : Array Value} {ss rest : List Value} (hi : m.rw[i]? = some r) (hle : r.cs.length < cs.length) (hus : us.toList = ss ++ rest) (hc : VRs w g cs ss) :
    ∃ g', SR P gl w0 g' ⟨m.bx, m.rw.set i ⟨r.el, cs⟩⟩ (w.alloc (.cells us r.el)) ∧ Ext w g (w.alloc (.cells us r.el)) g' ∧ g'.br i = w.heap.size ∧ g'.cz i = us.size ∧ g'.es i = szOf P r.el ∧ g'.rl[i]? = some cs.length := by
  have hlt := (List.getElem?_eq_some_iff.1 hi).1
  have hin : i < g.rl.length := by rw [h.rlen]; exact hlt
  have hri : g.rl[i]? = some r.cs.length := by rw [h.rl, List.getElem?_map, hi]; rfl
  let g' : Gh := { g with rl := g.rl.set i cs.length, br := fun j => if j = i then w.heap.size else g.br j, cz := fun j => if j = i then us.size else g.cz j }
  have E : Ext w g (w.alloc (.cells us r.el)) g' := by
    refine ⟨⟨fun b o hF => ⟨hF, cell_alloc _ _ _ (h.lim b o hF)⟩, Nat.le_refl _, fun _ _ => rfl, fun j L hL => ?_⟩, fun b hb hl => ⟨heap_alloc _ _ hb, hl.1, fun j hj => ?_, hl.2.2⟩, by simp⟩
    · by_cases hij : i = j
      · subst hij
        rw [hri] at hL
        cases hL
        exact ⟨cs.length, by simp [g', hin], by omega, fun e => by omega, rfl⟩
      · refine ⟨L, by simp only [g']; rw [List.getElem?_set_ne hij]; exact hL, Nat.le_refl _, fun _ => ?_, rfl⟩
        simp only [g']
        rw [if_neg (fun e => hij e.symm), if_neg (fun e => hij e.symm)]
        exact ⟨rfl, rfl⟩
    · simp only [g']
      split
      · omega
      · exact hl.2.1 j (by simpa [g'] using hj)
  have hne : ∀ j, j ≠ i → g'.br j = g.br j ∧ g'.cz j = g.cz j := fun j hj => by simp only [g']; rw [if_neg hj, if_neg hj]; exact ⟨rfl, rfl⟩
  have hself : g'.br i = w.heap.size ∧ g'.cz i = us.size := by simp [g']
  have hl' : g'.rl.length = g.rl.length := by simp [g']
  have hes := h.es i r hi
  refine ⟨g', ⟨h.below.alloc h.szB _, h.nb, ?_, fun j s hj => ?_, fun j ds hj => ?_, fun j s hj => ?_, h.ownb, fun j hj => ?_, h.injb, fun j k hj hk hjk => ?_, fun j k hj hk => ?_, h.old, fun b o hF => ?_, fun n => (h.gl n).mono E, h.dr⟩, E, hself.1, hself.2, hes, by simp [g', hin]⟩
  · simp only [g', h.rl, List.map_set]
  · rw [List.getElem?_set] at hj
    by_cases hij : i = j
    · subst hij
      simp [hlt] at hj
      subst hj
      exact h.es i r hi
    · rw [if_neg hij] at hj
      exact h.es j s hj
  · obtain ⟨vs, t, h1, h2⟩ := h.bx j ds hj
    exact ⟨vs, t, by show (w.alloc _).heap[g.bb j]? = _; rw [heap_alloc _ _ (Array.getElem?_eq_some_iff.1 h1).1]; exact h1, h2.mono E⟩
  · rw [List.getElem?_set] at hj
    by_cases hij : i = j
    · subst hij
      simp [hlt] at hj
      subst hj
      exact ⟨us, ss, rest, by rw [hself.1]; exact heap_new _ _, hself.2.symm, hus, hc.mono E⟩
    · rw [if_neg hij] at hj
      obtain ⟨vs, ss', rest', h1, h2, h3, h4⟩ := h.rw j s hj
      refine ⟨vs, ss', rest', ?_, by rw [(hne j (Ne.symm hij)).2]; exact h2, h3, h4.mono E⟩
      rw [(hne j (Ne.symm hij)).1, heap_alloc _ _ (Array.getElem?_eq_some_iff.1 h1).1]
      exact h1
  · by_cases hij : j = i
    · subst hij
      rw [hself.1]
      exact ⟨h.szB, fun o hF => absurd (h.lim _ _ hF) (by omega)⟩
    · rw [(hne j hij).1]
      exact h.ownr j (by omega)
  · rw [hl'] at hj hk
    by_cases h1 : j = i <;> by_cases h2 : k = i
    · omega
    · subst h1
      rw [hself.1, (hne k h2).1] at hjk
      have := h.br_lt (i := k) hk
      omega
    · subst h2
      rw [hself.1, (hne j h1).1] at hjk
      have := h.br_lt (i := j) hj
      omega
    · rw [(hne j h1).1, (hne k h2).1] at hjk
      exact h.injr j k hj hk hjk
  · rw [hl'] at hk
    by_cases h2 : k = i
    · subst h2
      rw [hself.1]
      have := h.bb_lt (i := j) hj
      show g.bb j ≠ w.heap.size
      omega
    · rw [(hne k h2).1]
      exact h.dis j k hj hk
  · have := h.lim b o hF
    simp
    omega
end
end AE
end Go.Proofs.YthoomlenmgdebaaGreatDoor
