/- What is left behind a call or a round stands for the same values. -/
import Derived.Test.YthoomlenmgdebaaGreatDoorAE9
set_option linter.unusedVariables false
set_option linter.unusedSimpArgs false
set_option linter.unusedSectionVars false
set_option maxHeartbeats 800000
namespace Go.Proofs.YthoomlenmgdebaaGreatDoor
namespace AE
open Go Go.RowKit

mutual
theorem closed_mono {nb nr nb' nr' : Nat} (hb : nb ≤ nb') (hr : nr ≤ nr') : ∀ a : A, closed nb nr a = true → closed nb' nr' a = true
  | .undef, _ | .int _ _, _ | .bool _, _ | .str _, _ | .nilp, _ | .nili, _ | .nilf, _ | .nils, _ => rfl
  | .ifc t x, h => by rw [closed] at h ⊢; exact closed_mono hb hr x h
  | .agg cs, h => by rw [closed] at h ⊢; exact closedL_mono hb hr cs h
  | .tup cs, h => by rw [closed] at h ⊢; exact closedL_mono hb hr cs h
  | .isl _ _ cs, h => by rw [closed] at h ⊢; exact closedL_mono hb hr cs h
  | .rp cs, h => by rw [closed] at h ⊢; exact closedL_mono hb hr cs h
  | .fn _ cs, h => by rw [closed] at h ⊢; exact closedL_mono hb hr cs h
  | .ptr id _, h => by rw [closed] at h ⊢; simp at h ⊢; omega
  | .sl id _ _ _, h => by rw [closed] at h ⊢; simp at h ⊢; omega
  | .rptr id _ _, h => by rw [closed] at h ⊢; simp at h ⊢; omega
theorem closedL_mono {nb nr nb' nr' : Nat} (hb : nb ≤ nb') (hr : nr ≤ nr') : ∀ cs : List A, closed.closedL nb nr cs = true → closed.closedL nb' nr' cs = true
  | [], _ => rfl
  | a :: r, h => by
    rw [closed.closedL] at h ⊢
    simp only [Bool.and_eq_true] at h ⊢
    exact ⟨closed_mono hb hr a h.1, closedL_mono hb hr r h.2⟩
end
theorem closedL_all (nb nr : Nat) : ∀ cs : List A, closed.closedL nb nr cs = cs.all (closed nb nr)
  | [] => rfl
  | a :: r => by rw [closed.closedL, closedL_all nb nr r, List.all_cons]

section
variable {w : World} {g : Gh}
mutual
theorem VR.closed : ∀ (a : A) (v : Value), VR w g a v → AE.closed g.nb g.rl.length a = true
  | .undef, _, _ | .int _ _, _, _ | .bool _, _, _ | .str _, _, _ | .nilp, _, _ | .nili, _, _ | .nilf, _, _ | .nils, _, _ => rfl
  | .ifc t x, _, h => by rw [VR] at h; obtain ⟨u, _, h⟩ := h; rw [AE.closed]; exact VR.closed x u h
  | .agg cs, _, h => by rw [VR] at h; obtain ⟨us, _, h⟩ := h; rw [AE.closed]; exact VRs.closed cs us h
  | .tup cs, _, h => by rw [VR] at h; obtain ⟨us, _, h⟩ := h; rw [AE.closed]; exact VRs.closed cs us h
  | .isl _ _ cs, _, h => by rw [VR] at h; obtain ⟨_, _, us, _, _, _, h, _⟩ := h; rw [AE.closed]; exact VRs.closed cs us h
  | .rp cs, _, h => by rw [VR] at h; obtain ⟨_, _, us, _, h, _⟩ := h; rw [AE.closed]; exact VRs.closed cs us h
  | .fn _ cs, _, h => by rw [VR] at h; obtain ⟨us, _, h⟩ := h; rw [AE.closed]; exact VRs.closed cs us h
  | .ptr id _, _, h => by rw [VR] at h; rw [AE.closed]; simpa using h.1
  | .sl id _ _ _, _, h => by rw [VR] at h; obtain ⟨_, L, h, _⟩ := h; rw [AE.closed]; simpa using (List.getElem?_eq_some_iff.1 h).1
  | .rptr id _ _, _, h => by rw [VR] at h; obtain ⟨_, L, h, _⟩ := h; rw [AE.closed]; simpa using (List.getElem?_eq_some_iff.1 h).1
theorem VRs.closed : ∀ (cs : List A) (us : List Value), VRs w g cs us → AE.closed.closedL g.nb g.rl.length cs = true
  | [], _, _ => rfl
  | a :: r, _, h => by
    rw [VRs] at h
    obtain ⟨u, t, _, h1, h2⟩ := h
    rw [AE.closed.closedL, VR.closed a u h1, VRs.closed r t h2]
    rfl
end

/-- The state with fewer boxes and rows; the cells of the rows that go are fixed. -/
def cutG (g : Gh) (nb nr : Nat) : Gh := { g with nb := nb, rl := g.rl.take nr, F := fun b o => g.F b o ∨ ∃ id L, nr ≤ id ∧ g.rl[id]? = some L ∧ b = g.br id ∧ o < L }

theorem Lies.cut {nb nr b o : Nat} {us : List Value} (h : Lies w g b o us) : Lies w (cutG g nb nr) b o us := fun j u hj => ⟨.inl (h j u hj).1, (h j u hj).2⟩

mutual
theorem VR.cut {nb nr : Nat} : ∀ (a : A) (v : Value), AE.closed nb nr a = true → VR w g a v → VR w (cutG g nb nr) a v
  | .undef, _, _, _ => by rw [VR]; trivial
  | .int _ _, _, _, h => by rw [VR] at h ⊢; exact h
  | .bool _, _, _, h => by rw [VR] at h ⊢; exact h
  | .str _, _, _, h => by rw [VR] at h ⊢; exact h
  | .nilp, _, _, h => by rw [VR] at h ⊢; exact h
  | .nili, _, _, h => by rw [VR] at h ⊢; exact h
  | .nilf, _, _, h => by rw [VR] at h ⊢; exact h
  | .nils, _, _, h => by rw [VR] at h ⊢; exact h
  | .ifc t x, _, c, h => by rw [VR] at h ⊢; rw [AE.closed] at c; obtain ⟨u, e, h⟩ := h; exact ⟨u, e, VR.cut x u c h⟩
  | .agg cs, _, c, h => by rw [VR] at h ⊢; rw [AE.closed] at c; obtain ⟨u, e, h⟩ := h; exact ⟨u, e, VRs.cut cs u c h⟩
  | .tup cs, _, c, h => by rw [VR] at h ⊢; rw [AE.closed] at c; obtain ⟨u, e, h⟩ := h; exact ⟨u, e, VRs.cut cs u c h⟩
  | .isl full n cs, _, c, h => by
    rw [VR] at h ⊢
    rw [AE.closed] at c
    obtain ⟨a, k, us, e, k1, k2, k3, k4⟩ := h
    refine ⟨a, k, us, e, k1, k2, VRs.cut cs us c k3, fun hn => ?_⟩
    obtain ⟨b, o, e, l⟩ := k4 hn
    exact ⟨b, o, e, l.cut⟩
  | .rp cs, _, c, h => by
    rw [VR] at h ⊢
    rw [AE.closed] at c
    obtain ⟨b, o, us, e, k1, k2⟩ := h
    exact ⟨b, o, us, e, VRs.cut cs us c k1, k2.cut⟩
  | .ptr id off, _, c, h => by
    rw [VR] at h ⊢
    rw [AE.closed] at c
    exact ⟨by show id < nb; simpa using c, h.2⟩
  | .sl id ver off n, _, c, h => by
    rw [VR] at h ⊢
    rw [AE.closed] at c
    simp at c
    obtain ⟨k0, L, k1, k2⟩ := h
    exact ⟨k0, L, by simp only [cutG]; rw [List.getElem?_take, if_pos c]; exact k1, k2⟩
  | .rptr id ver off, _, c, h => by
    rw [VR] at h ⊢
    rw [AE.closed] at c
    simp at c
    obtain ⟨k0, L, k1, k2⟩ := h
    exact ⟨k0, L, by simp only [cutG]; rw [List.getElem?_take, if_pos c]; exact k1, k2⟩
  | .fn f cs, _, c, h => by rw [VR] at h ⊢; rw [AE.closed] at c; obtain ⟨u, e, h⟩ := h; exact ⟨u, e, VRs.cut cs u c h⟩
theorem VRs.cut {nb nr : Nat} : ∀ (cs : List A) (us : List Value), AE.closed.closedL nb nr cs = true → VRs w g cs us → VRs w (cutG g nb nr) cs us
  | [], _, _, h => by rw [VRs] at h ⊢; exact h
  | a :: r, _, c, h => by
    rw [VRs] at h ⊢
    rw [AE.closed.closedL] at c
    simp only [Bool.and_eq_true] at c
    obtain ⟨u, t, e, h1, h2⟩ := h
    exact ⟨u, t, e, VR.cut a u c.1 h1, VRs.cut r t c.2 h2⟩
end
end

section
variable {P : Program} {gl : Nat → A} {w0 : World} {g : Gh} {m : Mem} {w : World}
theorem SR.cut (hgl : ∀ n, closed 0 0 (gl n) = true) (h : SR P gl w0 g m w) (nb nr : Nat) (hnb : nb ≤ m.bx.length) (hnr : nr ≤ m.rw.length)
    (hb : ∀ i cs, i < nb → m.bx[i]? = some cs → cs.all (closed nb nr) = true) (hr : ∀ i r, i < nr → m.rw[i]? = some r → r.cs.all (closed nb nr) = true) :
    SR P gl w0 (cutG g nb nr) ⟨m.bx.take nb, m.rw.take nr⟩ w := by
  have hgn := h.nb
  have hrl := h.rlen
  have hlen : (cutG g nb nr).rl.length = nr := by simp only [cutG, List.length_take]; omega
  have hFb : ∀ i, i < g.nb → ∀ o, ¬ (cutG g nb nr).F (g.bb i) o := by
    rintro i hi o (hF | ⟨id, L, h1, h2, h3, _⟩)
    · exact (h.ownb i hi).2 o hF
    · exact h.dis i id hi (List.getElem?_eq_some_iff.1 h2).1 h3
  have hFr : ∀ i, i < nr → ∀ o, ¬ (cutG g nb nr).F (g.br i) o := by
    rintro i hi o (hF | ⟨id, L, h1, h2, h3, _⟩)
    · exact (h.ownr i (by omega)).2 o hF
    · have := h.injr i id (by omega) (List.getElem?_eq_some_iff.1 h2).1 h3
      omega
  refine ⟨h.below, ?_, ?_, fun i r hi => ?_, fun i cs hi => ?_, fun i r hi => ?_, fun i hi => ?_, fun i hi => ?_, fun i j hi hj => h.injb i j ?_ ?_, fun i j hi hj => h.injr i j ?_ ?_, fun i j hi hj => h.dis i j ?_ ?_, fun b o hb => .inl (h.old b o hb), ?_, fun n => ?_, h.dr⟩
  · simp [cutG]; omega
  · simp only [cutG, h.rl, List.map_take]
  · rw [List.getElem?_take] at hi
    split at hi
    · exact h.es i r hi
    · cases hi
  · rw [List.getElem?_take] at hi
    split at hi
    · rename_i hlt
      obtain ⟨us, e, h1, h2⟩ := h.bx i cs hi
      exact ⟨us, e, h1, VRs.cut cs _ (by rw [closedL_all]; exact hb i cs hlt hi) h2⟩
    · cases hi
  · rw [List.getElem?_take] at hi
    split at hi
    · rename_i hlt
      obtain ⟨us, ss, rest, h1, h2, h3, h4⟩ := h.rw i r hi
      exact ⟨us, ss, rest, h1, h2, h3, VRs.cut r.cs _ (by rw [closedL_all]; exact hr i r hlt hi) h4⟩
    · cases hi
  · have hi : i < nb := hi
    exact ⟨(h.ownb i (by omega)).1, hFb i (by omega)⟩
  · rw [hlen] at hi
    exact ⟨(h.ownr i (by omega)).1, hFr i hi⟩
  · have hi : i < nb := hi
    omega
  · have hj : j < nb := hj
    omega
  · rw [hlen] at hi
    omega
  · rw [hlen] at hj
    omega
  · have hi : i < nb := hi
    omega
  · rw [hlen] at hj
    omega
  · rintro b o (hF | ⟨id, L, h1, h2, rfl, _⟩)
    · exact h.lim b o hF
    · exact h.br_lt (List.getElem?_eq_some_iff.1 h2).1
  · exact VR.cut _ _ (closed_mono (Nat.zero_le _) (Nat.zero_le _) _ (hgl n)) (h.gl n)

theorem Loose.cut {g : Gh} {b : Nat} (h : Loose g b) (nb nr : Nat) (hn : nb ≤ g.nb) : Loose (cutG g nb nr) b := by
  refine ⟨fun i hi => h.1 i ?_, fun i hi => h.2.1 i ?_, fun o hF => ?_⟩
  · simp only [cutG] at hi
    omega
  · simp only [cutG, List.length_take] at hi
    omega
  · rcases hF with hF | ⟨id, L, _, h1, rfl, _⟩
    · exact h.2.2 o hF
    · exact h.2.1 id (List.getElem?_eq_some_iff.1 h1).1 rfl
/-- From what there was to what is left. -/
theorem Ext.cut {w' : World} {g' : Gh} (h : Ext w g w' g') : Ext w g w' (cutG g' g.nb g.rl.length) := by
  refine ⟨⟨fun b o hF => ⟨.inl (h.fx b o hF).1, (h.fx b o hF).2⟩, Nat.le_refl _, h.bb, fun i L hL => ?_⟩, fun b hb hl => ?_, h.sz⟩
  · obtain ⟨L', h1, h2⟩ := h.rl i L hL
    exact ⟨L', by simp only [cutG]; rw [List.getElem?_take, if_pos (List.getElem?_eq_some_iff.1 hL).1]; exact h1, h2⟩
  · obtain ⟨h1, h2⟩ := h.fr b hb hl
    exact ⟨h1, h2.cut _ _ h.nb⟩

/-! ### What a result becomes -/
section
variable (hs : SR P gl w0 g m w) (nb nr : Nat) {gg : Nat → Nat → Nat → Nat → A}
  (hgg : ∀ id ver off n v, nr ≤ id → VR w g (.sl id ver off n) v → VR w (cutG g nb nr) (gg id ver off n) v)
include hgg
mutual
theorem VR.er1 : ∀ (a : A) (v : Value), VR w g a v → VR w (cutG g nb nr) (AE.er1 nb nr gg a) v
  | .undef, _, _ => by show VR w (cutG g nb nr) .undef _; rw [VR]; trivial
  | .int _ _, _, h => by rw [VR] at h; show VR w (cutG g nb nr) (.int _ _) _; rw [VR]; exact h
  | .bool _, _, h => by rw [VR] at h; show VR w (cutG g nb nr) (.bool _) _; rw [VR]; exact h
  | .str _, _, h => by rw [VR] at h; show VR w (cutG g nb nr) (.str _) _; rw [VR]; exact h
  | .nilp, _, h => by rw [VR] at h; show VR w (cutG g nb nr) (.nilp) _; rw [VR]; exact h
  | .nili, _, h => by rw [VR] at h; show VR w (cutG g nb nr) (.nili) _; rw [VR]; exact h
  | .nilf, _, h => by rw [VR] at h; show VR w (cutG g nb nr) (.nilf) _; rw [VR]; exact h
  | .nils, _, h => by
    rw [VR] at h
    rw [AE.er1, VR]
    exact ⟨none, 0, [], h, by simp, Nat.le_refl _, VRs.mk_nil, by simp⟩
  | .ifc t x, _, h => by rw [VR] at h; rw [AE.er1, VR]; obtain ⟨u, e, h⟩ := h; exact ⟨u, e, VR.er1 x u h⟩
  | .agg cs, _, h => by rw [VR] at h; rw [AE.er1, VR]; obtain ⟨u, e, h⟩ := h; exact ⟨u, e, VRs.er1 cs u h⟩
  | .tup cs, _, h => by rw [VR] at h; rw [AE.er1, VR]; obtain ⟨u, e, h⟩ := h; exact ⟨u, e, VRs.er1 cs u h⟩
  | .isl full n cs, _, h => by
    rw [VR] at h
    rw [AE.er1, VR]
    obtain ⟨a, k, us, e, k1, k2, k3, k4⟩ := h
    refine ⟨a, k, us, e, by simp, k2, VRs.er1 cs us k3, fun hn => ?_⟩
    obtain ⟨b, o, e, l⟩ := k4 hn
    exact ⟨b, o, e, l.cut⟩
  | .rp cs, _, h => by
    rw [VR] at h
    rw [AE.er1, VR]
    obtain ⟨b, o, us, e, k1, k2⟩ := h
    exact ⟨b, o, us, e, VRs.er1 cs us k1, k2.cut⟩
  | .ptr id off, v, h => by
    rw [AE.er1]
    split
    · rename_i hi
      exact VR.cut _ v (by rw [AE.closed]; simpa using hi) h
    · rw [VR]; trivial
  | .rptr id ver off, v, h => by
    rw [AE.er1]
    split
    · rename_i hi
      exact VR.cut _ v (by rw [AE.closed]; simpa using hi) h
    · rw [VR]; trivial
  | .sl id ver off n, v, h => by
    rw [AE.er1]
    split
    · rename_i hi
      exact VR.cut _ v (by rw [AE.closed]; simpa using hi) h
    · rename_i hi
      exact hgg id ver off n v (by omega) h
  | .fn f cs, _, h => by rw [VR] at h; rw [AE.er1, VR]; obtain ⟨u, e, h⟩ := h; exact ⟨u, e, VRs.er1 cs u h⟩
theorem VRs.er1 : ∀ (cs : List A) (us : List Value), VRs w g cs us → VRs w (cutG g nb nr) (AE.er1.er1L nb nr gg cs) us
  | [], _, h => by rw [VRs] at h; rw [AE.er1.er1L, VRs]; exact h
  | a :: r, _, h => by
    rw [VRs] at h
    obtain ⟨u, t, e, h1, h2⟩ := h
    rw [AE.er1.er1L, VRs]
    exact ⟨u, t, e, VR.er1 a u h1, VRs.er1 r t h2⟩
end
end
theorem er1L_map (nb nr : Nat) (g) : ∀ cs : List A, er1.er1L nb nr g cs = cs.map (er1 nb nr g)
  | [] => rfl
  | a :: r => by rw [er1.er1L, er1L_map nb nr g r, List.map_cons]

theorem erG_sound (hs : SR P gl w0 g m w) (nb nr : Nat) : ∀ k, ∀ id ver off n v, nr ≤ id → VR w g (.sl id ver off n) v → VR w (cutG g nb nr) (erG P nb nr m.rw k id ver off n) v
  | 0, _, _, _, _, _, _, _ => by show VR w (cutG g nb nr) .undef _; rw [VR]; trivial
  | k + 1, id, ver, off, n, v, hid, h => by
    simp only [erG]
    cases hr : m.rw[id]? with
    | none => show VR w (cutG g nb nr) .undef _; rw [VR]; trivial
    | some r =>
      simp only
      split
      · rename_i hc
        rw [VR] at h
        obtain ⟨_, L, k1, k2, k3⟩ := h
        have hL : L = r.cs.length := by
          rw [hs.rl, List.getElem?_map, hr] at k1
          simpa using k1.symm
        obtain ⟨c, rfl, hnc, _⟩ := k3 (by omega)
        obtain ⟨us, ss, rest, h1, h2, h3, h4⟩ := hs.rw id r hr
        have hlen := h4.length
        rw [VR, ← er1L_map]
        refine ⟨_, c, (ss.drop off).take (n * szOf P r.el), rfl, by simp, hnc, VRs.er1 nb nr (erG_sound hs nb nr k) _ _ (h4.sub _ _), fun _ => ⟨_, _, rfl, fun j u hj => ⟨.inr ⟨id, L, hid, k1, rfl, ?_⟩, ?_⟩⟩⟩
        · have := (List.getElem?_eq_some_iff.1 hj).1
          simp at this
          omega
        · have hat := (At.of_block h1 h3).sub off (n * szOf P r.el)
          rw [Nat.zero_add] at hat
          exact hat j u hj
      · show VR w (cutG g nb nr) .undef _; rw [VR]; trivial

theorem er_sound (hs : SR P gl w0 g m w) (nb nr k : Nat) {a : A} {v : Value} (h : VR w g a v) : VR w (cutG g nb nr) (er P nb nr m.rw k a) v := VR.er1 nb nr (erG_sound hs nb nr k) a v h
end
end AE
end Go.Proofs.YthoomlenmgdebaaGreatDoor
