/- What is left behind a call or a round stands for the same values. -/
import Derived.Test.YthoomlenmgdebaaGreatDoorGA
import Derived.LoopN
import Derived.Recover
set_option linter.unusedVariables false
set_option linter.unusedSimpArgs false
set_option linter.unusedSectionVars false
set_option maxHeartbeats 800000
namespace Go.Proofs.YthoomlenmgdebaaGreatDoor
namespace AE
open Go Go.RowKit

mutual
theorem closed_mono {nb nr nb' nr' : Nat} (hb : nb ≤ nb') (hr : nr ≤ nr') : ∀ a : A, closed nb nr a = true → closed nb' nr' a = true
  | .undef, _ | .int _ _, _ | .bool _, _ | .str _, _ | .nilp, _ | .nili, _ | .nilf, _ | .nils, _ => rfl
  | .ifc t x, h => by rw [closed] at h ⊢; exact closed_mono hb hr x h
  | .agg cs, h => by rw [closed] at h ⊢; exact closedL_mono hb hr cs h
  | .tup cs, h => by rw [closed] at h ⊢; exact closedL_mono hb hr cs h
  | .isl _ _ cs, h => by rw [closed] at h ⊢; exact closedL_mono hb hr cs h
  | .rp cs, h => by rw [closed] at h ⊢; exact closedL_mono hb hr cs h
  | .fn _ cs, h => by rw [closed] at h ⊢; exact closedL_mono hb hr cs h
  | .ptr id _, h => by rw [closed] at h ⊢; simp at h ⊢; omega
  | .sl id _ _ _, h => by rw [closed] at h ⊢; simp at h ⊢; omega
  | .rptr id _ _, h => by rw [closed] at h ⊢; simp at h ⊢; omega
theorem closedL_mono {nb nr nb' nr' : Nat} (hb : nb ≤ nb') (hr : nr ≤ nr') : ∀ cs : List A, closed.closedL nb nr cs = true → closed.closedL nb' nr' cs = true
  | [], _ => rfl
  | a :: r, h => by
    rw [closed.closedL] at h ⊢
    simp only [Bool.and_eq_true] at h ⊢
    exact ⟨closed_mono hb hr a h.1, closedL_mono hb hr r h.2⟩
end
theorem closedL_all (nb nr : Nat) : ∀ cs : List A, closed.closedL nb nr cs = cs.all (closed nb nr)
  | [] => rfl
  | a :: r => by rw [closed.closedL, closedL_all nb nr r, List.all_cons]

section
variable {w : World} {g : Gh}
mutual
theorem VR.closed : ∀ (a : A) (v : Value), VR w g a v → AE.closed g.nb g.rl.length a = true
  | .undef, _, _ | .int _ _, _, _ | .bool _, _, _ | .str _, _, _ | .nilp, _, _ | .nili, _, _ | .nilf, _, _ | .nils, _, _ => rfl
  | .ifc t x, _, h => by rw [VR] at h; obtain ⟨u, _, h⟩ := h; rw [AE.closed]; exact VR.closed x u h
  | .agg cs, _, h => by rw [VR] at h; obtain ⟨us, _, h⟩ := h; rw [AE.closed]; exact VRs.closed cs us h
  | .tup cs, _, h => by rw [VR] at h; obtain ⟨us, _, h⟩ := h; rw [AE.closed]; exact VRs.closed cs us h
  | .isl _ _ cs, _, h => by rw [VR] at h; obtain ⟨_, _, us, _, _, _, h, _⟩ := h; rw [AE.closed]; exact VRs.closed cs us h
  | .rp cs, _, h => by rw [VR] at h; obtain ⟨_, _, us, _, h, _⟩ := h; rw [AE.closed]; exact VRs.closed cs us h
  | .fn _ cs, _, h => by rw [VR] at h; obtain ⟨us, _, h⟩ := h; rw [AE.closed]; exact VRs.closed cs us h
  | .ptr id _, _, h => by rw [VR] at h; rw [AE.closed]; simpa using h.1
  | .sl id _ _ _, _, h => by rw [VR] at h; obtain ⟨_, L, h, _⟩ := h; rw [AE.closed]; simpa using (List.getElem?_eq_some_iff.1 h).1
  | .rptr id _ _, _, h => by rw [VR] at h; obtain ⟨_, L, h, _⟩ := h; rw [AE.closed]; simpa using (List.getElem?_eq_some_iff.1 h).1
theorem VRs.closed : ∀ (cs : List A) (us : List Value), VRs w g cs us → AE.closed.closedL g.nb g.rl.length cs = true
  | [], _, _ => rfl
  | a :: r, _, h => by
    rw [VRs] at h
    obtain ⟨u, t, _, h1, h2⟩ := h
    rw [AE.closed.closedL, VR.closed a u h1, VRs.closed r t h2]
    rfl
end

/-- The state with fewer boxes and rows; the cells of the rows that go are fixed. -/
def cutG (g : Gh) (nb nr : Nat) : Gh := { g with nb := nb, rl := g.rl.take nr, F := fun b o => g.F b o ∨ ∃ id L, nr ≤ id ∧ g.rl[id]? = some L ∧ b = g.br id ∧ o < L }

theorem Lies.cut {nb nr b o : Nat} {us : List Value} (h : Lies w g b o us) : Lies w (cutG g nb nr) b o us := fun j u hj => ⟨.inl (h j u hj).1, (h j u hj).2⟩

mutual
theorem VR.cut {nb nr : Nat} : ∀ (a : A) (v : Value), AE.closed nb nr a = true → VR w g a v → VR w (cutG g nb nr) a v
  | .undef, _, _, _ => by rw [VR]; trivial
  | .int _ _, _, _, h => by rw [VR] at h ⊢; exact h
  | .bool _, _, _, h => by rw [VR] at h ⊢; exact h
  | .str _, _, _, h => by rw [VR] at h ⊢; exact h
  | .nilp, _, _, h => by rw [VR] at h ⊢; exact h
  | .nili, _, _, h => by rw [VR] at h ⊢; exact h
  | .nilf, _, _, h => by rw [VR] at h ⊢; exact h
  | .nils, _, _, h => by rw [VR] at h ⊢; exact h
  | .ifc t x, _, c, h => by rw [VR] at h ⊢; rw [AE.closed] at c; obtain ⟨u, e, h⟩ := h; exact ⟨u, e, VR.cut x u c h⟩
  | .agg cs, _, c, h => by rw [VR] at h ⊢; rw [AE.closed] at c; obtain ⟨u, e, h⟩ := h; exact ⟨u, e, VRs.cut cs u c h⟩
  | .tup cs, _, c, h => by rw [VR] at h ⊢; rw [AE.closed] at c; obtain ⟨u, e, h⟩ := h; exact ⟨u, e, VRs.cut cs u c h⟩
  | .isl full n cs, _, c, h => by
    rw [VR] at h ⊢
    rw [AE.closed] at c
    obtain ⟨a, k, us, e, k1, k2, k3, k4⟩ := h
    refine ⟨a, k, us, e, k1, k2, VRs.cut cs us c k3, fun hn => ?_⟩
    obtain ⟨b, o, e, l⟩ := k4 hn
    exact ⟨b, o, e, l.cut⟩
  | .rp cs, _, c, h => by
    rw [VR] at h ⊢
    rw [AE.closed] at c
    obtain ⟨b, o, us, e, k1, k2⟩ := h
    exact ⟨b, o, us, e, VRs.cut cs us c k1, k2.cut⟩
  | .ptr id off, _, c, h => by
    rw [VR] at h ⊢
    rw [AE.closed] at c
    exact ⟨by show id < nb; simpa using c, h.2⟩
  | .sl id ver off n, _, c, h => by
    rw [VR] at h ⊢
    rw [AE.closed] at c
    simp at c
    obtain ⟨k0, L, k1, k2⟩ := h
    exact ⟨k0, L, by simp only [cutG]; rw [List.getElem?_take, if_pos c]; exact k1, k2⟩
  | .rptr id ver off, _, c, h => by
    rw [VR] at h ⊢
    rw [AE.closed] at c
    simp at c
    obtain ⟨k0, L, k1, k2⟩ := h
    exact ⟨k0, L, by simp only [cutG]; rw [List.getElem?_take, if_pos c]; exact k1, k2⟩
  | .fn f cs, _, c, h => by rw [VR] at h ⊢; rw [AE.closed] at c; obtain ⟨u, e, h⟩ := h; exact ⟨u, e, VRs.cut cs u c h⟩
theorem VRs.cut {nb nr : Nat} : ∀ (cs : List A) (us : List Value), AE.closed.closedL nb nr cs = true → VRs w g cs us → VRs w (cutG g nb nr) cs us
  | [], _, _, h => by rw [VRs] at h ⊢; exact h
  | a :: r, _, c, h => by
    rw [VRs] at h ⊢
    rw [AE.closed.closedL] at c
    simp only [Bool.and_eq_true] at c
    obtain ⟨u, t, e, h1, h2⟩ := h
    exact ⟨u, t, e, VR.cut a u c.1 h1, VRs.cut r t c.2 h2⟩
end
end

section
variable {P : Program} {gl : Nat → A} {w0 : World} {g : Gh} {m : Mem} {w : World}
theorem SR.cut (hgl : ∀ n, closed 0 0 (gl n) = true) (h : SR P gl w0 g m w) (nb nr : Nat) (hnb : nb ≤ m.bx.length) (hnr : nr ≤ m.rw.length)
    (hb : ∀ i cs, i < nb → m.bx[i]? = some cs → cs.all (closed nb nr) = true) (hr : ∀ i r, i < nr → m.rw[i]? = some r → r.cs.all (closed nb nr) = true) :
    SR P gl w0 (cutG g nb nr) ⟨m.bx.take nb, m.rw.take nr⟩ w := by
  have hgn := h.nb
  have hrl := h.rlen
  have hlen : (cutG g nb nr).rl.length = nr := by simp only [cutG, List.length_take]; omega
  have hFb : ∀ i, i < g.nb → ∀ o, ¬ (cutG g nb nr).F (g.bb i) o := by
    rintro i hi o (hF | ⟨id, L, h1, h2, h3, _⟩)
    · exact (h.ownb i hi).2 o hF
    · exact h.dis i id hi (List.getElem?_eq_some_iff.1 h2).1 h3
  have hFr : ∀ i, i < nr → ∀ o, ¬ (cutG g nb nr).F (g.br i) o := by
    rintro i hi o (hF | ⟨id, L, h1, h2, h3, _⟩)
    · exact (h.ownr i (by omega)).2 o hF
    · have := h.injr i id (by omega) (List.getElem?_eq_some_iff.1 h2).1 h3
      omega
  refine ⟨h.below, ?_, ?_, fun i r hi => ?_, fun i cs hi => ?_, fun i r hi => ?_, fun i hi => ?_, fun i hi => ?_, fun i j hi hj => h.injb i j ?_ ?_, fun i j hi hj => h.injr i j ?_ ?_, fun i j hi hj => h.dis i j ?_ ?_, fun b o hb => .inl (h.old b o hb), ?_, fun n => ?_, h.dr⟩
  · simp [cutG]; omega
  · simp only [cutG, h.rl, List.map_take]
  · rw [List.getElem?_take] at hi
    split at hi
    · exact h.es i r hi
    · cases hi
  · rw [List.getElem?_take] at hi
    split at hi
    · rename_i hlt
      obtain ⟨us, e, h1, h2⟩ := h.bx i cs hi
      exact ⟨us, e, h1, VRs.cut cs _ (by rw [closedL_all]; exact hb i cs hlt hi) h2⟩
    · cases hi
  · rw [List.getElem?_take] at hi
    split at hi
    · rename_i hlt
      obtain ⟨us, ss, rest, h1, h2, h3, h4⟩ := h.rw i r hi
      exact ⟨us, ss, rest, h1, h2, h3, VRs.cut r.cs _ (by rw [closedL_all]; exact hr i r hlt hi) h4⟩
    · cases hi
  · have hi : i < nb := hi
    exact ⟨(h.ownb i (by omega)).1, hFb i (by omega)⟩
  · rw [hlen] at hi
    exact ⟨(h.ownr i (by omega)).1, hFr i hi⟩
  · have hi : i < nb := hi
    omega
  · have hj : j < nb := hj
    omega
  · rw [hlen] at hi
    omega
  · rw [hlen] at hj
    omega
  · have hi : i < nb := hi
    omega
  · rw [hlen] at hj
    omega
  · rintro b o (hF | ⟨id, L, h1, h2, rfl, _⟩)
    · exact h.lim b o hF
    · exact h.br_lt (List.getElem?_eq_some_iff.1 h2).1
  · exact VR.cut _ _ (closed_mono (Nat.zero_le _) (Nat.zero_le _) _ (hgl n)) (h.gl n)

theorem Loose.cut {g : Gh} {b : Nat} (h : Loose g b) (nb nr : Nat) (hn : nb ≤ g.nb) : Loose (cutG g nb nr) b := by
  refine ⟨fun i hi => h.1 i ?_, fun i hi => h.2.1 i ?_, fun o hF => ?_⟩
  · simp only [cutG] at hi
    omega
  · simp only [cutG, List.length_take] at hi
    omega
  · rcases hF with hF | ⟨id, L, _, h1, rfl, _⟩
    · exact h.2.2 o hF
    · exact h.2.1 id (List.getElem?_eq_some_iff.1 h1).1 rfl
/-- From what there was to what is left. -/
theorem Ext.cut {w' : World} {g' : Gh} (h : Ext w g w' g') : Ext w g w' (cutG g' g.nb g.rl.length) := by
  refine ⟨⟨fun b o hF => ⟨.inl (h.fx b o hF).1, (h.fx b o hF).2⟩, Nat.le_refl _, h.bb, fun i L hL => ?_⟩, fun b hb hl => ?_, h.sz⟩
  · obtain ⟨L', h1, h2⟩ := h.rl i L hL
    exact ⟨L', by simp only [cutG]; rw [List.getElem?_take, if_pos (List.getElem?_eq_some_iff.1 hL).1]; exact h1, h2⟩
  · obtain ⟨h1, h2⟩ := h.fr b hb hl
    exact ⟨h1, h2.cut _ _ h.nb⟩

/-! ### What a result becomes -/
section
variable (hs : SR P gl w0 g m w) (nb nr : Nat) {gg : Nat → Nat → Nat → Nat → A}
  (hgg : ∀ id ver off n v, nr ≤ id → VR w g (.sl id ver off n) v → VR w (cutG g nb nr) (gg id ver off n) v)
include hgg
mutual
theorem VR.er1 : ∀ (a : A) (v : Value), VR w g a v → VR w (cutG g nb nr) (AE.er1 nb nr gg a) v
  | .undef, _, _ => by show VR w (cutG g nb nr) .undef _; rw [VR]; trivial
  | .int _ _, _, h => by rw [VR] at h; show VR w (cutG g nb nr) (.int _ _) _; rw [VR]; exact h
  | .bool _, _, h => by rw [VR] at h; show VR w (cutG g nb nr) (.bool _) _; rw [VR]; exact h
  | .str _, _, h => by rw [VR] at h; show VR w (cutG g nb nr) (.str _) _; rw [VR]; exact h
  | .nilp, _, h => by rw [VR] at h; show VR w (cutG g nb nr) (.nilp) _; rw [VR]; exact h
  | .nili, _, h => by rw [VR] at h; show VR w (cutG g nb nr) (.nili) _; rw [VR]; exact h
  | .nilf, _, h => by rw [VR] at h; show VR w (cutG g nb nr) (.nilf) _; rw [VR]; exact h
  | .nils, _, h => by
    rw [VR] at h
    rw [AE.er1, VR]
    exact ⟨none, 0, [], h, by simp, Nat.le_refl _, VRs.mk_nil, by simp⟩
  | .ifc t x, _, h => by rw [VR] at h; rw [AE.er1, VR]; obtain ⟨u, e, h⟩ := h; exact ⟨u, e, VR.er1 x u h⟩
  | .agg cs, _, h => by rw [VR] at h; rw [AE.er1, VR]; obtain ⟨u, e, h⟩ := h; exact ⟨u, e, VRs.er1 cs u h⟩
  | .tup cs, _, h => by rw [VR] at h; rw [AE.er1, VR]; obtain ⟨u, e, h⟩ := h; exact ⟨u, e, VRs.er1 cs u h⟩
  | .isl full n cs, _, h => by
    rw [VR] at h
    rw [AE.er1, VR]
    obtain ⟨a, k, us, e, k1, k2, k3, k4⟩ := h
    refine ⟨a, k, us, e, by simp, k2, VRs.er1 cs us k3, fun hn => ?_⟩
    obtain ⟨b, o, e, l⟩ := k4 hn
    exact ⟨b, o, e, l.cut⟩
  | .rp cs, _, h => by
    rw [VR] at h
    rw [AE.er1, VR]
    obtain ⟨b, o, us, e, k1, k2⟩ := h
    exact ⟨b, o, us, e, VRs.er1 cs us k1, k2.cut⟩
  | .ptr id off, v, h => by
    rw [AE.er1]
    split
    · rename_i hi
      exact VR.cut _ v (by rw [AE.closed]; simpa using hi) h
    · rw [VR]; trivial
  | .rptr id ver off, v, h => by
    rw [AE.er1]
    split
    · rename_i hi
      exact VR.cut _ v (by rw [AE.closed]; simpa using hi) h
    · rw [VR]; trivial
  | .sl id ver off n, v, h => by
    rw [AE.er1]
    split
    · rename_i hi
      exact VR.cut _ v (by rw [AE.closed]; simpa using hi) h
    · rename_i hi
      exact hgg id ver off n v (by omega) h
  | .fn f cs, _, h => by rw [VR] at h; rw [AE.er1, VR]; obtain ⟨u, e, h⟩ := h; exact ⟨u, e, VRs.er1 cs u h⟩
theorem VRs.er1 : ∀ (cs : List A) (us : List Value), VRs w g cs us → VRs w (cutG g nb nr) (AE.er1.er1L nb nr gg cs) us
  | [], _, h => by rw [VRs] at h; rw [AE.er1.er1L, VRs]; exact h
  | a :: r, _, h => by
    rw [VRs] at h
    obtain ⟨u, t, e, h1, h2⟩ := h
    rw [AE.er1.er1L, VRs]
    exact ⟨u, t, e, VR.er1 a u h1, VRs.er1 r t h2⟩
end
end
theorem er1L_map (nb nr : Nat) (g) : ∀ cs : List A, er1.er1L nb nr g cs = cs.map (er1 nb nr g)
  | [] => rfl
  | a :: r => by rw [er1.er1L, er1L_map nb nr g r, List.map_cons]

theorem erG_sound (hs : SR P gl w0 g m w) (nb nr : Nat) : ∀ k, ∀ id ver off n v, nr ≤ id → VR w g (.sl id ver off n) v → VR w (cutG g nb nr) (erG P nb nr m.rw k id ver off n) v
  | 0, _, _, _, _, _, _, _ => by show VR w (cutG g nb nr) .undef _; rw [VR]; trivial
  | k + 1, id, ver, off, n, v, hid, h => by
    simp only [erG]
    cases hr : m.rw[id]? with
    | none => show VR w (cutG g nb nr) .undef _; rw [VR]; trivial
    | some r =>
      simp only
      split
      · rename_i hc
        rw [VR] at h
        obtain ⟨_, L, k1, k2, k3⟩ := h
        have hL : L = r.cs.length := by
          rw [hs.rl, List.getElem?_map, hr] at k1
          simpa using k1.symm
        obtain ⟨c, rfl, hnc, _⟩ := k3 (by omega)
        obtain ⟨us, ss, rest, h1, h2, h3, h4⟩ := hs.rw id r hr
        have hlen := h4.length
        rw [VR, ← er1L_map]
        refine ⟨_, c, (ss.drop off).take (n * szOf P r.el), rfl, by simp, hnc, VRs.er1 nb nr (erG_sound hs nb nr k) _ _ (h4.sub _ _), fun _ => ⟨_, _, rfl, fun j u hj => ⟨.inr ⟨id, L, hid, k1, rfl, ?_⟩, ?_⟩⟩⟩
        · have := (List.getElem?_eq_some_iff.1 hj).1
          simp at this
          omega
        · have hat := (At.of_block h1 h3).sub off (n * szOf P r.el)
          rw [Nat.zero_add] at hat
          exact hat j u hj
      · show VR w (cutG g nb nr) .undef _; rw [VR]; trivial

theorem er_sound (hs : SR P gl w0 g m w) (nb nr k : Nat) {a : A} {v : Value} (h : VR w g a v) : VR w (cutG g nb nr) (er P nb nr m.rw k a) v := VR.er1 nb nr (erG_sound hs nb nr k) a v h
end
end AE
end Go.Proofs.YthoomlenmgdebaaGreatDoor

/- THE EVALUATOR IS SOUND: what it answers, the model's call answers, in whatever world and on whatever tape. -/
set_option linter.unusedVariables false
set_option linter.unusedSimpArgs false
set_option linter.unusedSectionVars false
set_option maxHeartbeats 800000
namespace Go.Proofs.YthoomlenmgdebaaGreatDoor
namespace AE
open Go Go.RowKit

/-! ### Loops, round by round -/
/-- From the end of a round on. -/
def LoopArr (P : Program) (c : Code) (Q : Exit → Act → World → Prop) (a : Act) (w : World) : Prop :=
  ∀ (b : Frame) (k : List Item) (cs : List Frame), ∃ e a' w', Q e a' w' ∧ Arrives P (lone (b.at a (.inLoop c :: k)) cs w) b k cs e a' w'

theorem loop_round {P : Program} {c : Code} {Q : Exit → Act → World → Prop} {a : Act} {w : World} (h : c.wp P (Exit.then (LoopArr P c Q) Q) a w) (b : Frame) (k : List Item) (cs : List Frame) :
    ∃ e a' w', Q e a' w' ∧ Arrives P (lone (b.at a (.code c :: .inLoop c :: k)) cs w) b k cs e a' w' := by
  obtain ⟨e, a₁, w₁, hq, harr⟩ := h b (.inLoop c :: k) cs
  cases e with
  | normal =>
    obtain ⟨e₂, a₂, w₂, hq₂, harr₂⟩ := hq b k cs
    exact ⟨e₂, a₂, w₂, hq₂, .of_steps harr harr₂⟩
  | exit id => exact ⟨_, a₁, w₁, hq, .pass (x := .inLoop c) rfl (fun _ _ => .inl (by simp)) harr⟩
  | goto l => exact ⟨_, a₁, w₁, hq, .pass (x := .inLoop c) rfl (fun _ _ => .inl (by simp)) harr⟩
  | ret => exact ⟨_, a₁, w₁, hq, .pass (x := .inLoop c) rfl (fun _ _ => .inl (by simp)) harr⟩
  | panic ch => exact ⟨_, a₁, w₁, hq, .pass (x := .inLoop c) rfl (fun _ _ => .inl (by simp)) harr⟩
  | outgrown => exact ⟨_, a₁, w₁, hq, .pass (x := .inLoop c) rfl (fun _ _ => .inl (by simp)) harr⟩
theorem loop_arr {P : Program} {c : Code} {Q : Exit → Act → World → Prop} {a : Act} {w : World} (h : c.wp P (Exit.then (LoopArr P c Q) Q) a w) : LoopArr P c Q a w := fun b k cs =>
  let ⟨e, a', w', hq, harr⟩ := loop_round h b k cs
  ⟨e, a', w', hq, .of_steps (.one step_inLoop) harr⟩
theorem loop_wp {P : Program} {c : Code} {Q : Exit → Act → World → Prop} {a : Act} {w : World} (h : c.wp P (Exit.then (LoopArr P c Q) Q) a w) : (Code.loop c).wp P Q a w := fun b k cs =>
  let ⟨e, a', w', hq, harr⟩ := loop_round h b k cs
  ⟨e, a', w', hq, .of_steps (.one step_loop) harr⟩
theorem LoopArr.mono {P : Program} {c : Code} {Q Q' : Exit → Act → World → Prop} {a : Act} {w : World} (h : LoopArr P c Q a w) (hq : ∀ e a w, Q e a w → Q' e a w) : LoopArr P c Q' a w := fun b k cs =>
  let ⟨e, a', w', q, r⟩ := h b k cs
  ⟨e, a', w', hq _ _ _ q, r⟩

/-! ### The statements -/
def TmR (w : World) (g : Gh) (tm : List (Nat × A)) (tmps : Array Value) : Prop := ∀ t, VR w g (lk t tm) (tmps.getD t undef)

def ExR (w : World) (g : Gh) : Ex → Exit → Prop
  | .normal, .normal => True
  | .exit i, .exit j => i = j
  | .ret, .ret => True
  | .pan x, .panic chain => ∃ v, chain = [{ v, recovered := false }] ∧ VR w g x v
  | _, _ => False

def ResR (w : World) (g : Gh) : Res → Ending → Prop
  | .ret a, .returned v => VR w g a v
  | .pan a, .panicked chain => ∃ v, chain = [{ v, recovered := false }] ∧ VR w g a v
  | _, _ => False

section
variable (C : Cfg)

def Post (w0 w : World) (g : Gh) (nt : Nat) (df : List Deferred) (x : Ex × St) : Exit → Act → World → Prop := fun e a' w' =>
  ∃ g', SR C.P C.gl w0 g' x.2.m w' ∧ Ext w g w' g' ∧ TmR w' g' x.2.tm a'.tmps ∧ a'.tmps.size = nt ∧ a'.defers = df ∧ ExR w' g' x.1 e

def callable (P : Program) (f : FuncId) : Prop := ∃ fn c, P.funcs[f]? = some fn ∧ fn.body = some c ∧ fn.name ≠ "runtime.NumGoroutine"

def CallOk (f : FuncId) (args : List A) (m : Mem) (r : Res × Mem) : Prop :=
  callable C.P f ∧ ∀ w0 g w (vals : List Value), SR C.P C.gl w0 g m w → VRs w g args vals →
    Calls C.P f vals.toArray w fun e w' => ∃ g', SR C.P C.gl w0 g' r.2 w' ∧ Ext w g w' g' ∧ ResR w' g' r.1 e

/-- A part of a code. -/
def Sub : Code → Code → Prop
  | .seq x y, c => .seq x y = c ∨ Sub x c ∨ Sub y c
  | .cond k x y, c => .cond k x y = c ∨ Sub x c ∨ Sub y c
  | .block i x, c => .block i x = c ∨ Sub x c
  | .loop x, c => .loop x = c ∨ Sub x c
  | b, c => b = c
theorem Sub.refl (b : Code) : Sub b b := by cases b <;> simp [Sub]
theorem Sub.trans : ∀ {b c e : Code}, Sub b c → Sub c e → Sub b e
  | .seq x y, c, e, h, k => by
    rw [Sub] at h ⊢
    rcases h with rfl | h | h
    · rw [Sub] at k; exact k
    · exact .inr (.inl (Sub.trans h k))
    · exact .inr (.inr (Sub.trans h k))
  | .cond _ x y, c, e, h, k => by
    rw [Sub] at h ⊢
    rcases h with rfl | h | h
    · rw [Sub] at k; exact k
    · exact .inr (.inl (Sub.trans h k))
    · exact .inr (.inr (Sub.trans h k))
  | .block _ x, c, e, h, k => by
    rw [Sub] at h ⊢
    rcases h with rfl | h
    · rw [Sub] at k; exact k
    · exact .inr (Sub.trans h k)
  | .loop x, c, e, h, k => by
    rw [Sub] at h ⊢
    rcases h with rfl | h
    · rw [Sub] at k; exact k
    · exact .inr (Sub.trans h k)
  | .skip, c, e, h, k => by simp only [Sub] at h; subst h; exact k
  | .region _ _ _, c, e, h, k => by simp only [Sub] at h; subst h; exact k
  | .rangeFunc _ _ _ _, c, e, h, k => by simp only [Sub] at h; subst h; exact k
  | .exit _, c, e, h, k => by simp only [Sub] at h; subst h; exact k
  | .scope _, c, e, h, k => by simp only [Sub] at h; subst h; exact k
  | .label _, c, e, h, k => by simp only [Sub] at h; subst h; exact k
  | .goto _, c, e, h, k => by simp only [Sub] at h; subst h; exact k
  | .ret, c, e, h, k => by simp only [Sub] at h; subst h; exact k
  | .refuse _, c, e, h, k => by simp only [Sub] at h; subst h; exact k

/-- A part of a function's body. -/
def PartOf (f : FuncId) (c : Code) : Prop := ∃ fn b, C.P.funcs[f]? = some fn ∧ fn.body = some b ∧ Sub b c
variable {C} in
theorem PartOf.sub {f : FuncId} {c e : Code} (h : PartOf C f c) (k : Sub c e) : PartOf C f e := by
  obtain ⟨fn, b, h1, h2, h3⟩ := h
  exact ⟨fn, b, h1, h2, h3.trans k⟩

def CodeOk (f : FuncId) (nt : Nat) (c : Code) (s : St) (x : Ex × St) : Prop :=
  PartOf C f c → ∀ w0 g w (a : Act), a.tmps.size = nt → SR C.P C.gl w0 g s.m w → TmR w g s.tm a.tmps →
    c.wp C.P (Post C w0 w g nt a.defers x) a w ∧ ∀ b, c = .loop b → LoopArr C.P b (Post C w0 w g nt a.defers x) a w

/-- A body that may defer a call: what it ends with, the call ends with. -/
def RecOk (f : FuncId) (nt : Nat) (c : Code) (s : St) (x : Ex × St) : Prop :=
  PartOf C f c → ∀ (fn : Func) (R : Ending → World → Prop) w0 g w (a : Act), a.tmps.size = nt → a.defers = [] → SR C.P C.gl w0 g s.m w → TmR w g s.tm a.tmps →
    (∀ e g' w' tmps, SR C.P C.gl w0 g' x.2.m w' → Ext w g w' g' → TmR w' g' x.2.tm tmps → ExR w' g' x.1 e → bodyPostD C.P fn R e { tmps, defers := [] } w') →
    c.wp C.P (bodyPostD C.P fn R) a w

def OpsOk (f : FuncId) (nt : Nat) (all l : List Oper) (s : St) (x : Ex × St) : Prop :=
  ∀ w0 g w (a : Act) (ops : Array Oper) (k : Nat) (Q : Exit → Act → World → Prop), ops.toList = all → l = all.drop k → a.tmps.size = nt → SR C.P C.gl w0 g s.m w → TmR w g s.tm a.tmps →
    (∀ e a' w', Post C w0 w g nt a.defers x e a' w' → Q e a' w') → wpOps C.P ops Q (List.range' k l.length) a w

/-- What a program's oracles owe. -/
structure CfgOk : Prop where
  gl : ∀ n, closed 0 0 (C.gl n) = true
  mixed : C.P.follows .mixedOrders = true
  dok : ∀ f id ops, PartOf C f (.region id ops true) → C.ann.dok f id = true → drawOk ops (C.ann.draw f id) = true
  ext : ∀ f h, C.ext f = some h → ∀ args m r, h args m = some r → CallOk C f args m r
end

section
variable {C : Cfg} {w0 w w' : World} {g g' : Gh} {nt : Nat} {df : List Deferred} {x : Ex × St}
theorem TmR.mono {tm : List (Nat × A)} {tmps : Array Value} (h : TmR w g tm tmps) (e : Ext w g w' g') : TmR w' g' tm tmps := fun t => VR.mono e _ _ (h t)
theorem TmR.put {tm : List (Nat × A)} {a : Act} {d : Option Nat} {b : A} {v : Value} (h : TmR w g tm a.tmps) (hd : d.all (· < a.tmps.size) = true) (hv : VR w g b v) : TmR w g (AE.put d b tm) (a.put d v).tmps := by
  cases d with
  | none => exact h
  | some d =>
    simp only [Option.all_some, decide_eq_true_eq] at hd
    intro t
    simp only [AE.put, lk, Act.put]
    by_cases ht : d = t
    · subst ht
      rw [if_pos rfl]
      simp only [Array.getD_eq_getD_getElem?, Array.getElem?_setIfInBounds, if_pos hd, if_true, Option.getD_some]
      exact hv
    · rw [if_neg ht]
      have := h t
      simp only [Array.getD_eq_getD_getElem?, Array.getElem?_setIfInBounds, if_neg ht] at this ⊢
      exact this
theorem put_size (a : Act) (d : Option Nat) (v : Value) : (a.put d v).tmps.size = a.tmps.size := by cases d <;> simp [Act.put]
theorem put_defers (a : Act) (d : Option Nat) (v : Value) : (a.put d v).defers = a.defers := by cases d <;> rfl
theorem TmR.opd {tm : List (Nat × A)} {a : Act} (h : TmR w g tm a.tmps) (hgl : ∀ n, VR w g (C.gl n) (.pointer (some ⟨n, 0, none⟩))) : ∀ x, VR w g (AE.opd C.gl tm x) (a.eval x)
  | .tmp t => h t
  | .const v => VR_ofV v
  | .global n => hgl n
  | .func f => by
    show VR w g (.fn f []) (.func (.func f) #[] #[])
    rw [VR]
    exact ⟨[], rfl, VRs.mk_nil⟩
theorem lk_map (l : List Nat) (tm : List (Nat × A)) (t : Nat) : lk t (l.map fun t => (t, lk t tm)) = lk t tm ∨ lk t (l.map fun t => (t, lk t tm)) = .undef := by
  induction l with
  | nil => exact .inr rfl
  | cons u r ih =>
    simp only [List.map_cons, lk]
    by_cases h : u = t
    · subst h; rw [if_pos rfl]; exact .inl rfl
    · rw [if_neg h]; exact ih
theorem TmR.prune {tm : List (Nat × A)} {tmps : Array Value} (k : Option (List Nat)) (h : TmR w g tm tmps) : TmR w g (AE.prune k tm) tmps := by
  cases k with
  | none => exact h
  | some l =>
    intro t
    rcases lk_map l tm t with e | e
    · show VR w g (lk t (l.map fun t => (t, lk t tm))) _
      rw [e]; exact h t
    · show VR w g (lk t (l.map fun t => (t, lk t tm))) _
      rw [e, VR]; trivial
theorem Post.ext (e : Ext w g w' g') {ex : Exit} {a : Act} {W : World} (h : Post C w0 w' g' nt df x ex a W) : Post C w0 w g nt df x ex a W := by
  obtain ⟨g2, h1, h2, h3⟩ := h
  exact ⟨g2, h1, e.trans h2, h3⟩

theorem want_sound {o : Oper} {all : List Oper} {ops : Array Oper} (ho : ops.toList = all) {tm : List (Nat × A)} {tmps : Array Value} {b : Bool} (h : wantA o all tm = some b) (ht : TmR w g tm tmps) : Region.wanted o (yielded ops tmps) = b := by
  unfold wantA at h
  unfold Region.wanted
  cases hg : o.guard with
  | none => simp only [hg, Option.some.injEq] at h; exact h
  | some p =>
    obtain ⟨j, want⟩ := p
    simp only [hg] at h ⊢
    have hj : ops[j]? = all[j]? := by rw [← ho]; simp
    unfold yielded
    rw [hj]
    cases hd : (all[j]?).bind (·.dst) with
    | none =>
      simp only [hd, Option.some.injEq] at h
      subst h
      simp
    | some d =>
      simp only [hd] at h
      have hv := ht d
      unfold guardA at h
      split at h
      · rename_i c hc
        rw [hc, VR] at hv
        have hsome : tmps[d]? = some (.bool c) := by
          rw [Array.getD_eq_getD_getElem?] at hv
          cases hq : tmps[d]? with
          | none => rw [hq] at hv; cases hv
          | some u => rw [hq] at hv; simp at hv; rw [hv]
        simp only [Option.some.injEq] at h
        rw [← h]
        simp [hsome]
      · rename_i hc
        rw [hc, VR] at hv
        obtain ⟨us, hu, hn⟩ := hv
        rw [VRs.nil_iff] at hn
        subst hn
        simp only [Option.some.injEq] at h
        subst h
        have : ∀ c, tmps[d]? ≠ some (.bool c) := by
          intro c hc
          rw [Array.getD_eq_getD_getElem?, hc] at hu
          cases hu
        simp only [Option.bind_some]
        cases hq : tmps[d]? with
        | none => simp
        | some u =>
          cases u <;> first | (exfalso; exact this _ hq) | simp
      · cases h

/-- A call of a function's value. -/
theorem run_call {P : Program} {o : Oper} {gop : Operand} {args : Array Operand} {argTypes : Array TypeId} (ho : o.op = .call { callee := .value gop, args, argTypes }) {ρ : Operand → Value} {h : FuncId} {us : List Value} (hg : ρ gop = .func (.func h) #[] us.toArray) (hc : callable P h) :
    (execOp ρ o).run P w = .ok (.enter h (args.map ρ ++ us.toArray)) w := by
  obtain ⟨fn, c, h1, h2, h3⟩ := hc
  have h3' : (fn.name == "runtime.NumGoroutine") = false := by simpa using h3
  simp only [execOp, ho, resolve, hg, Deferred.ofValue, Sem.run_bind, Sem.run_pure, Result.andThen_ok, invoke, callFunc, run_program, h1, h3', Bool.false_eq_true, if_false, h2, Option.isNone_some, Array.empty_append]
end
end AE
end Go.Proofs.YthoomlenmgdebaaGreatDoor

/- THE EVALUATOR IS SOUND. -/
set_option linter.unusedVariables false
set_option linter.unusedSimpArgs false
set_option linter.unusedSectionVars false
set_option maxHeartbeats 1600000
namespace Go.Proofs.YthoomlenmgdebaaGreatDoor
namespace AE
open Go Go.RowKit

section
variable {C : Cfg}

theorem ops_step {ops : Array Oper} {all rest : List Oper} {o : Oper} {k : Nat} (ho : ops.toList = all) (hl : o :: rest = all.drop k) : ops[k]? = some o ∧ rest = all.drop (k + 1) := by
  have h1 : all[k]? = some o := by
    have : (all.drop k)[0]? = some o := by rw [← hl]; rfl
    rwa [List.getElem?_drop, Nat.add_zero] at this
  refine ⟨by rw [← Array.getElem?_toList, ho]; exact h1, ?_⟩
  rw [← List.drop_drop, ← hl]
  rfl

/-- One operation that hands its value on. -/
theorem op_next {w0 w : World} {g : Gh} {nt : Nat} {a : Act} {s : St} {ops : Array Oper} {k n : Nat} {o : Oper} {b : A} {m' : Mem} {Q : Exit → Act → World → Prop}
    (ho : ops[k]? = some o) (hd : o.dst.all (· < nt) = true) (hw : Region.wanted o (yielded ops a.tmps) = true) (hsz : a.tmps.size = nt) (ht : TmR w g s.tm a.tmps)
    (hg : Good C.P C.gl w0 w g m' b ((execOp a.eval o).run C.P w))
    (hn : ∀ g' w' (a' : Act), Ext w g w' g' → a'.tmps.size = nt → a'.defers = a.defers → SR C.P C.gl w0 g' m' w' → TmR w' g' (put o.dst b s.tm) a'.tmps → wpOps C.P ops Q (List.range' (k + 1) n) a' w') :
    wpOps C.P ops Q (k :: List.range' (k + 1) n) a w := by
  obtain ⟨v, w', g', hr, hv, hs', he⟩ := hg
  simp only [wpOps, ho, hw, if_true]
  refine .inl ?_
  have hput : o.dst.all (· < a.tmps.size) = true := by rw [hsz]; exact hd
  have hnext := hn g' w' (a.put o.dst v) he (by rw [put_size, hsz]) (put_defers _ _ _) hs' ((ht.mono he).put hput hv)
  unfold Oper.wp
  rcases hr with hr | ⟨hr, rfl⟩
  · rw [hr]; exact hnext
  · rw [hr]; exact hnext

theorem callK_sound {evC : FuncId → List A → Mem → Option (Res × Mem)} {evO : FuncId → Nat → List Oper → List Oper → St → Option (Ex × St)}
    (hc : ∀ f args m r, evC f args m = some r → CallOk C f args m r) (hoo : ∀ f nt all l s x, evO f nt all l s = some x → OpsOk C f nt all l s x)
    {w0 w : World} {g : Gh} {f nt : Nat} {a : Act} {s : St} {x : Ex × St} {ops : Array Oper} {k : Nat} {all rest : List Oper} {o : Oper} {Q : Exit → Act → World → Prop} {gop : Operand} {args : Array Operand} {argTypes : Array TypeId}
    (hop : o.op = .call { callee := .value gop, args, argTypes }) (hall : ops.toList = all) (hrest : rest = all.drop (k + 1))
    (ho : ops[k]? = some o) (hd : o.dst.all (· < nt) = true) (hw : Region.wanted o (yielded ops a.tmps) = true) (hsz : a.tmps.size = nt) (hs : SR C.P C.gl w0 g s.m w) (ht : TmR w g s.tm a.tmps)
    {h : FuncId} {caps : List A} (hfn : opd C.gl s.tm gop = .fn h caps)
    (hev : ((evC h (args.toList.map (opd C.gl s.tm) ++ caps) s.m).bind fun y => match y.1 with
        | .ret b => evO f nt all rest ⟨put o.dst b s.tm, y.2⟩
        | .pan b => some (.pan b, ⟨s.tm, y.2⟩)) = some x)
    (hQ : ∀ e a' w', Post C w0 w g nt a.defers x e a' w' → Q e a' w') : wpOps C.P ops Q (k :: List.range' (k + 1) rest.length) a w := by
  obtain ⟨⟨r, m'⟩, h1, h2⟩ := Option.bind_eq_some_iff.1 hev
  obtain ⟨hcb, hcall⟩ := hc _ _ _ _ h1
  have hopd := ht.opd (C := C) hs.gl
  have hg := hopd gop
  rw [hfn, VR] at hg
  obtain ⟨us, hgv, hus⟩ := hg
  simp only [wpOps, ho, hw, if_true]
  refine .inl ?_
  unfold Oper.wp
  rw [run_call hop hgv hcb, Oper.upon_enter]
  have hargs : VRs w g (args.toList.map (opd C.gl s.tm) ++ caps) (args.toList.map a.eval ++ us) := (VRs_map hopd).append hus
  have := hcall w0 g w _ hs hargs
  rw [show (args.toList.map a.eval ++ us).toArray = args.map a.eval ++ us.toArray from by
    apply Array.ext'; simp] at this
  refine this.mono fun e w' hR => ?_
  obtain ⟨g', hs', he, hres⟩ := hR
  cases r with
  | ret b =>
    cases e with
    | returned v =>
      have hput : o.dst.all (· < a.tmps.size) = true := by rw [hsz]; exact hd
      have hk := hoo _ _ _ _ _ _ h2 w0 g' w' (a.put o.dst v) ops (k + 1) Q hall hrest (by rw [put_size, hsz]) hs' ((ht.mono he).put hput hres)
        (fun e a' W hp => hQ e a' W (by rw [put_defers] at hp; exact Post.ext he hp))
      exact hk
    | panicked ch => exact hres.elim
    | outgrown => exact hres.elim
  | pan b =>
    simp only [Option.some.injEq] at h2
    subst h2
    cases e with
    | returned v => exact hres.elim
    | panicked ch => exact hQ _ _ _ ⟨g', hs', he, ht.mono he, hsz, rfl, hres⟩
    | outgrown => exact hres.elim

theorem ops_sound {evC : FuncId → List A → Mem → Option (Res × Mem)} {evO : FuncId → Nat → List Oper → List Oper → St → Option (Ex × St)}
    (hc : ∀ f args m r, evC f args m = some r → CallOk C f args m r) (hoo : ∀ f nt all l s x, evO f nt all l s = some x → OpsOk C f nt all l s x)
    (f nt : Nat) (all l : List Oper) (s : St) (x : Ex × St)
    (h : (match l with
      | [] => some (Ex.normal, s)
      | o :: rest =>
        match o.dst.all (· < nt), wantA o all s.tm with
        | true, some true =>
          match o.op with
          | .panic x => (panA (opd C.gl s.tm x)).map fun a => (.pan a, s)
          | .call { callee := .value g, args, argTypes } =>
            match opd C.gl s.tm g with
            | .fn h caps => (do
              let x ← evC h (args.toList.map (opd C.gl s.tm) ++ caps) s.m
              match x.1 with
                | .ret a => evO f nt all rest ⟨put o.dst a s.tm, x.2⟩
                | .pan a => some (.pan a, ⟨s.tm, x.2⟩))
            | _ => none
          | .convert t u x =>
            match strM C.P t u (opd C.gl s.tm x) s.m with
            | some a => evO f nt all rest ⟨put o.dst a s.tm, s.m⟩
            | none => (do
              let x ← opA C.P (.convert t u x) (opd C.gl s.tm) s.m
              evO f nt all rest ⟨put o.dst x.1 s.tm, x.2⟩)
          | op => (do
            let x ← opA C.P op (opd C.gl s.tm) s.m
            evO f nt all rest ⟨put o.dst x.1 s.tm, x.2⟩)
        | true, some false => evO f nt all rest ⟨put o.dst (.tup []) s.tm, s.m⟩
        | _, _ => none) = some x) : OpsOk C f nt all l s x := by
  intro w0 g w a ops k Q hall hl hsz hs ht hQ
  cases l with
  | nil =>
    simp only [Option.some.injEq] at h
    subst h
    exact hQ _ _ _ ⟨g, hs, Ext.refl _ _, ht, hsz, rfl, trivial⟩
  | cons o rest =>
    obtain ⟨hok, hrest⟩ := ops_step hall hl
    have hlen : List.range' k (o :: rest).length = k :: List.range' (k + 1) rest.length := by simp [List.range'_succ]
    rw [hlen]
    simp only at h
    cases hd : o.dst.all (· < nt) with
    | false => simp [hd] at h
    | true =>
    cases hw : wantA o all s.tm with
    | none => simp [hd, hw] at h
    | some b =>
    have hwant := want_sound hall hw ht
    simp only [hd, hw] at h
    cases b with
    | false =>
      simp only at h
      simp only [wpOps, hok, hwant, Bool.false_eq_true, if_false]
      have hput : o.dst.all (· < a.tmps.size) = true := by rw [hsz]; exact hd
      exact hoo _ _ _ _ _ _ h w0 g w (a.put o.dst undef) ops (k + 1) Q hall hrest (by rw [put_size, hsz]) hs (ht.put hput (by rw [VR]; exact ⟨[], rfl, VRs.mk_nil⟩))
        (fun e a' W hp => hQ e a' W (by rw [put_defers] at hp; exact hp))
    | true =>
      simp only at h
      have hopd := ht.opd (C := C) hs.gl
      split at h
      · rename_i p hop
        obtain ⟨b, hb, rfl⟩ := Option.map_eq_some_iff.1 h
        unfold panA at hb
        split at hb
        · rename_i t y hv
          simp only [Option.some.injEq] at hb
          subst hb
          have hp := hopd p
          rw [hv] at hp
          have hp' := hp
          rw [VR] at hp
          obtain ⟨u, hu, _⟩ := hp
          simp only [wpOps, hok, hwant, if_true]
          refine .inl ?_
          unfold Oper.wp
          have hr : (execOp a.eval o).run C.P w = .halt (.panic (.iface t u)) w := by
            simp only [execOp, hop, hu, Instr.panic, Sem.run_bind, run_goPanic, Result.andThen_halt]
          rw [hr, Oper.upon_panic]
          exact hQ _ _ _ ⟨g, hs, Ext.refl _ _, ht, hsz, rfl, _, rfl, by rw [← hu]; exact hp'⟩
        · cases hb
      · rename_i gop args argTypes hop
        cases hfn : opd C.gl s.tm gop <;> simp only [hfn, reduceCtorEq] at h
        exact callK_sound hc hoo hop hall hrest hok hd hwant hsz hs ht hfn h hQ
      · rename_i t u y hop
        cases hst : strM C.P t u (opd C.gl s.tm y) s.m with
        | some b =>
          rw [hst] at h
          obtain ⟨v, hv1, hv2⟩ := strM_sound hs hst (hopd y)
          exact op_next hok hd hwant hsz ht (Good.pure hs hv2 (by simp only [execOp, hop, Sem.run_bind, hv1, Result.andThen_ok, Sem.run_pure])) fun g' w' a' he hsz' hdf hs' ht' =>
            hoo _ _ _ _ _ _ h w0 g' w' a' ops (k + 1) Q hall hrest hsz' hs' ht' (fun e a'' W hp => hQ e a'' W (by rw [hdf] at hp; exact Post.ext he hp))
        | none =>
          rw [hst] at h
          obtain ⟨⟨b, m'⟩, h1, h2⟩ := Option.bind_eq_some_iff.1 h
          rw [← hop] at h1
          have hgood := opA_sound hs o h1 hopd
          exact op_next hok hd hwant hsz ht hgood fun g' w' a' he hsz' hdf hs' ht' =>
            hoo _ _ _ _ _ _ h2 w0 g' w' a' ops (k + 1) Q hall hrest hsz' hs' ht' (fun e a'' W hp => hQ e a'' W (by rw [hdf] at hp; exact Post.ext he hp))
      · rename_i op hop1 hop2 hop3
        obtain ⟨⟨b, m'⟩, h1, h2⟩ := Option.bind_eq_some_iff.1 h
        have hgood := opA_sound hs o h1 hopd
        exact op_next hok hd hwant hsz ht hgood fun g' w' a' he hsz' hdf hs' ht' =>
          hoo _ _ _ _ _ _ h2 w0 g' w' a' ops (k + 1) Q hall hrest hsz' hs' ht' (fun e a'' W hp => hQ e a'' W (by rw [hdf] at hp; exact Post.ext he hp))

theorem cutRows_sound (hC : CfgOk C) {m0 m : Mem} {w0 w w' : World} {g g' : Gh} (c2 : m0.bx.length ≤ m.bx.length)
    (c3 : ∀ i, i < m0.bx.length → m.bx[i]? = m0.bx[i]? ∨ ∃ cs, m.bx[i]? = some cs ∧ cs.all (closed m0.bx.length m.rw.length) = true)
    (c4 : ∀ i, i < m.rw.length → m.rw[i]? = m0.rw[i]? ∨ ∃ r, m.rw[i]? = some r ∧ r.cs.all (closed m0.bx.length m.rw.length) = true)
    (hs0 : SR C.P C.gl w0 g m0 w) (hs : SR C.P C.gl w0 g' m w') (he : Ext w g w' g') :
    SR C.P C.gl w0 (cutG g' m0.bx.length m.rw.length) ⟨m.bx.take m0.bx.length, m.rw⟩ w' ∧ Ext w g w' (cutG g' m0.bx.length m.rw.length) := by
  have hlen := hs.rlen
  have hlen0 := hs0.rlen
  have hle : m0.rw.length ≤ m.rw.length := by
    rcases Nat.eq_zero_or_pos m0.rw.length with q | q
    · omega
    · have hlt : m0.rw.length - 1 < g.rl.length := by omega
      obtain ⟨L', h1, _⟩ := he.rl _ _ (List.getElem?_eq_getElem hlt)
      have := (List.getElem?_eq_some_iff.1 h1).1
      omega
  have hcut := hs.cut hC.gl m0.bx.length m.rw.length c2 (Nat.le_refl _)
    (fun i cs hi hq => by
      rcases c3 i hi with e | ⟨ds, e, hd⟩
      · rw [hq] at e
        obtain ⟨us, ty, _, hv⟩ := hs0.bx i cs e.symm
        have := VRs.closed _ _ hv
        rw [hs0.nb, hlen0, closedL_all] at this
        rw [← closedL_all] at this ⊢
        exact closedL_mono (Nat.le_refl _) hle _ this
      · rw [hq] at e
        cases e
        exact hd)
    (fun i r hi hq => by
      rcases c4 i hi with e | ⟨r', e, hd⟩
      · rw [hq] at e
        obtain ⟨us, ss, rest, _, _, _, hv⟩ := hs0.rw i r e.symm
        have := VRs.closed _ _ hv
        rw [hs0.nb, hlen0] at this
        rw [← closedL_all]
        exact closedL_mono (Nat.le_refl _) hle _ this
      · rw [hq] at e
        cases e
        exact hd)
  rw [List.take_length] at hcut
  refine ⟨hcut, ⟨⟨fun b o hF => ⟨.inl (he.fx b o hF).1, (he.fx b o hF).2⟩, by simp [cutG, hs0.nb], he.bb, fun i L hL => ?_⟩, fun b hb hl => ?_, he.sz⟩⟩
  · obtain ⟨L', h1, h2⟩ := he.rl i L hL
    have := (List.getElem?_eq_some_iff.1 h1).1
    exact ⟨L', by simp only [cutG]; rw [List.getElem?_take, if_pos (by omega)]; exact h1, h2⟩
  · obtain ⟨h1, h2⟩ := he.fr b hb hl
    exact ⟨h1, h2.cut _ _ (by rw [hs.nb]; exact c2)⟩

theorem endRound_sound (hC : CfgOk C) {k : Option (List Nat)} {s s1 : St} {m0 : Mem} {w0 w w' : World} {g g' : Gh} {tmps : Array Value} (h : endRound k m0 s = some s1) (hs0 : SR C.P C.gl w0 g m0 w) (hs : SR C.P C.gl w0 g' s.m w') (he : Ext w g w' g') (ht : TmR w' g' s.tm tmps) :
    ∃ g'', SR C.P C.gl w0 g'' s1.m w' ∧ Ext w g w' g'' ∧ TmR w' g'' s1.tm tmps := by
  unfold endRound at h
  cases k with
  | none =>
    simp only [Option.some.injEq] at h
    subst h
    exact ⟨g', hs, he, ht⟩
  | some l =>
    simp only at h
    split at h
    · rename_i hc
      obtain ⟨c1, c2, c3, c4⟩ := hc
      simp only [Option.some.injEq] at h
      subst h
      have hlen := hs.rlen
      have hlen0 := hs0.rlen
      have hle : m0.rw.length ≤ s.m.rw.length := by
        rcases Nat.eq_zero_or_pos m0.rw.length with q | q
        · omega
        · have hlt : m0.rw.length - 1 < g.rl.length := by omega
          obtain ⟨L', h1, _⟩ := he.rl _ _ (List.getElem?_eq_getElem hlt)
          have := (List.getElem?_eq_some_iff.1 h1).1
          omega
      have hcut := hs.cut hC.gl m0.bx.length s.m.rw.length c2 (Nat.le_refl _)
        (fun i cs hi hq => by
          rcases c3 i hi with e | ⟨ds, e, hd⟩
          · rw [hq] at e
            obtain ⟨us, ty, _, hv⟩ := hs0.bx i cs e.symm
            have := VRs.closed _ _ hv
            rw [hs0.nb, hlen0, closedL_all] at this
            rw [← closedL_all] at this ⊢
            exact closedL_mono (Nat.le_refl _) hle _ this
          · rw [hq] at e
            cases e
            exact hd)
        (fun i r hi hq => by
          rcases c4 i hi with e | ⟨r', e, hd⟩
          · rw [hq] at e
            obtain ⟨us, ss, rest, _, _, _, hv⟩ := hs0.rw i r e.symm
            have := VRs.closed _ _ hv
            rw [hs0.nb, hlen0] at this
            rw [← closedL_all]
            exact closedL_mono (Nat.le_refl _) hle _ this
          · rw [hq] at e
            cases e
            exact hd)
      rw [List.take_length] at hcut
      refine ⟨_, hcut, ?_, ?_⟩
      · refine ⟨⟨fun b o hF => ⟨.inl (he.fx b o hF).1, (he.fx b o hF).2⟩, by simp [cutG, hs0.nb], he.bb, fun i L hL => ?_⟩, fun b hb hl => ?_, he.sz⟩
        · obtain ⟨L', h1, h2⟩ := he.rl i L hL
          have := (List.getElem?_eq_some_iff.1 h1).1
          exact ⟨L', by simp only [cutG]; rw [List.getElem?_take, if_pos (by omega)]; exact h1, h2⟩
        · obtain ⟨h1, h2⟩ := he.fr b hb hl
          exact ⟨h1, h2.cut _ _ (by rw [hs.nb]; exact c2)⟩
      · intro t
        show VR w' _ (lk t (l.map fun t => (t, lk t s.tm))) _
        by_cases hin : t ∈ l
        · rcases lk_map l s.tm t with e | e
          · rw [e]
            exact VR.cut _ _ (c1 t hin) (ht t)
          · rw [e, VR]; trivial
        · have : lk t (l.map fun t => (t, lk t s.tm)) = .undef := by
            clear c1
            induction l with
            | nil => rfl
            | cons u r ih =>
              simp only [List.mem_cons, not_or] at hin
              simp only [List.map_cons, lk]
              rw [if_neg (Ne.symm hin.1)]
              exact ih hin.2
          rw [this, VR]; trivial
    · cases h

theorem leave_sound (hC : CfgOk C) {keep : Bool} {m0 m : Mem} {r : Res} {x : Res × Mem} {w0 w w' : World} {g g' : Gh} {e : Ending} (h : leave C.P keep m0 r m = some x) (hs0 : SR C.P C.gl w0 g m0 w) (hs : SR C.P C.gl w0 g' m w') (he : Ext w g w' g') (hr : ResR w' g' r e) :
    ∃ g'', SR C.P C.gl w0 g'' x.2 w' ∧ Ext w g w' g'' ∧ ResR w' g'' x.1 e := by
  unfold leave at h
  split at h
  · split at h
    · rename_i hk
      obtain ⟨⟨c2, c3, c4⟩, c1⟩ := hk
      simp only [Option.some.injEq] at h
      subst h
      obtain ⟨q1, q2⟩ := cutRows_sound hC c2 c3 c4 hs0 hs he
      refine ⟨_, q1, q2, ?_⟩
      cases r with
      | ret a =>
        cases e with
        | returned v => exact VR.cut _ _ c1 hr
        | panicked ch => exact hr.elim
        | outgrown => exact hr.elim
      | pan a =>
        cases e with
        | returned v => exact hr.elim
        | panicked ch =>
          obtain ⟨v, hv, hr⟩ := hr
          exact ⟨v, hv, VR.cut _ _ c1 hr⟩
        | outgrown => exact hr.elim
    · cases h
  · split at h
    · rename_i hk
      obtain ⟨k1, k2, k3, k4⟩ := hk
      simp only [Option.some.injEq] at h
      subst h
      have hlen0 := hs0.rlen
      have hcut := hs.cut hC.gl m0.bx.length m0.rw.length k1 k2
        (fun i cs hi hq => by
          rcases k3 i hi with e | ⟨ds, e, hd⟩
          · rw [hq] at e
            obtain ⟨us, ty, _, hv⟩ := hs0.bx i cs e.symm
            have := VRs.closed _ _ hv
            rwa [hs0.nb, hlen0, closedL_all] at this
          · rw [hq] at e
            cases e
            exact hd)
        (fun i r hi hq => by
          rcases k4 i hi with e | ⟨r', e, hd⟩
          · rw [hq] at e
            obtain ⟨us, ss, rest, _, _, _, hv⟩ := hs0.rw i r e.symm
            have := VRs.closed _ _ hv
            rwa [hs0.nb, hlen0, closedL_all] at this
          · rw [hq] at e
            cases e
            exact hd)
      have hext := he.cut
      rw [hs0.nb, hlen0] at hext
      refine ⟨_, hcut, hext, ?_⟩
      cases r with
      | ret a =>
        cases e with
        | returned v => exact er_sound hs _ _ _ hr
        | panicked ch => exact hr.elim
        | outgrown => exact hr.elim
      | pan a =>
        cases e with
        | returned v => exact hr.elim
        | panicked ch =>
          obtain ⟨v, hv, hr⟩ := hr
          exact ⟨v, hv, er_sound hs _ _ _ hr⟩
        | outgrown => exact hr.elim
    · cases h
end
end AE
end Go.Proofs.YthoomlenmgdebaaGreatDoor

/- Regions that draw their order: whatever order the tape draws, what the evaluator answers in the text's order holds. -/
set_option linter.unusedVariables false
set_option linter.unusedSimpArgs false
set_option linter.unusedSectionVars false
set_option maxHeartbeats 1600000
namespace Go.Proofs.YthoomlenmgdebaaGreatDoor
namespace AE
open Go Go.RowKit

/-! ### The orders that may be drawn -/
/-- A list of operations, each behind those that it names, all of them. -/
def Topo (ops : Array Oper) : (Nat → Bool) → List Nat → Prop
  | L, [] => ∀ i, i < ops.size → L i = true
  | L, i :: r => i < ops.size ∧ L i = false ∧ (∀ o, ops[i]? = some o → ∀ e ∈ o.after.toList, Region.binds .any e = true → L e.on = true) ∧ Topo ops (fun j => if j = i then true else L j) r

theorem Topo.congr {ops : Array Oper} : ∀ {l : List Nat} {L L' : Nat → Bool}, (∀ i, i < ops.size → L i = L' i) → (∀ (i : Nat) (o : Oper), ops[i]? = some o → ∀ e ∈ o.after.toList, Region.binds .any e = true → e.on < ops.size) → Topo ops L l → Topo ops L' l
  | [], L, L', h, _, k => fun i hi => by rw [← h i hi]; exact k i hi
  | i :: r, L, L', h, hb, ⟨k1, k2, k3, k4⟩ => by
    refine ⟨k1, by rw [← h i k1]; exact k2, fun o ho e he hbe => ?_, k4.congr (fun j hj => ?_) hb⟩
    · rw [← h _ (hb i o ho e he hbe)]; exact k3 o ho e he hbe
    · show (if j = i then true else L j) = (if j = i then true else L' j)
      rw [h j hj]

def unlisted (L : Array Bool) (n : Nat) : Nat := ((List.range n).filter fun i => !L.getD i true).length

theorem unlisted_set {L : Array Bool} {n i : Nat} (hi : i < n) (hs : L.size = n) (hL : L.getD i true = false) : unlisted (L.setIfInBounds i true) n + 1 = unlisted L n := by
  unfold unlisted
  have key : ∀ l : List Nat, l.Nodup → i ∈ l → (l.filter fun j => !(L.setIfInBounds i true).getD j true).length + 1 = (l.filter fun j => !L.getD j true).length := by
    intro l
    induction l with
    | nil => intro _ h; simp at h
    | cons j r ih =>
      intro hnd hmem
      have hnd' := List.nodup_cons.1 hnd
      by_cases hji : j = i
      · subst hji
        have h1 : (L.setIfInBounds j true).getD j true = true := by
          simp [Array.getD_eq_getD_getElem?, Array.getElem?_setIfInBounds]
          split <;> simp
        have h2 : ∀ k ∈ r, (L.setIfInBounds j true).getD k true = L.getD k true := by
          intro k hk
          have : j ≠ k := fun e => hnd'.1 (e ▸ hk)
          simp [Array.getD_eq_getD_getElem?, Array.getElem?_setIfInBounds, this]
        have h3 : (r.filter fun k => !(L.setIfInBounds j true).getD k true) = r.filter fun k => !L.getD k true := List.filter_congr fun k hk => by rw [h2 k hk]
        simp only [List.filter_cons, h1, hL, h3]
        simp
      · have hm : i ∈ r := by
          rcases List.mem_cons.1 hmem with e | e
          · exact absurd e.symm hji
          · exact e
        have h1 : (L.setIfInBounds i true).getD j true = L.getD j true := by
          have : i ≠ j := fun e => hji e.symm
          simp [Array.getD_eq_getD_getElem?, Array.getElem?_setIfInBounds, this]
        have := ih hnd'.2 hm
        simp only [List.filter_cons, h1]
        split
        · simp only [List.length_cons]; omega
        · exact this
  exact key (List.range n) List.nodup_range (List.mem_range.2 hi)

theorem linearise_go (ops : Array Oper) (hlt : ∀ i o, ops[i]? = some o → ∀ e ∈ o.after.toList, Region.binds .any e = true → e.on < i) :
    ∀ (fuel t : Nat) (L : Array Bool) (acc : List Nat), L.size = ops.size → unlisted L ops.size = fuel → ∃ l, Region.linearise.go .any ops fuel t L acc = acc.reverse ++ l ∧ Topo ops (fun i => L.getD i true) l
  | 0, t, L, acc, hs, hu => by
    refine ⟨[], by simp [Region.linearise.go], fun i hi => ?_⟩
    unfold unlisted at hu
    have : (List.range ops.size).filter (fun i => !L.getD i true) = [] := List.eq_nil_of_length_eq_zero hu
    have := List.filter_eq_nil_iff.1 this i (List.mem_range.2 hi)
    simpa using this
  | fuel + 1, t, L, acc, hs, hu => by
    -- the ready ones
    let rs := (List.range ops.size).filter fun i => !L.getD i true && ((ops[i]?).map (·.after.all fun e => !Region.binds .any e || L.getD e.on false)).getD false
    have hne : rs ≠ [] := by
      -- the least unlisted one is ready
      have hpos : (List.range ops.size).filter (fun i => !L.getD i true) ≠ [] := by
        intro h
        unfold unlisted at hu
        rw [h] at hu
        simp at hu
      obtain ⟨i0, hi0⟩ := List.exists_mem_of_ne_nil _ hpos
      rw [List.mem_filter, List.mem_range] at hi0
      have hmin : ∀ i, i < ops.size → (!L.getD i true) = true → ∃ j, j < ops.size ∧ (!L.getD j true) = true ∧ ∀ k, k < j → L.getD k true = true := by
        intro i
        induction i using Nat.strongRecOn with
        | _ i ih =>
          intro hi hL
          by_cases h : ∀ k, k < i → L.getD k true = true
          · exact ⟨i, hi, hL, h⟩
          · simp only [Classical.not_forall] at h
            obtain ⟨k, hk, hk'⟩ := h
            exact ih k hk (by omega) (by simpa using hk')
      obtain ⟨j, hj, hjL, hjmin⟩ := hmin i0 hi0.1 hi0.2
      intro h
      have : j ∈ rs := by
        rw [List.mem_filter, List.mem_range]
        refine ⟨hj, ?_⟩
        rw [Bool.and_eq_true]
        refine ⟨hjL, ?_⟩
        rw [Array.getElem?_eq_getElem hj]
        simp only [Option.map_some, Option.getD_some]
        rw [Array.all_eq_true']
        intro e he
        cases hb : Region.binds .any e with
        | false => rfl
        | true =>
          have hlt' := hlt j ops[j] (Array.getElem?_eq_getElem hj) e (by simpa using he) hb
          have := hjmin _ hlt'
          have hin : e.on < L.size := by omega
          simp only [Array.getD_eq_getD_getElem?, Array.getElem?_eq_getElem hin, Option.getD_some] at this ⊢
          rw [this]
          rfl
      rw [h] at this
      simp at this
    have hlen : t % rs.length < rs.length := Nat.mod_lt _ (List.length_pos_iff.2 hne)
    have hget : rs[t % rs.length]? = some rs[t % rs.length] := List.getElem?_eq_getElem hlen
    have hmem : rs[t % rs.length] ∈ rs := List.getElem_mem hlen
    generalize rs[t % rs.length] = i at hget hmem
    rw [List.mem_filter, List.mem_range, Bool.and_eq_true] at hmem
    obtain ⟨hi, hL, hr⟩ := hmem
    have hL' : L.getD i true = false := by simpa using hL
    obtain ⟨l, h1, h2⟩ := linearise_go ops hlt fuel (t / rs.length) (L.setIfInBounds i true) (i :: acc) (by simpa using hs) (by have := unlisted_set hi hs hL'; omega)
    refine ⟨i :: l, ?_, hi, hL', fun o ho e he hb => ?_, ?_⟩
    · rw [Region.linearise.go]
      show (match rs[t % rs.length]? with | some i => _ | none => _) = _
      rw [hget]
      simp only
      rw [h1]
      simp
    · rw [ho] at hr
      simp only [Option.map_some, Option.getD_some] at hr
      rw [Array.all_eq_true'] at hr
      have := hr e (by simpa using he)
      rw [hb] at this
      simp only [Bool.not_true, Bool.false_or] at this
      simp only [Array.getD_eq_getD_getElem?] at this ⊢
      cases hq : L[e.on]? with
      | none => rfl
      | some b => rw [hq] at this; simpa using this
    · refine h2.congr (fun j hj => ?_) (fun j o ho e he hb => Nat.lt_trans (hlt j o ho e he hb) (Array.getElem?_eq_some_iff.1 ho).1)
      by_cases hji : j = i
      · subst hji
        have : j < L.size := by omega
        simp [Array.getD_eq_getD_getElem?, Array.getElem?_setIfInBounds, this]
      · have : i ≠ j := fun e => hji e.symm
        simp [Array.getD_eq_getD_getElem?, Array.getElem?_setIfInBounds, this, hji]

theorem schedule_topo (ops : Array Oper) (hlt : ∀ i o, ops[i]? = some o → ∀ e ∈ o.after.toList, Region.binds .any e = true → e.on < i) (mixed : Bool) (hm : mixed = true) (t : Nat) : Topo ops (fun _ => false) (Region.schedule mixed ops t) := by
  subst hm
  unfold Region.schedule
  simp only [Bool.true_or, if_true]
  unfold Region.linearise
  obtain ⟨l, h1, h2⟩ := linearise_go ops hlt ops.size t (Array.replicate ops.size false) [] (by simp) (by
    unfold unlisted
    rw [List.filter_eq_self.2]
    · simp
    · intro i hi
      rw [List.mem_range] at hi
      simp [Array.getD_eq_getD_getElem?, hi])
  rw [h1]
  simp only [List.reverse_nil, List.nil_append]
  refine h2.congr (fun i hi => ?_) (fun j o ho e he hb => Nat.lt_trans (hlt j o ho e he hb) (Array.getElem?_eq_some_iff.1 ho).1)
  simp [Array.getD_eq_getD_getElem?, hi]

/-! ### What the text's order gave -/
section
variable {C : Cfg}
def RunOk (C : Cfg) (all : List Oper) (o : Oper) (s : St) (kd : EKind) (v : A) (m1 : Mem) : Prop :=
  (wantA o all s.tm = some false ∧ v = .tup [] ∧ m1 = s.m ∧ kd = kindS o.op) ∨
  (wantA o all s.tm = some true ∧ ((∃ gop args tys h caps, o.op = .call { callee := .value gop, args := args, argTypes := tys } ∧ opd C.gl s.tm gop = .fn h caps ∧ CallOk C h (args.toList.map (opd C.gl s.tm) ++ caps) s.m (.ret v, m1) ∧ kd = .eff) ∨
    ((∀ gop args tys, o.op ≠ .call { callee := .value gop, args := args, argTypes := tys }) ∧ opA C.P o.op (opd C.gl s.tm) s.m = some (v, m1) ∧ kd = kindA o.op (opd C.gl s.tm))))
/-- A call that panics. -/
def PanOk (C : Cfg) (all : List Oper) (o : Oper) (s : St) (a : A) (m : Mem) : Prop :=
  wantA o all s.tm = some true ∧ ∃ gop args tys h caps, o.op = .call { callee := .value gop, args := args, argTypes := tys } ∧ opd C.gl s.tm gop = .fn h caps ∧ CallOk C h (args.toList.map (opd C.gl s.tm) ++ caps) s.m (.pan a, m)
/-- One operation: it ran, or it stands behind the one that panics, or it is that one. -/
def StepOk (C : Cfg) (d : DrawAnn) (po : Option (Nat × A × Mem)) (i : Nat) (all : List Oper) (o : Oper) (s : St) (kd : EKind) (v : A) (m1 : Mem) : Prop :=
  (RunOk C all o s kd v m1 ∧ ∀ a m, po ≠ some (i, a, m)) ∨ (∃ p a m, po = some (p, a, m) ∧ p ∈ d.pre.getD i [] ∧ m1 = s.m) ∨ (∃ a m, po = some (i, a, m) ∧ m1 = s.m ∧ PanOk C all o s a m)

def Valid (C : Cfg) (nt : Nat) (d : DrawAnn) (po : Option (Nat × A × Mem)) (all : List Oper) : Nat → List Oper → St → List Ent → St → Prop
  | _, [], s, tr, s' => tr = [] ∧ s' = s
  | i, o :: rest, s, tr, s' => ∃ kd v m1 tr', tr = ⟨kd, v, s.m⟩ :: tr' ∧ o.dst.all (· < nt) = true ∧ StepOk C d po i all o s kd v m1 ∧ Valid C nt d po all (i + 1) rest ⟨put o.dst v s.tm, m1⟩ tr' s'

/-- What the text's order gave: all operations, or those up to one that panics. -/
def DrawR (C : Cfg) (nt : Nat) (all : List Oper) : List Oper → St → List Ent → Option (A × Mem) × St → Prop
  | [], s, tr, y => tr = [] ∧ y = (none, s)
  | o :: rest, s, tr, y => o.dst.all (· < nt) = true ∧
    ((∃ kd v m1 tr', tr = ⟨kd, v, s.m⟩ :: tr' ∧ RunOk C all o s kd v m1 ∧ DrawR C nt all rest ⟨put o.dst v s.tm, m1⟩ tr' y) ∨
     (∃ a m, tr = [⟨.eff, .undef, s.m⟩] ∧ y = (some (a, m), ⟨put o.dst .undef s.tm, s.m⟩) ∧ PanOk C all o s a m))

theorem DrawR.valid {C : Cfg} {nt : Nat} {d : DrawAnn} {all : List Oper} : ∀ {l : List Oper} {i : Nat} {s s' : St} {tr : List Ent}, DrawR C nt all l s tr (none, s') → Valid C nt d none all i l s tr s'
  | [], i, s, s', tr, ⟨h1, h2⟩ => by
    simp only [Prod.mk.injEq, true_and] at h2
    exact ⟨h1, h2⟩
  | o :: rest, i, s, s', tr, ⟨hd, h⟩ => by
    rcases h with ⟨kd, v, m1, tr', h1, h2, h3⟩ | ⟨a, m, _, h2, _⟩
    · exact ⟨kd, v, m1, tr', h1, hd, .inl ⟨h2, fun a m e => by cases e⟩, h3.valid⟩
    · simp at h2

theorem afterP_valid {C : Cfg} {nt : Nat} {d : DrawAnn} {all : List Oper} {p : Nat} {a : A} {m : Mem} : ∀ {l : List Oper} {i : Nat} {s s' : St} {tr : List Ent}, afterP C.P C.gl nt d all p i l s = some (tr, s') → p < i → Valid C nt d (some (p, a, m)) all i l s tr s'
  | [], i, s, s', tr, h, hpi => by
    rw [afterP] at h
    simp only [Option.some.injEq, Prod.mk.injEq] at h
    exact ⟨h.1.symm, h.2.symm⟩
  | o :: rest, i, s, s', tr, h, hpi => by
    have hne : ∀ (a' : A) (m' : Mem), some (p, a, m) ≠ some (i, a', m') := fun a' m' e => by simp only [Option.some.injEq, Prod.mk.injEq] at e; omega
    rw [afterP] at h
    split at h
    case isFalse => cases h
    rename_i hd
    split at h
    · rename_i hp
      obtain ⟨⟨tr', s1⟩, h1, h2⟩ := Option.map_eq_some_iff.1 h
      simp only [Prod.mk.injEq] at h2
      obtain ⟨rfl, rfl⟩ := h2
      exact ⟨_, _, _, _, rfl, hd, .inr (.inl ⟨p, a, m, rfl, List.contains_iff_mem.1 hp, rfl⟩), afterP_valid h1 (by omega)⟩
    · split at h
      · cases h
      · rename_i hnee
        cases hw : wantA o all s.tm with
        | none => simp only [hw] at h; cases h
        | some b =>
        cases b with
        | false =>
          simp only [hw] at h
          obtain ⟨⟨tr', s1⟩, h1, h2⟩ := Option.map_eq_some_iff.1 h
          simp only [Prod.mk.injEq] at h2
          obtain ⟨rfl, rfl⟩ := h2
          exact ⟨_, _, _, _, rfl, hd, .inl ⟨.inl ⟨hw, rfl, rfl, rfl⟩, hne⟩, afterP_valid h1 (by omega)⟩
        | true =>
          simp only [hw] at h
          obtain ⟨⟨v, m1⟩, h0, h⟩ := Option.bind_eq_some_iff.1 h
          obtain ⟨⟨tr', s1⟩, h1, h2⟩ := Option.map_eq_some_iff.1 h
          simp only [Prod.mk.injEq] at h2
          obtain ⟨rfl, rfl⟩ := h2
          exact ⟨_, _, _, _, rfl, hd, .inl ⟨.inr ⟨hw, .inr ⟨fun gop args tys e => by rw [e] at hnee; simp [isEff] at hnee, h0, rfl⟩⟩, hne⟩, afterP_valid h1 (by omega)⟩

theorem DrawR.pan_pos {C : Cfg} {nt : Nat} {all : List Oper} {z : A × Mem} : ∀ {l : List Oper} {s s1 : St} {tr : List Ent}, DrawR C nt all l s tr (some z, s1) → 1 ≤ tr.length
  | [], s, s1, tr, ⟨h1, h2⟩ => by simp at h2
  | o :: rest, s, s1, tr, ⟨hd, hh⟩ => by
    rcases hh with ⟨kd, v, m1, tr', rfl, h2, h3⟩ | ⟨a', m', rfl, h2, h3⟩ <;> simp

theorem DrawR.valid_pan {C : Cfg} {nt : Nat} {d : DrawAnn} {all : List Oper} {a : A} {m : Mem} {p : Nat} : ∀ {l : List Oper} {i : Nat} {s s1 s' : St} {tr tr2 : List Ent}, DrawR C nt all l s tr (some (a, m), s1) → p + 1 = i + tr.length → afterP C.P C.gl nt d all p (i + tr.length) (l.drop tr.length) s1 = some (tr2, s') → Valid C nt d (some (p, a, m)) all i l s (tr ++ tr2) s'
  | [], i, s, s1, s', tr, tr2, ⟨h1, h2⟩, hp, h => by simp at h2
  | o :: rest, i, s, s1, s', tr, tr2, ⟨hd, hh⟩, hp, h => by
    rcases hh with ⟨kd, v, m1, tr', rfl, h2, h3⟩ | ⟨a', m', rfl, h2, h3⟩
    · have hpos := h3.pan_pos
      refine ⟨kd, v, m1, tr' ++ tr2, rfl, hd, .inl ⟨h2, fun a' m' e => by simp only [Option.some.injEq, Prod.mk.injEq] at e; simp at hp; omega⟩, h3.valid_pan (i := i + 1) (by simp at hp; omega) ?_⟩
      rw [List.length_cons, List.drop_succ_cons] at h
      rw [show i + 1 + tr'.length = i + (tr'.length + 1) by omega]
      exact h
    · simp only [Prod.mk.injEq, Option.some.injEq] at h2
      obtain ⟨⟨rfl, rfl⟩, rfl⟩ := h2
      have : p = i := by simp at hp; omega
      subst this
      exact ⟨.eff, .undef, s.m, tr2, rfl, hd, .inr (.inr ⟨a, m, rfl, rfl, h3⟩), afterP_valid h (by simp)⟩

theorem DrawR.slots {C : Cfg} {nt : Nat} {all : List Oper} {t : Nat} : ∀ {l : List Oper} {s : St} {tr : List Ent} {y : Option (A × Mem) × St}, DrawR C nt all l s tr y → (∀ o ∈ l, o.dst ≠ some t) → lk t y.2.tm = lk t s.tm
  | [], s, tr, y, ⟨_, h⟩, _ => by rw [h]
  | o :: rest, s, tr, y, ⟨hd, h⟩, hne => by
    have h0 : ∀ v : A, lk t (put o.dst v s.tm) = lk t s.tm := fun v => by
      have h1 := hne o (by simp)
      cases hdst : o.dst with
      | none => rfl
      | some u =>
        rw [hdst] at h1
        have : ¬ u = t := fun e => h1 (by rw [e])
        simp only [put, lk]
        rw [if_neg this]
    rcases h with ⟨kd, v, m1, tr', _, _, h3⟩ | ⟨a, m, _, h2, _⟩
    · rw [h3.slots fun o' ho' => hne o' (by simp [ho'])]
      exact h0 v
    · rw [h2]
      exact h0 _

theorem draw_valid {evC : FuncId → List A → Mem → Option (Res × Mem)} {evD : FuncId → Nat → List Oper → List Oper → St → Option (List Ent × Option (A × Mem) × St)}
    (hc : ∀ f args m r, evC f args m = some r → CallOk C f args m r) (hd : ∀ f nt all l s x, evD f nt all l s = some x → DrawR C nt all l s x.1 x.2)
    (f nt : Nat) (all l : List Oper) (s : St) (x : List Ent × Option (A × Mem) × St)
    (h : (match l with
      | [] => some ([], none, s)
      | o :: rest =>
        match o.dst.all (· < nt), wantA o all s.tm with
        | true, some true =>
          match o.op with
          | .call { callee := .value g, args, argTypes } =>
            match opd C.gl s.tm g with
            | .fn h caps => (do
              let x ← evC h (args.toList.map (opd C.gl s.tm) ++ caps) s.m
              match x.1 with
                | .ret a => (do let y ← evD f nt all rest ⟨put o.dst a s.tm, x.2⟩; some (⟨.eff, a, s.m⟩ :: y.1, y.2))
                | .pan a => some ([⟨.eff, .undef, s.m⟩], some (a, x.2), ⟨put o.dst .undef s.tm, s.m⟩))
            | _ => none
          | op => (do
            let x ← opA C.P op (opd C.gl s.tm) s.m
            let y ← evD f nt all rest ⟨put o.dst x.1 s.tm, x.2⟩
            some (⟨kindA op (opd C.gl s.tm), x.1, s.m⟩ :: y.1, y.2))
        | true, some false => (do let y ← evD f nt all rest ⟨put o.dst (.tup []) s.tm, s.m⟩; some (⟨kindS o.op, .tup [], s.m⟩ :: y.1, y.2))
        | _, _ => none) = some x) : DrawR C nt all l s x.1 x.2 := by
  cases l with
  | nil =>
    simp only [Option.some.injEq] at h
    subst h
    exact ⟨rfl, rfl⟩
  | cons o rest =>
    simp only at h
    cases hdd : o.dst.all (· < nt) with
    | false => simp [hdd] at h
    | true =>
    cases hw : wantA o all s.tm with
    | none => simp [hdd, hw] at h
    | some b =>
    simp only [hdd, hw] at h
    cases b with
    | false =>
      simp only at h
      obtain ⟨y, h1, h2⟩ := Option.bind_eq_some_iff.1 h
      simp only [Option.some.injEq] at h2
      subst h2
      exact ⟨hdd, .inl ⟨_, _, _, _, rfl, .inl ⟨hw, rfl, rfl, rfl⟩, hd _ _ _ _ _ _ h1⟩⟩
    | true =>
      simp only at h
      split at h
      · rename_i gop args tys hop
        cases hfn : opd C.gl s.tm gop <;> simp only [hfn, reduceCtorEq] at h
        rename_i hh caps
        obtain ⟨⟨r, m'⟩, h1, h2⟩ := Option.bind_eq_some_iff.1 h
        cases r with
        | pan a =>
          simp only [Option.some.injEq] at h2
          subst h2
          exact ⟨hdd, .inr ⟨a, m', rfl, rfl, hw, gop, args, tys, hh, caps, hop, hfn, hc _ _ _ _ h1⟩⟩
        | ret a =>
          obtain ⟨y, h3, h4⟩ := Option.bind_eq_some_iff.1 h2
          simp only [Option.some.injEq] at h4
          subst h4
          exact ⟨hdd, .inl ⟨_, _, _, _, rfl, .inr ⟨hw, .inl ⟨gop, args, tys, hh, caps, hop, hfn, hc _ _ _ _ h1, rfl⟩⟩, hd _ _ _ _ _ _ h3⟩⟩
      · rename_i op hop
        obtain ⟨⟨a, m'⟩, h1, h2⟩ := Option.bind_eq_some_iff.1 h
        obtain ⟨y, h3, h4⟩ := Option.bind_eq_some_iff.1 h2
        simp only [Option.some.injEq] at h4
        subst h4
        exact ⟨hdd, .inl ⟨_, _, _, _, rfl, .inr ⟨hw, .inr ⟨fun gop args tys e => hop gop args tys e, h1, rfl⟩⟩, hd _ _ _ _ _ _ h3⟩⟩

/-- The slots before operation i. -/
def tmAt : List Oper → List Ent → List (Nat × A) → Nat → List (Nat × A)
  | o :: l, e :: tr, tm, i + 1 => tmAt l tr (put o.dst e.v tm) i
  | _, _, tm, _ => tm

theorem lk_put_ne {d : Option Nat} {a : A} {tm : List (Nat × A)} {t : Nat} (h : d ≠ some t) : lk t (put d a tm) = lk t tm := by
  cases d with
  | none => rfl
  | some d =>
    have : d ≠ t := fun e => h (by rw [e])
    simp only [put, lk]
    rw [if_neg this]

theorem tmAt_old : ∀ (l : List Oper) (tr : List Ent) (tm : List (Nat × A)) (i t : Nat), (∀ j o, j < i → l[j]? = some o → o.dst ≠ some t) → lk t (tmAt l tr tm i) = lk t tm
  | [], tr, tm, i, t, _ => by cases tr <;> cases i <;> rfl
  | o :: l, [], tm, i, t, _ => by cases i <;> rfl
  | o :: l, e :: tr, tm, 0, t, _ => rfl
  | o :: l, e :: tr, tm, i + 1, t, h => by
    rw [tmAt, tmAt_old l tr _ i t fun j o' hj ho => h (j + 1) o' (by omega) (by simpa using ho)]
    exact lk_put_ne (h 0 o (by omega) rfl)

theorem tmAt_new : ∀ (l : List Oper) (tr : List Ent) (tm : List (Nat × A)) (i j t : Nat) (o : Oper) (e : Ent), j < i → l[j]? = some o → tr[j]? = some e → o.dst = some t → (∀ k o', k ≠ j → l[k]? = some o' → o'.dst ≠ some t) → lk t (tmAt l tr tm i) = e.v
  | [], tr, tm, i, j, t, o, e, _, ho, _, _, _ => by simp at ho
  | o' :: l, [], tm, i, j, t, o, e, _, _, he, _, _ => by simp at he
  | o' :: l, e' :: tr, tm, 0, j, t, o, e, hj, _, _, _, _ => by omega
  | o' :: l, e' :: tr, tm, i + 1, 0, t, o, e, hj, ho, he, hd, hne => by
    simp at ho he
    subst ho he
    rw [tmAt, tmAt_old l tr _ i t fun k o'' _ hk => hne (k + 1) o'' (by omega) (by simpa using hk), hd]
    simp [put, lk]
  | o' :: l, e' :: tr, tm, i + 1, j + 1, t, o, e, hj, ho, he, hd, hne => by
    rw [tmAt]
    exact tmAt_new l tr _ i j t o e (by omega) (by simpa using ho) (by simpa using he) hd fun k o'' hk hk' => hne (k + 1) o'' (by omega) (by simpa using hk')

/-- The memory before operation i. -/
def memAt (tr : List Ent) (fin : Mem) (i : Nat) : Mem := ((tr[i]?).map (·.m)).getD fin

section
variable {nt : Nat} {d : DrawAnn} {po : Option (Nat × A × Mem)} {all : List Oper}
theorem Valid.length : ∀ {n : Nat} {l : List Oper} {s s' : St} {tr : List Ent}, Valid C nt d po all n l s tr s' → tr.length = l.length
  | _, [], _, _, _, ⟨rfl, _⟩ => rfl
  | _, _ :: _, _, _, _, ⟨_, _, _, _, rfl, _, _, h⟩ => by simp [h.length]
theorem Valid.head : ∀ {n : Nat} {l : List Oper} {s s' : St} {tr : List Ent}, Valid C nt d po all n l s tr s' → memAt tr s'.m 0 = s.m
  | _, [], _, _, _, ⟨rfl, rfl⟩ => rfl
  | _, _ :: _, _, _, _, ⟨_, _, _, _, rfl, _, _, h⟩ => rfl
theorem Valid.last : ∀ {n : Nat} {l : List Oper} {s s' : St} {tr : List Ent}, Valid C nt d po all n l s tr s' → s'.tm = tmAt l tr s.tm l.length
  | _, [], _, _, _, ⟨rfl, rfl⟩ => rfl
  | _, _ :: _, _, _, _, ⟨_, _, _, _, rfl, _, _, h⟩ => by rw [h.last]; rfl
theorem Valid.at_ : ∀ {n : Nat} {l : List Oper} {s s' : St} {tr : List Ent} (i : Nat) (o : Oper), Valid C nt d po all n l s tr s' → l[i]? = some o →
    ∃ e, tr[i]? = some e ∧ o.dst.all (· < nt) = true ∧ StepOk C d po (n + i) all o ⟨tmAt l tr s.tm i, e.m⟩ e.kd e.v (memAt tr s'.m (i + 1))
  | _, [], _, _, _, i, o, _, h => by simp at h
  | n, o' :: l, s, s', _, 0, o, ⟨kd, v, m1, tr', rfl, h1, h2, h3⟩, h => by
    simp at h
    subst h
    refine ⟨_, rfl, h1, ?_⟩
    have hm : memAt (⟨kd, v, s.m⟩ :: tr') s'.m 1 = m1 := h3.head
    rw [hm]
    exact h2
  | n, o' :: l, s, s', _, i + 1, o, ⟨kd, v, m1, tr', rfl, h1, h2, h3⟩, h => by
    obtain ⟨e, k1, k2, k3⟩ := Valid.at_ i o h3 (by simpa using h)
    refine ⟨e, by simpa using k1, k2, ?_⟩
    rw [show n + (i + 1) = n + 1 + i by omega]
    exact k3
end

theorem opA_congr {op : Op} {ρ ρ' : Operand → A} {m : Mem} (h : ∀ x ∈ op.operands.toList, ρ x = ρ' x) : opA C.P op ρ m = opA C.P op ρ' m := by
  cases op
  case move x => simp only [opA]; rw [h x (by simp [Op.operands])]
  case assign x => simp only [opA]; rw [h x (by simp [Op.operands])]
  case pick c x y => simp only [opA]; rw [h c (by simp [Op.operands]), h x (by simp [Op.operands]), h y (by simp [Op.operands])]
  case alloc e => rfl
  case box e x => simp only [opA]; rw [h x (by simp [Op.operands])]
  case build t ps =>
    simp only [opA]
    rw [List.map_congr_left fun p hp => by rw [h p.2 (by simp only [Op.operands]; exact List.mem_map.2 ⟨p, hp, rfl⟩)]]
  case buildSlice t n ps =>
    simp only [opA]
    rw [List.map_congr_left fun p hp => by rw [h p.2 (by simp only [Op.operands]; exact List.mem_map.2 ⟨p, hp, rfl⟩)]]
  case load t x => simp only [opA]; rw [h x (by simp [Op.operands])]
  case store t x y => simp only [opA]; rw [h x (by simp [Op.operands]), h y (by simp [Op.operands])]
  case nilCheck x => simp only [opA]; rw [h x (by simp [Op.operands])]
  case binOp o t x y u => simp only [opA]; rw [h x (by simp [Op.operands]), h y (by simp [Op.operands])]
  case unOp o t x => simp only [opA]; rw [h x (by simp [Op.operands])]
  case convert t u x => simp only [opA]; rw [h x (by simp [Op.operands])]
  case makeInterface t x => simp only [opA]; rw [h x (by simp [Op.operands])]
  case makeFunc f first caps =>
    cases f <;> simp only [opA]
    rw [List.map_congr_left fun x hx => h x (by simp only [Op.operands, Array.toList_append, List.mem_append]; exact .inr hx)]
  case makeSlice t x y => simp only [opA]; rw [h x (by simp [Op.operands]), h y (by simp [Op.operands])]
  case slice t x lo hi mx =>
    simp only [opA]
    have e1 : lo.map ρ = lo.map ρ' := by cases lo with | none => rfl | some y => simp only [Option.map_some]; rw [h y (by simp [Op.operands])]
    have e2 : hi.map ρ = hi.map ρ' := by cases hi with | none => rfl | some y => simp only [Option.map_some]; rw [h y (by simp [Op.operands])]
    have e3 : mx.map ρ = mx.map ρ' := by cases mx with | none => rfl | some y => simp only [Option.map_some]; rw [h y (by simp [Op.operands])]
    rw [h x (by simp [Op.operands]), e1, e2, e3]
  case fieldAddr t x i => simp only [opA]; rw [h x (by simp [Op.operands])]
  case field t x i => simp only [opA]; rw [h x (by simp [Op.operands])]
  case indexAddr t x i => simp only [opA]; rw [h x (by simp [Op.operands]), h i (by simp [Op.operands])]
  case index t x i => simp only [opA]; rw [h x (by simp [Op.operands]), h i (by simp [Op.operands])]
  case typeAssert x xt t ok => simp only [opA]; rw [h x (by simp [Op.operands])]
  case extract x i => simp only [opA]; rw [h x (by simp [Op.operands])]
  case call c =>
    obtain ⟨callee, args, tys⟩ := c
    cases callee <;> simp only [opA]
    rw [List.map_congr_left fun x hx => h x (by simp only [Op.operands, Call.operands, Array.toList_append, List.mem_append]; exact .inr hx)]
  all_goals rfl

theorem opA_mem {op : Op} {ρ : Operand → A} {m m' m1 : Mem} {v : A} (he : isEff op = false) (hl : ∀ t x, op ≠ .load t x) (h : opA C.P op ρ m = some (v, m1)) : m1 = m ∧ opA C.P op ρ m' = some (v, m') := by
  have mp : ∀ x : Option A, x.map (·, m) = some (v, m1) → m1 = m ∧ x.map (·, m') = some (v, m') := by
    intro x hx
    obtain ⟨r, hr, e⟩ := Option.map_eq_some_iff.1 hx
    simp only [Prod.mk.injEq] at e
    obtain ⟨rfl, rfl⟩ := e
    exact ⟨rfl, by rw [hr]; rfl⟩
  cases op <;> simp only [opA, isEff, reduceCtorEq] at h he ⊢
  case move x => simp only [Option.some.injEq, Prod.mk.injEq] at h; obtain ⟨rfl, rfl⟩ := h; exact ⟨rfl, rfl⟩
  case assign x => simp only [Option.some.injEq, Prod.mk.injEq] at h; obtain ⟨rfl, rfl⟩ := h; exact ⟨rfl, rfl⟩
  case load t x => exact absurd rfl (hl t x)
  case makeInterface t x =>
    split at h
    · cases h
    · rename_i hi
      simp only [Option.some.injEq, Prod.mk.injEq] at h
      obtain ⟨rfl, rfl⟩ := h
      exact ⟨rfl, by rw [if_neg hi]⟩
  case makeFunc f first caps =>
    cases f <;> simp only [opA, reduceCtorEq] at h ⊢
    split at h
    · rename_i hi
      simp only [Option.some.injEq, Prod.mk.injEq] at h
      obtain ⟨rfl, rfl⟩ := h
      exact ⟨rfl, by rw [if_pos hi]⟩
    · cases h
  case call c =>
    obtain ⟨callee, args, tys⟩ := c
    cases callee <;> simp only [opA, reduceCtorEq] at h ⊢
    rename_i b
    unfold builtinA at h ⊢
    split at h
    · exact mp _ h
    · exact mp _ h
    · exact mp _ h
    · simp at he
    · cases h
  all_goals exact mp _ h

/-! ### What the text asks, taken apart -/
/-- An allocation that may come early: whoever reads its slot waits for all effects before it. -/
def AlOk (ops : Array Oper) (d : DrawAnn) (j : Nat) (o' : Oper) : Prop :=
  (∃ T, o'.op = .alloc T) ∧ o'.guard = none ∧ ∀ (k : Nat) (ok : Oper) (t : Nat), ops[k]? = some ok → o'.dst = some t → t ∈ readsOf ops ok → ∀ (e : Nat) (oe : Oper), ops[e]? = some oe → isEff oe.op = true → e < j → e ∈ d.pre.getD k []
structure DrawFacts (ops : Array Oper) (d : DrawAnn) : Prop where
  lt : ∀ (i : Nat) (o : Oper), ops[i]? = some o → ∀ e ∈ o.after.toList, Region.binds .any e = true → e.on < i
  pre : ∀ (i : Nat) (o : Oper), ops[i]? = some o → ∀ j ∈ d.pre.getD i [], ∃ e ∈ o.after.toList, Region.binds .any e = true ∧ (e.on = j ∨ j ∈ d.pre.getD e.on [])
  dst : ∀ (i j : Nat) (o o' : Oper) (t : Nat), ops[i]? = some o → ops[j]? = some o' → i ≠ j → o.dst = some t → o'.dst ≠ some t
  reads : ∀ (i j : Nat) (o o' : Oper) (t : Nat), ops[i]? = some o → ops[j]? = some o' → t ∈ readsOf ops o → o'.dst = some t → (j < i ∧ j ∈ d.pre.getD i []) ∨ (i < j ∧ i ∈ d.pre.getD j [])
  effs : ∀ (i j : Nat) (o o' : Oper), ops[i]? = some o → ops[j]? = some o' → isEff o.op = true → isEff o'.op = true → i < j → i ∈ d.pre.getD j [] ∨ AlOk ops d j o'
  need : ∀ (i : Nat) (o : Oper) (t : TypeId) (x : Operand), ops[i]? = some o → o.op = .load t x → (i, (reqOf d.pre i (effIdx ops)).1, (reqOf d.pre i (effIdx ops)).2) ∈ d.need
  pan : ∀ (i : Nat) (o : Oper) (x : Operand), ops[i]? = some o → o.op ≠ .panic x

theorem drawOk_facts {ops : Array Oper} {d : DrawAnn} (h : drawOk ops d = true) : DrawFacts ops d := by
  unfold drawOk at h
  simp only [List.all_eq_true, List.mem_range, Bool.and_eq_true] at h
  have hat : ∀ (i : Nat) (o : Oper), ops[i]? = some o → i < ops.size ∧ (ops[i]?).getD default = o := fun i o ho => ⟨(Array.getElem?_eq_some_iff.1 ho).1, by rw [ho]; rfl⟩
  refine ⟨fun i o ho e he hb => ?_, fun i o ho j hj => ?_, fun i j o o' t ho ho' hij hd => ?_, fun i j o o' t ho ho' ht hd => ?_, fun i j o o' ho ho' h1 h2 hij => ?_, fun i o t x ho hop => ?_, fun i o x ho hop => ?_⟩
  · obtain ⟨hi, hq⟩ := hat i o ho
    have := (h i hi).1.1.1.1.1.1
    rw [hq] at this
    have := this e he
    rw [hb] at this
    simpa using this
  · obtain ⟨hi, hq⟩ := hat i o ho
    have := (h i hi).1.1.1.1.1.2
    rw [hq] at this
    have := this j hj
    rw [List.any_eq_true] at this
    obtain ⟨e, he, hb⟩ := this
    simp only [Bool.and_eq_true, Bool.or_eq_true, beq_iff_eq, List.contains_iff_mem] at hb
    exact ⟨e, he, hb.1, hb.2⟩
  · obtain ⟨hi, hq⟩ := hat i o ho
    obtain ⟨hj, hq'⟩ := hat j o' ho'
    have := (h i hi).1.1.1.1.2 j hj
    rw [hq, hq', hd] at this
    simp only [Bool.or_eq_true, beq_iff_eq, Option.isNone_some, Bool.false_eq_true, or_false, bne_iff_ne, ne_eq] at this
    rcases this with e | e
    · exact absurd e hij
    · exact fun q => e q.symm
  · obtain ⟨hi, hq⟩ := hat i o ho
    obtain ⟨hj, hq'⟩ := hat j o' ho'
    have := (h i hi).1.1.1.2 t (by rw [hq]; exact ht) j hj
    rw [hq', hd] at this
    simpa [List.contains_iff_mem] using this
  · obtain ⟨hi, hq⟩ := hat i o ho
    obtain ⟨hj, hq'⟩ := hat j o' ho'
    have := (h i hi).1.1.2 j hj
    rw [hq, hq', h1, h2] at this
    simp only [Bool.not_true, Bool.false_or, hij, decide_true, Bool.or_eq_true, Bool.and_eq_true, List.all_eq_true, List.mem_range, List.contains_iff_mem] at this
    rcases this with q | ⟨⟨q1, q2⟩, q3⟩
    · exact .inl q
    · refine .inr ⟨?_, by simpa using q2, fun k ok t hok hdt htk e oe hoe hee hej => ?_⟩
      · cases hop : o'.op <;> rw [hop] at q1 <;> simp [isAl] at q1
        exact ⟨_, rfl⟩
      · obtain ⟨hk, hqk⟩ := hat k ok hok
        obtain ⟨he, hqe⟩ := hat e oe hoe
        have := q3 k hk t (by rw [hqk]; exact htk)
        rw [hdt] at this
        simp only [bne_self_eq_false, Bool.false_eq_true, false_or] at this
        have := this e hej
        rw [hqe, hee] at this
        simpa using this
  · obtain ⟨hi, hq⟩ := hat i o ho
    have := (h i hi).1.2
    rw [hq, hop] at this
    simp only [List.any_eq_true, Bool.and_eq_true, beq_iff_eq] at this
    obtain ⟨q, hp, ⟨h1, h2⟩, h3⟩ := this
    have e : q = (i, (reqOf d.pre i (effIdx ops)).1, (reqOf d.pre i (effIdx ops)).2) := Prod.ext h1 (Prod.ext h2 h3)
    rw [← e]
    exact hp
  · obtain ⟨hi, hq⟩ := hat i o ho
    have := (h i hi).2
    rw [hq, hop] at this
    cases this

theorem search (Pp : Nat → Prop) [DecidablePred Pp] (n : Nat) : ∀ k a, a + k = n → ∃ c, a ≤ c ∧ c ≤ n ∧ (∀ j, a ≤ j → j < c → ¬ Pp j) ∧ (c = n ∨ Pp c)
  | 0, a, h => ⟨a, Nat.le_refl _, by omega, fun j h1 h2 => by omega, .inl (by omega)⟩
  | k + 1, a, h => by
    by_cases ha : Pp a
    · exact ⟨a, Nat.le_refl _, by omega, fun j h1 h2 => by omega, .inr ha⟩
    · obtain ⟨c, h1, h2, h3, h4⟩ := search Pp n k (a + 1) (by omega)
      refine ⟨c, by omega, h2, fun j h5 h6 => ?_, h4⟩
      by_cases hj : j = a
      · subst hj; exact ha
      · exact h3 j (by omega) h6

/-- The region as it was evaluated in the text's order. -/
structure Drawn (C : Cfg) (nt : Nat) (ops : Array Oper) (d : DrawAnn) (po : Option (Nat × A × Mem)) (s s' : St) (tr : List Ent) : Prop where
  valid : Valid C nt d po ops.toList 0 ops.toList s tr s'
  facts : DrawFacts ops d
  need : chkNeed C.P tr s'.m d.need

def effAt (ops : Array Oper) (i : Nat) : Prop := ∃ o, ops[i]? = some o ∧ isEff o.op = true
instance (ops : Array Oper) : DecidablePred (effAt ops) := fun i => by
  unfold effAt
  cases h : ops[i]? with
  | none => exact isFalse (by rintro ⟨o, h, _⟩; cases h)
  | some o =>
    by_cases he : isEff o.op = true
    · exact isTrue ⟨o, rfl, he⟩
    · exact isFalse (by rintro ⟨o', h, h'⟩; cases h; exact he h')

section
variable {nt : Nat} {ops : Array Oper} {d : DrawAnn} {po : Option (Nat × A × Mem)} {s s' : St} {tr : List Ent} (D : Drawn C nt ops d po s s' tr)
include D
theorem Drawn.step (i : Nat) (o : Oper) (h : ops[i]? = some o) : ∃ e, tr[i]? = some e ∧ e.m = memAt tr s'.m i ∧ o.dst.all (· < nt) = true ∧ StepOk C d po i ops.toList o ⟨tmAt ops.toList tr s.tm i, memAt tr s'.m i⟩ e.kd e.v (memAt tr s'.m (i + 1)) := by
  obtain ⟨e, h1, h2, h3⟩ := D.valid.at_ i o (by simpa using h)
  rw [Nat.zero_add] at h3
  have hm : memAt tr s'.m i = e.m := by unfold memAt; rw [h1]; rfl
  exact ⟨e, h1, hm.symm, h2, by rw [hm]; exact h3⟩

/-- An operation that changes no memory. -/
theorem Drawn.still (i : Nat) (o : Oper) (h : ops[i]? = some o) (he : isEff o.op = false) : memAt tr s'.m (i + 1) = memAt tr s'.m i := by
  obtain ⟨e, _, _, _, hs⟩ := D.step i o h
  rcases hs with ⟨⟨_, _, hm, _⟩ | ⟨_, ⟨gop, args, tys, hh, caps, hop, _, _, _⟩ | ⟨_, hop, _⟩⟩, _⟩ | ⟨_, _, _, _, _, hm⟩ | ⟨_, _, _, hm, _⟩
  · exact hm
  · rw [hop] at he; cases he
  · by_cases hl : ∃ t x, o.op = .load t x
    · obtain ⟨t, x, hl⟩ := hl
      rw [hl] at hop
      simp only [opA] at hop
      obtain ⟨r, _, hr⟩ := Option.map_eq_some_iff.1 hop
      simp only [Prod.mk.injEq] at hr
      exact hr.2.symm
    · exact (opA_mem (m' := s.m) he (fun t x e => hl ⟨t, x, e⟩) hop).1
  · exact hm
  · exact hm

theorem Drawn.same (a : Nat) : ∀ k, a + k ≤ ops.size → (∀ j, a ≤ j → j < a + k → ¬ effAt ops j) → memAt tr s'.m (a + k) = memAt tr s'.m a
  | 0, _, _ => rfl
  | k + 1, hk, h => by
    rw [← Drawn.same a k (by omega) fun j h1 h2 => h j h1 (by omega)]
    have hlt : a + k < ops.size := by omega
    refine D.still (a + k) ops[a + k] (Array.getElem?_eq_getElem hlt) ?_
    cases hq : isEff ops[a + k].op with
    | false => rfl
    | true => exact absurd ⟨_, Array.getElem?_eq_getElem hlt, hq⟩ (h (a + k) (by omega) (by omega))
end

/-- What a slot holds once its operation has run and counts. -/
def NewOk (ops : Array Oper) (tr : List Ent) (L : Nat → Bool) (c : Nat) (g : Gh) (a : Act) (w : World) : Prop :=
  ∀ i o t e, ops[i]? = some o → L i = true → o.dst = some t → tr[i]? = some e → (effAt ops i → i < c) → VR w g e.v (a.tmps.getD t undef)
/-- An allocation that came early. -/
structure PendAt (C : Cfg) (ops : Array Oper) (d : DrawAnn) (w0 w1 : World) (i b : Nat) (g : Gh) (a : Act) (w : World) : Prop where
  old0 : w0.heap.size ≤ b
  old1 : w1.heap.size ≤ b
  lt : b < w.heap.size
  loose : Loose g b
  op : ∃ o T zv, ops[i]? = some o ∧ o.op = .alloc T ∧ o.guard = none ∧ (∀ t, o.dst = some t → a.tmps.getD t undef = .pointer (some ⟨b, 0, none⟩)) ∧ w.heap[b]? = some (.cells (Value.cells zv) T (0, 0)) ∧ zeroOf C.P T = some (zv.cells.toList.map A.ofCell)
def MemP (C : Cfg) (ops : Array Oper) (d : DrawAnn) (s' : St) (tr : List Ent) (w0 w1 : World) (L : Nat → Bool) (g : Gh) (a : Act) (w : World) : Prop :=
  ∃ c, c ≤ ops.size ∧ (∀ e, e < c → effAt ops e → L e = true) ∧ (c = ops.size ∨ (effAt ops c ∧ L c = false)) ∧ SR C.P C.gl w0 g (memAt tr s'.m c) w ∧ NewOk ops tr L c g a w ∧
    ∃ B : Nat → Nat, (∀ i, c < i → effAt ops i → L i = true → PendAt C ops d w0 w1 i (B i) g a w) ∧ ∀ i j, c < i → effAt ops i → L i = true → c < j → effAt ops j → L j = true → B i = B j → i = j
/-- What holds when some operations have run. -/
structure Inv (C : Cfg) (nt : Nat) (ops : Array Oper) (d : DrawAnn) (po : Option (Nat × A × Mem)) (s s' : St) (tr : List Ent) (w0 : World) (df : List Deferred) (w1 : World) (g1 : Gh) (L : Nat → Bool) (g : Gh) (a : Act) (w : World) : Prop where
  size : a.tmps.size = nt
  dfr : a.defers = df
  clo : ∀ i, L i = true → ∀ j ∈ d.pre.getD i [], L j = true
  old : ∀ t, (∀ i o, ops[i]? = some o → o.dst = some t → L i = false) → VR w g (lk t s.tm) (a.tmps.getD t undef)
  mem : MemP C ops d s' tr w0 w1 L g a w
  ext : Ext w1 g1 w g
  np : ∀ p b m, po = some (p, b, m) → L p = false

theorem effIdx_mem {ops : Array Oper} {i : Nat} : i ∈ effIdx ops ↔ effAt ops i := by
  unfold effIdx effAt
  rw [List.mem_filter, List.mem_range]
  constructor
  · rintro ⟨h, k⟩
    refine ⟨ops[i], Array.getElem?_eq_getElem h, ?_⟩
    rw [Array.getElem?_eq_getElem h] at k
    exact k
  · rintro ⟨o, h, k⟩
    exact ⟨(Array.getElem?_eq_some_iff.1 h).1, by rw [h]; exact k⟩

theorem reqOf_mem {pre : List (List Nat)} {p c n : Nat} {L : Nat → Bool} (hclo : ∀ i, L i = true → ∀ j ∈ pre.getD i [], L j = true) (hp : L p = false) (hpc : ∀ j ∈ pre.getD p [], L j = true) :
    ∀ l : List Nat, (∀ e ∈ l, e < c → L e = true) → l.Pairwise (· < ·) → (c ∈ l ∧ L c = false → c ∈ (reqOf pre p l).1) ∧ ((∀ e ∈ l, L e = true) → (reqOf pre p l).2 = true)
  | [], _, _ => ⟨fun h => by simp at h, fun _ => rfl⟩
  | e :: r, hl, hs => by
    have ih := reqOf_mem (c := c) (n := n) hclo hp hpc r (fun e he => hl e (List.mem_cons_of_mem _ he)) (List.pairwise_cons.1 hs).2
    rw [reqOf]
    by_cases h1 : (pre.getD p []).contains e = true
    · rw [if_pos h1]
      have hLe := hpc e (List.contains_iff_mem.1 h1)
      refine ⟨fun h => ih.1 ⟨?_, h.2⟩, fun h => ih.2 fun e he => h e (List.mem_cons_of_mem _ he)⟩
      rcases List.mem_cons.1 h.1 with q | q
      · rw [q, hLe] at h; cases h.2
      · exact q
    · rw [if_neg h1]
      by_cases h2 : (pre.getD e []).contains p = true
      · rw [if_pos h2]
        have hLe : L e = false := by
          cases hq : L e with
          | false => rfl
          | true => have := hclo e hq p (List.contains_iff_mem.1 h2); rw [hp] at this; cases this
        refine ⟨fun h => ?_, fun h => ?_⟩
        · rcases List.mem_cons.1 h.1 with q | q
          · rw [q]; simp
          · have := (List.pairwise_cons.1 hs).1 c q
            have := hl e (by simp) this
            rw [hLe] at this; cases this
        · have := h e (by simp)
          rw [hLe] at this; cases this
      · rw [if_neg h2]
        refine ⟨fun h => ?_, fun h => ih.2 fun e he => h e (List.mem_cons_of_mem _ he)⟩
        rcases List.mem_cons.1 h.1 with q | q
        · rw [q]; simp
        · exact List.mem_cons_of_mem _ (ih.1 ⟨q, h.2⟩)

theorem chkNeed_mem {P : Program} {tr : List Ent} {fin : Mem} : ∀ {l : List (Nat × List Nat × Bool)} {p : Nat} {es : List Nat} {f : Bool}, chkNeed P tr fin l → (p, es, f) ∈ l → ∀ t x v m, tr[p]? = some ⟨.load t x, v, m⟩ → (∀ e ∈ es, ∀ en, tr[e]? = some en → loadA P t x en.m = some v) ∧ (f = true → loadA P t x fin = some v)
  | [], _, _, _, _, h, _, _, _, _, _ => by simp at h
  | (p', es', f') :: r, p, es, f, hc, hm, t, x, v, m, he => by
    rcases List.mem_cons.1 hm with q | q
    · simp only [Prod.mk.injEq] at q
      obtain ⟨rfl, rfl, rfl⟩ := q
      have := hc.1
      rw [he] at this
      exact this
    · exact chkNeed_mem hc.2 q t x v m he

theorem want_sound' {o : Oper} {all : List Oper} {ops : Array Oper} (ho : ops.toList = all) {tm : List (Nat × A)} {tmps : Array Value} {w : World} {g : Gh} {b : Bool} (h : wantA o all tm = some b) (ht : ∀ t ∈ readsOf ops o, VR w g (lk t tm) (tmps.getD t undef)) : Region.wanted o (yielded ops tmps) = b := by
  -- the slots that are not read may hold anything
  let tm' : List (Nat × A) := (readsOf ops o).map fun t => (t, lk t tm)
  have htm : TmR w g tm' tmps := fun t => by
    rcases lk_map (readsOf ops o) tm t with e | e
    · by_cases hin : t ∈ readsOf ops o
      · show VR w g (lk t tm') _
        rw [e]; exact ht t hin
      · have : lk t tm' = .undef := by
          show lk t ((readsOf ops o).map fun t => (t, lk t tm)) = .undef
          generalize readsOf ops o = l at hin
          induction l with
          | nil => rfl
          | cons u r ih =>
            simp only [List.mem_cons, not_or] at hin
            simp only [List.map_cons, lk]
            rw [if_neg (Ne.symm hin.1)]
            exact ih hin.2
        rw [this, VR]; trivial
    · show VR w g (lk t tm') _
      rw [e, VR]; trivial
  refine want_sound ho ?_ htm
  unfold wantA at h ⊢
  cases hg : o.guard with
  | none => rw [hg] at h; exact h
  | some p =>
    obtain ⟨j, want⟩ := p
    rw [hg] at h
    simp only at h ⊢
    cases hd : (all[j]?).bind (·.dst) with
    | none => rw [hd] at h; exact h
    | some dd =>
      rw [hd] at h
      simp only at h ⊢
      have hin : dd ∈ readsOf ops o := by
        unfold readsOf
        rw [hg]
        simp only [List.mem_append]
        refine .inr ?_
        rw [show ops[j]? = all[j]? from by rw [← ho]; simp, hd]
        simp
      have : lk dd tm' = lk dd tm := by
        show lk dd ((readsOf ops o).map fun t => (t, lk t tm)) = _
        generalize readsOf ops o = l at hin
        induction l with
        | nil => simp at hin
        | cons u r ih =>
          simp only [List.map_cons, lk]
          by_cases hu : u = dd
          · subst hu; rw [if_pos rfl]
          · rw [if_neg hu]
            exact ih (by rcases List.mem_cons.1 hin with q | q; exact absurd q.symm hu; exact q)
      rw [this]
      exact h
end
end AE
end Go.Proofs.YthoomlenmgdebaaGreatDoor

/- Regions that draw their order, the end. -/
set_option linter.unusedVariables false
set_option linter.unusedSimpArgs false
set_option linter.unusedSectionVars false
set_option maxHeartbeats 3200000
namespace Go.Proofs.YthoomlenmgdebaaGreatDoor
namespace AE
open Go Go.RowKit

section
variable {C : Cfg} {nt : Nat} {ops : Array Oper} {d : DrawAnn} {po : Option (Nat × A × Mem)} {s s' : St} {tr : List Ent} {w0 w1 : World} {g1 : Gh} {df : List Deferred}

theorem getD_put_same {a : Act} {t : Nat} {v : Value} (h : t < a.tmps.size) : (a.put (some t) v).tmps.getD t undef = v := by
  simp [Act.put, Array.getD_eq_getD_getElem?, Array.getElem?_setIfInBounds, h]
theorem getD_put_ne {a : Act} {dd : Option Nat} {t : Nat} {v : Value} (h : dd ≠ some t) : (a.put dd v).tmps.getD t undef = a.tmps.getD t undef := by
  cases dd with
  | none => rfl
  | some u =>
    have : u ≠ t := fun e => h (by rw [e])
    simp [Act.put, Array.getD_eq_getD_getElem?, Array.getElem?_setIfInBounds, this]

theorem NewOk.next (D : Drawn C nt ops d po s s' tr) {L : Nat → Bool} {g g' : Gh} {a : Act} {w w' : World} {i c : Nat} {o : Oper} {e : Ent} {v : Value} (h : NewOk ops tr L c g a w) (hsz : a.tmps.size = nt)
    (ho : ops[i]? = some o) (he : tr[i]? = some e) (hd : o.dst.all (· < nt) = true) (hx : ExtB w g w' g') (hv : (effAt ops i → i < c) → VR w' g' e.v v) : NewOk ops tr (fun j => if j = i then true else L j) c g' (a.put o.dst v) w' := by
  intro j o' t e' ho' hj ht he' hc
  have hj : (if j = i then true else L j) = true := hj
  by_cases hji : j = i
  · subst hji
    rw [ho] at ho'
    cases ho'
    rw [he] at he'
    cases he'
    rw [ht] at hd ⊢
    simp only [Option.all_some, decide_eq_true_eq] at hd
    rw [getD_put_same (by rw [hsz]; exact hd)]
    exact hv hc
  · rw [if_neg hji] at hj
    rw [getD_put_ne (fun q => D.facts.dst i j o o' t ho ho' (Ne.symm hji) q ht)]
    exact VR.monoB hx _ _ (h j o' t e' ho' hj ht he' hc)
theorem PendAt.next (D : Drawn C nt ops d po s s' tr) {g g' : Gh} {a : Act} {w w' : World} {i j b : Nat} {o : Oper} {v : Value} (h : PendAt C ops d w0 w1 j b g a w) (ho : ops[i]? = some o) (hij : j ≠ i) (hx : Ext w g w' g') : PendAt C ops d w0 w1 j b g' (a.put o.dst v) w' := by
  obtain ⟨h1, h2, h3, h4, o', T, zv, k1, k2, k3, k4, k5, k6⟩ := h
  obtain ⟨q1, q2⟩ := hx.fr b h3 h4
  refine ⟨h1, h2, ?_, q2, o', T, zv, k1, k2, k3, fun t ht => ?_, by rw [q1]; exact k5, k6⟩
  · rw [← q1] at k5
    exact (Array.getElem?_eq_some_iff.1 k5).1
  · rw [getD_put_ne (fun q => D.facts.dst j i o' o t k1 ho hij ht q)]
    exact k4 t ht

/-- The allocations that came early and whose turn it is now. -/
theorem advance (D : Drawn C nt ops d po s s' tr) {L : Nat → Bool} {a : Act} {w : World} (hclo : ∀ i, L i = true → ∀ j ∈ d.pre.getD i [], L j = true) (hnp : ∀ p b m, po = some (p, b, m) → L p = false) :
    ∀ (k n : Nat) (g : Gh), n + k = ops.size → SR C.P C.gl w0 g (memAt tr s'.m n) w → (∀ e, e < n → effAt ops e → L e = true) → NewOk ops tr L n g a w → Ext w1 g1 w g →
      (∃ B : Nat → Nat, (∀ i, n ≤ i → effAt ops i → L i = true → PendAt C ops d w0 w1 i (B i) g a w) ∧ ∀ i j, n ≤ i → effAt ops i → L i = true → n ≤ j → effAt ops j → L j = true → B i = B j → i = j) →
      ∃ g', MemP C ops d s' tr w0 w1 L g' a w ∧ Ext w1 g1 w g' ∧ ExtB w g w g'
  | 0, n, g, hn, hs, he, hN, hx, hB => by
    obtain ⟨B, b1, b2⟩ := hB
    exact ⟨g, ⟨n, by omega, he, .inl (by omega), hs, hN, B, fun i hi => b1 i (by omega), fun i j hi h1 h2 hj => b2 i j (by omega) h1 h2 (by omega)⟩, hx, ExtB.refl _ _⟩
  | k + 1, n, g, hn, hs, he, hN, hx, hB => by
    obtain ⟨B, b1, b2⟩ := hB
    by_cases hef : effAt ops n
    case neg =>
      have hlt : n < ops.size := by omega
      have hst : memAt tr s'.m (n + 1) = memAt tr s'.m n := D.still n ops[n] (Array.getElem?_eq_getElem hlt) (by
        cases hq : isEff ops[n].op with
        | false => rfl
        | true => exact absurd ⟨_, Array.getElem?_eq_getElem hlt, hq⟩ hef)
      refine advance D hclo hnp k (n + 1) g (by omega) (by rw [hst]; exact hs) (fun e h1 h2 => ?_) (fun i o t e h1 h2 h3 h4 h5 => hN i o t e h1 h2 h3 h4 fun hi => ?_) hx ⟨B, fun i hi => b1 i (by omega), fun i j hi h1 h2 hj => b2 i j (by omega) h1 h2 (by omega)⟩
      · rcases Nat.lt_or_ge e n with q | q
        · exact he e q h2
        · have : e = n := by omega
          subst this
          exact absurd h2 hef
      · have := h5 hi
        rcases Nat.lt_or_ge i n with q | q
        · exact q
        · have : i = n := by omega
          subst this
          exact absurd hi hef
    case pos =>
    cases hL : L n with
    | false => exact ⟨g, ⟨n, by omega, he, .inr ⟨hef, hL⟩, hs, hN, B, fun i hi => b1 i (by omega), fun i j hi h1 h2 hj => b2 i j (by omega) h1 h2 (by omega)⟩, hx, ExtB.refl _ _⟩
    | true =>
      obtain ⟨h1, h2, h3, h4, o, T, zv, k1, k2, k3, k4, k5, k6⟩ := b1 n (Nat.le_refl _) hef hL
      obtain ⟨e, e1, e2, e3, e4⟩ := D.step n o k1
      have hrun : e.v = .ptr (memAt tr s'.m n).bx.length 0 ∧ memAt tr s'.m (n + 1) = ⟨(memAt tr s'.m n).bx ++ [zv.cells.toList.map A.ofCell], (memAt tr s'.m n).rw⟩ := by
        rcases e4 with ⟨⟨q, _⟩ | ⟨_, ⟨gop, args, tys, hh, caps, hop, _⟩ | ⟨_, hop, _⟩⟩, _⟩ | ⟨p, b, m, hp, hin, _⟩ | ⟨b, m, hp, _, _, gop, args, tys, hh, caps, hop, _⟩
        · unfold wantA at q
          rw [k3] at q
          cases q
        · rw [k2] at hop; cases hop
        · rw [k2] at hop
          simp only [opA, k6, Option.bind_some, Option.some.injEq, Prod.mk.injEq] at hop
          exact ⟨hop.1.symm, hop.2.symm⟩
        · have := hnp p b m hp
          rw [hclo n hL p hin] at this
          cases this
        · rw [k2] at hop; cases hop
      obtain ⟨g', s1, s2, s3, s4, s5⟩ := hs.adopt h1 h4 k5 (VRs_ofCells _)
      have hx' : Ext w1 g1 w g' := by
        refine ⟨⟨fun b o hF => ?_, Nat.le_trans hx.nb s2.nb, fun i hi => ?_, fun i Lr hLr => ?_⟩, fun b' hb' hl' => ?_, hx.sz⟩
        · obtain ⟨q1, q2⟩ := hx.fx b o hF
          exact ⟨(s2.fx b o q1).1, q2⟩
        · rw [s2.bb i (Nat.lt_of_lt_of_le hi hx.nb), hx.bb i hi]
        · obtain ⟨L1, q1, q2, q3, q4⟩ := hx.rl i Lr hLr
          obtain ⟨L2, r1, r2, r3, r4⟩ := s2.rl i L1 q1
          refine ⟨L2, r1, Nat.le_trans q2 r2, fun e => ?_, r4.trans q4⟩
          have e1 : L1 = Lr := by omega
          have e2 : L2 = L1 := by omega
          exact ⟨(r3 e2).1.trans (q3 e1).1, (r3 e2).2.trans (q3 e1).2⟩
        · obtain ⟨q1, q2⟩ := hx.fr b' hb' hl'
          exact ⟨q1, s5 b' (by omega) q2⟩
      obtain ⟨g'', r1, r2, r3⟩ := advance D hclo hnp k (n + 1) g' (by omega) (by rw [hrun.2]; exact s1) (fun e h1 h2 => by
          rcases Nat.lt_or_ge e n with q | q
          · exact he e q h2
          · have : e = n := by omega
            subst this
            exact hL) (fun i o' t e' q1 q2 q3 q4 q5 => by
          by_cases hin : i = n
          · subst hin
            rw [k1] at q1
            cases q1
            rw [e1] at q4
            cases q4
            rw [hrun.1, k4 t q3, VR]
            exact ⟨by rw [s4]; omega, by rw [s3]⟩
          · refine VR.monoB s2 _ _ (hN i o' t e' q1 q2 q3 q4 fun hi => ?_)
            have := q5 hi
            omega) hx' ⟨B, fun i hi q1 q2 => by
          obtain ⟨p1, p2, p3, p4, p5⟩ := b1 i (by omega) q1 q2
          exact ⟨p1, p2, p3, s5 _ (fun q => by have := b2 i n (by omega) q1 q2 (Nat.le_refl _) hef hL q; omega) p4, p5⟩, fun i j hi q1 q2 hj => b2 i j (by omega) q1 q2 (by omega)⟩
      refine ⟨g'', r1, r2, ⟨fun b o hF => ?_, Nat.le_trans s2.nb r3.nb, fun i hi => ?_, fun i Lr hLr => ?_⟩⟩
      · exact ⟨(r3.fx b o (s2.fx b o hF).1).1, rfl⟩
      · rw [r3.bb i (Nat.lt_of_lt_of_le hi s2.nb), s2.bb i hi]
      · obtain ⟨L1, q1, q2, q3, q4⟩ := s2.rl i Lr hLr
        obtain ⟨L2, p1, p2, p3, p4⟩ := r3.rl i L1 q1
        refine ⟨L2, p1, Nat.le_trans q2 p2, fun e => ?_, p4.trans q4⟩
        have e1 : L1 = Lr := by omega
        have e2 : L2 = L1 := by omega
        exact ⟨(p3 e2).1.trans (q3 e1).1, (p3 e2).2.trans (q3 e1).2⟩

theorem Inv.next (D : Drawn C nt ops d po s s' tr) {L : Nat → Bool} {g g' : Gh} {a : Act} {w w' : World} (I : Inv C nt ops d po s s' tr w0 df w1 g1 L g a w) {i : Nat} {o : Oper} {v : Value}
    (ho : ops[i]? = some o) (hL : L i = false) (hnp : ∀ p b m, po = some (p, b, m) → p ≠ i) (hpre : ∀ j ∈ d.pre.getD i [], L j = true) (hx : ExtB w g w' g') (hx1 : Ext w1 g1 w' g')
    (hm : MemP C ops d s' tr w0 w1 (fun j => if j = i then true else L j) g' (a.put o.dst v) w') :
    Inv C nt ops d po s s' tr w0 df w1 g1 (fun j => if j = i then true else L j) g' (a.put o.dst v) w' := by
  refine ⟨by rw [put_size]; exact I.size, by rw [put_defers]; exact I.dfr, fun j hj k hk => ?_, fun t ht => ?_, hm, hx1, fun p b m hp => by show (if p = i then true else L p) = false; rw [if_neg (hnp p b m hp)]; exact I.np p b m hp⟩
  · have hj : (if j = i then true else L j) = true := hj
    show (if k = i then true else L k) = true
    split
    · rfl
    · split at hj
      · rename_i h1; subst h1; exact hpre k hk
      · exact I.clo j hj k hk
  · have hne : o.dst ≠ some t := fun q => by
      have := ht i o ho q
      simp at this
    rw [getD_put_ne hne]
    refine VR.monoB hx _ _ (I.old t fun j o' ho' hd' => ?_)
    have : (if j = i then true else L j) = false := ht j o' ho' hd'
    split at this
    · cases this
    · exact this

theorem sched_sound (D : Drawn C nt ops d po s s' tr) {Q : Exit → Act → World → Prop} (hQ : ∀ L g a w, (∀ i, i < ops.size → L i = true) → Inv C nt ops d po s s' tr w0 df w1 g1 L g a w → Q .normal a w)
    (hP : ∀ p b m L g a w g' w' ch, po = some (p, b, m) → p < ops.size → Inv C nt ops d po s s' tr w0 df w1 g1 L g a w → SR C.P C.gl w0 g' m w' → Ext w g w' g' → ResR w' g' (.pan b) (.panicked ch) → Q (.panic ch) a w') :
    ∀ (l : List Nat) (L : Nat → Bool) (g : Gh) (a : Act) (w : World), Topo ops L l → Inv C nt ops d po s s' tr w0 df w1 g1 L g a w → wpOps C.P ops Q l a w
  | [], L, g, a, w, ht, I => hQ L g a w ht I
  | i :: r, L, g, a, w, ⟨hi, hL, hdir, htop⟩, I => by
    have rec_ := sched_sound D hQ hP r
    obtain ⟨o, ho⟩ : ∃ o, ops[i]? = some o := ⟨ops[i], Array.getElem?_eq_getElem hi⟩
    obtain ⟨e, he, hem, hd, hstep⟩ := D.step i o ho
    have hpre : ∀ j ∈ d.pre.getD i [], L j = true := fun j hj => by
      obtain ⟨ev, hev, hb, q⟩ := D.facts.pre i o ho j hj
      have := hdir o ho ev hev hb
      rcases q with q | q
      · rw [← q]; exact this
      · exact I.clo _ this j q
    obtain ⟨c, hc1, hc2, hc3, hsr, hnew, B, hB1, hB2⟩ := I.mem
    have hreads : ∀ t ∈ readsOf ops o, VR w g (lk t (tmAt ops.toList tr s.tm i)) (a.tmps.getD t undef) := fun t ht => by
      by_cases hex : ∃ (j : Nat) (o' : Oper), ops[j]? = some o' ∧ o'.dst = some t
      · obtain ⟨j, o', ho', hd'⟩ := hex
        rcases D.facts.reads i j o o' t ho ho' ht hd' with ⟨q1, q2⟩ | ⟨q1, q2⟩
        · obtain ⟨e', he', _⟩ := D.step j o' ho'
          rw [tmAt_new ops.toList tr s.tm i j t o' e' q1 (by simpa using ho') he' hd' fun k o'' hk hk' hdk => D.facts.dst k j o'' o' t (by simpa using hk') ho' hk hdk hd']
          refine hnew j o' t e' ho' (hpre j q2) hd' he' fun hej => ?_
          rcases Nat.lt_trichotomy j c with q | q | q
          · exact q
          · subst q
            rcases hc3 with q | ⟨_, q⟩
            · have := (Array.getElem?_eq_some_iff.1 ho').1
              omega
            · rw [hpre j q2] at q; cases q
          · exfalso
            rcases hc3 with q3 | ⟨⟨oc, hoc, hec⟩, q3⟩
            · have := (Array.getElem?_eq_some_iff.1 ho').1
              omega
            · obtain ⟨oj, hoj, hej⟩ := hej
              rw [ho'] at hoj
              cases hoj
              rcases D.facts.effs c j oc o' hoc ho' hec hej q with q4 | q4
              · have := I.clo j (hpre j q2) c q4
                rw [q3] at this; cases this
              · have := hpre c (q4.2.2 i o t ho hd' ht c oc hoc hec q)
                rw [q3] at this; cases this
        · have hLj : L j = false := by
            cases hq : L j with
            | false => rfl
            | true => have := I.clo j hq i q2; rw [hL] at this; cases this
          rw [tmAt_old ops.toList tr s.tm i t fun k o'' hk hk' hdk => by
            by_cases hkj : k = j
            · omega
            · exact D.facts.dst k j o'' o' t (by simpa using hk') ho' hkj hdk hd']
          refine I.old t fun k o'' hk' hdk => ?_
          by_cases hkj : k = j
          · subst hkj; exact hLj
          · exact absurd hd' (D.facts.dst k j o'' o' t hk' ho' hkj hdk)
      · rw [tmAt_old ops.toList tr s.tm i t fun k o'' hk hk' hdk => hex ⟨k, o'', by simpa using hk', hdk⟩]
        exact I.old t fun k o'' hk' hdk => absurd ⟨k, o'', hk', hdk⟩ hex
    -- the operands
    let ρX : Operand → A := fun x => match x with | .tmp t => if t ∈ readsOf ops o then lk t (tmAt ops.toList tr s.tm i) else .undef | x => opd C.gl (tmAt ops.toList tr s.tm i) x
    have hρX : ∀ x, VR w g (ρX x) (a.eval x) := fun x => by
      cases x with
      | tmp t =>
        show VR w g (if t ∈ readsOf ops o then _ else _) _
        split
        · rename_i hin; exact hreads t hin
        · rw [VR]; trivial
      | const v => exact VR_ofV v
      | global n => exact hsr.gl n
      | func f =>
        show VR w g (.fn f []) (.func (.func f) #[] #[])
        rw [VR]
        exact ⟨[], rfl, VRs.mk_nil⟩
    have hagree : ∀ x ∈ o.op.operands.toList, opd C.gl (tmAt ops.toList tr s.tm i) x = ρX x := fun x hx => by
      cases x with
      | tmp t =>
        show lk t _ = if t ∈ readsOf ops o then _ else _
        rw [if_pos]
        unfold readsOf
        rw [List.mem_append]
        exact .inl (List.mem_filterMap.2 ⟨.tmp t, hx, rfl⟩)
      | const v => rfl
      | global n => rfl
      | func f => rfl
    -- it does not wait for the one that panics
    rcases hstep with ⟨hstep, hne0⟩ | ⟨p, b, mp, hpo, hin, _⟩ | ⟨b, mp, hpo, _, hpan⟩
    case inr.inl =>
      have h1 := I.np p b mp hpo
      rw [hpre p hin] at h1
      cases h1
    case inr.inr =>
      obtain ⟨hw, gop, args, tys, hh, caps, hop, hfn, hcall⟩ := hpan
      have hwant := want_sound' (ops := ops) rfl hw hreads
      simp only [wpOps, ho, hwant, if_true]
      refine .inl ?_
      have hei : effAt ops i := ⟨o, ho, by rw [hop]; rfl⟩
      have hcc : c = i := by
        rcases Nat.lt_trichotomy c i with q | q | q
        · rcases hc3 with h | ⟨⟨oc, hoc, hec⟩, hLc⟩
          · omega
          · obtain ⟨o2, ho2, he2⟩ := hei
            rcases D.facts.effs c i oc o2 hoc ho2 hec he2 q with q4 | ⟨⟨T, q4⟩, _⟩
            · have := hpre c q4
              rw [hLc] at this; cases this
            · rw [ho] at ho2
              cases ho2
              rw [hop] at q4; cases q4
        · exact q
        · have := hc2 i q hei
          rw [hL] at this; cases this
      subst hcc
      have hgm : gop ∈ o.op.operands.toList := by rw [hop]; simp [Op.operands, Call.operands]
      have hgv := hρX gop
      rw [← hagree gop hgm, hfn, VR] at hgv
      obtain ⟨us, hgv, hus⟩ := hgv
      obtain ⟨hcb, hcalls⟩ := hcall
      have hargs : VRs w g (args.toList.map (opd C.gl (tmAt ops.toList tr s.tm c)) ++ caps) (args.toList.map a.eval ++ us) := by
        rw [List.map_congr_left fun x hx => hagree x (by rw [hop]; simp only [Op.operands, Call.operands, Array.toList_append, List.mem_append]; exact .inr hx)]
        exact (VRs_map hρX).append hus
      unfold Oper.wp
      rw [run_call hop hgv hcb, Oper.upon_enter]
      have := hcalls w0 g w _ hsr hargs
      rw [show (args.toList.map a.eval ++ us).toArray = args.map a.eval ++ us.toArray from by apply Array.ext'; simp] at this
      refine this.mono fun en w' hR => ?_
      obtain ⟨g', hs', hx, hres⟩ := hR
      cases en with
      | returned v => exact hres.elim
      | panicked ch => exact hP c b mp L g a w g' w' ch hpo hi I hs' hx hres
      | outgrown => exact hres.elim
    have hnp : ∀ p b m, po = some (p, b, m) → p ≠ i := by
      rintro p b m hpo rfl
      exact hne0 b m hpo
    -- the memory
    have hci : effAt ops i → c = i ∨ (c < i ∧ AlOk ops d i o) := fun hei => by
      rcases Nat.lt_trichotomy c i with q | q | q
      · rcases hc3 with h | ⟨⟨oc, hoc, hec⟩, hLc⟩
        · omega
        · obtain ⟨o2, ho2, he2⟩ := hei
          rw [ho] at ho2
          cases ho2
          rcases D.facts.effs c i oc o hoc ho hec he2 q with q4 | q4
          · have := hpre c q4
            rw [hLc] at this; cases this
          · exact .inr ⟨q, q4⟩
      · exact .inl q
      · have := hc2 i q hei
        rw [hL] at this; cases this
    have hclo' : ∀ j, (if j = i then true else L j) = true → ∀ k ∈ d.pre.getD j [], (if k = i then true else L k) = true := fun j hj k hk => by
      split
      · rfl
      · split at hj
        · rename_i h1; subst h1; exact hpre k hk
        · exact I.clo j hj k hk
    have hnp' : ∀ p b m, po = some (p, b, m) → (if p = i then true else L p) = false := fun p b m hp => by rw [if_neg (hnp p b m hp)]; exact I.np p b m hp
    have hpd : ∀ (g' : Gh) (w' : World) (v : Value), Ext w g w' g' → ∀ j, c < j → effAt ops j → (if j = i then true else L j) = true → j ≠ i → PendAt C ops d w0 w1 j (B j) g' (a.put o.dst v) w' := fun g' w' v hx j hj hej hLj hji => by
      rw [if_neg hji] at hLj
      exact (hB1 j hj hej hLj).next D ho hji hx
    /- an effect whose turn it is -/
    have finE : c = i → ∀ (g' : Gh) (w' : World) (v : Value), Ext w g w' g' → VR w' g' e.v v → SR C.P C.gl w0 g' (memAt tr s'.m (i + 1)) w' → wpOps C.P ops Q r (a.put o.dst v) w' := fun hci g' w' v hx hv hs2 => by
      subst hci
      obtain ⟨g'', m1, m2, m3⟩ := advance D (L := fun j => if j = c then true else L j) (a := a.put o.dst v) (w := w') (w0 := w0) (w1 := w1) (g1 := g1) hclo' hnp' (ops.size - (c + 1)) (c + 1) g' (by omega) hs2 (fun k hk hek => by
          show (if k = c then true else L k) = true
          split
          · rfl
          · exact hc2 k (by omega) hek)
        (by
          have hN := NewOk.next D (c := c + 1) (fun j o' t e' q1 q2 q3 q4 q5 => hnew j o' t e' q1 q2 q3 q4 fun hej => by
            have := q5 hej
            rcases Nat.lt_or_ge j c with q | q
            · exact q
            · have : j = c := by omega
              subst this
              rw [hL] at q2; cases q2) I.size ho he hd hx.toExtB (fun _ => hv)
          exact hN) (I.ext.trans hx)
        ⟨B, fun j hj hej hLj => hpd g' w' v hx j (by omega) hej hLj (by omega), fun j k hj hej hLj hk hek hLk hjk => by
          have hLj : (if j = c then true else L j) = true := hLj
          have hLk : (if k = c then true else L k) = true := hLk
          rw [if_neg (by omega)] at hLj hLk
          exact hB2 j k (by omega) hej hLj (by omega) hek hLk hjk⟩
      refine rec_ _ g'' _ w' htop (I.next D ho hL hnp hpre ?_ m2 m1)
      refine ⟨fun b o hF => ?_, Nat.le_trans hx.nb m3.nb, fun i hi => ?_, fun i Lr hLr => ?_⟩
      · obtain ⟨q1, q2⟩ := hx.fx b o hF
        exact ⟨(m3.fx b o q1).1, q2⟩
      · rw [m3.bb i (Nat.lt_of_lt_of_le hi hx.nb), hx.bb i hi]
      · obtain ⟨L1, q1, q2, q3, q4⟩ := hx.rl i Lr hLr
        obtain ⟨L2, p1, p2, p3, p4⟩ := m3.rl i L1 q1
        refine ⟨L2, p1, Nat.le_trans q2 p2, fun e => ?_, p4.trans q4⟩
        have e1 : L1 = Lr := by omega
        have e2 : L2 = L1 := by omega
        exact ⟨(p3 e2).1.trans (q3 e1).1, (p3 e2).2.trans (q3 e1).2⟩
    /- what changes no memory -/
    have finN : ¬ effAt ops i → ∀ (g' : Gh) (w' : World) (v : Value), Ext w g w' g' → VR w' g' e.v v → SR C.P C.gl w0 g' (memAt tr s'.m c) w' → wpOps C.P ops Q r (a.put o.dst v) w' := fun hne g' w' v hx hv hs2 => by
      have hic : i ≠ c ∨ c = ops.size := by
        by_cases h : i = c
        · subst h
          rcases hc3 with q | ⟨q, _⟩
          · exact .inr q
          · exact absurd q hne
        · exact .inl h
      refine rec_ _ g' _ w' htop (I.next D ho hL hnp hpre hx.toExtB (I.ext.trans hx) ⟨c, hc1, fun k hk hek => ?_, ?_, hs2, NewOk.next D hnew I.size ho he hd hx.toExtB (fun _ => hv), B, fun j hj hej hLj => hpd g' w' v hx j hj hej hLj (fun q => hne (by rw [← q]; exact hej)), fun j k hj hej hLj hk hek hLk hjk => ?_⟩)
      · show (if k = i then true else L k) = true
        split
        · rfl
        · exact hc2 k hk hek
      · rcases hc3 with q | ⟨q1, q2⟩
        · exact .inl q
        · exact .inr ⟨q1, by show (if c = i then true else L c) = false; rw [if_neg (fun q => hne (by rw [← q]; exact q1))]; exact q2⟩
      · have hLj : (if j = i then true else L j) = true := hLj
        have hLk : (if k = i then true else L k) = true := hLk
        rw [if_neg (fun q => hne (by rw [← q]; exact hej))] at hLj
        rw [if_neg (fun q => hne (by rw [← q]; exact hek))] at hLk
        exact hB2 j k hj hej hLj hk hek hLk hjk
    rcases hstep with ⟨hw, hv, hm1, hkd⟩ | ⟨hw, hrun⟩
    · -- it does not run
      have hwant := want_sound' (ops := ops) rfl hw hreads
      simp only [wpOps, ho, hwant, Bool.false_eq_true, if_false]
      have hvu : VR w g e.v undef := by rw [hv, VR]; exact ⟨[], rfl, VRs.mk_nil⟩
      by_cases hei : effAt ops i
      · rcases hci hei with q | ⟨_, q⟩
        · refine finE q g w undef (Ext.refl _ _) hvu ?_
          rw [hm1]
          rw [q] at hsr
          exact hsr
        · exfalso
          unfold wantA at hw
          rw [q.2.1] at hw
          cases hw
      · exact finN hei g w undef (Ext.refl _ _) hvu hsr
    · have hwant := want_sound' (ops := ops) rfl hw hreads
      simp only [wpOps, ho, hwant, if_true]
      refine .inl ?_
      have upon : ∀ (b : A) (m' : Mem), b = e.v → Good C.P C.gl w0 w g m' b ((execOp a.eval o).run C.P w) → (∀ g' w' v, Ext w g w' g' → VR w' g' e.v v → SR C.P C.gl w0 g' m' w' → wpOps C.P ops Q r (a.put o.dst v) w') → o.wp C.P a w (wpOps C.P ops Q r) Q := by
        rintro b m' rfl ⟨v, w', g', hr, hv, hs', hx⟩ hm
        unfold Oper.wp
        rcases hr with hr | ⟨hr, rfl⟩
        · rw [hr]; exact hm g' w' v hx hv hs'
        · rw [hr]; exact hm g' w' undef hx hv hs'
      rcases hrun with ⟨gop, args, tys, hh, caps, hop, hfn, hcall, hkd⟩ | ⟨hnc, hopA, hkd⟩
      · -- a call
        have hei : effAt ops i := ⟨o, ho, by rw [hop]; rfl⟩
        have hcc : c = i := by
          rcases hci hei with q | ⟨_, ⟨T, q⟩, _⟩
          · exact q
          · rw [hop] at q; cases q
        subst hcc
        have hgm : gop ∈ o.op.operands.toList := by rw [hop]; simp [Op.operands, Call.operands]
        have hgv := hρX gop
        rw [← hagree gop hgm, hfn, VR] at hgv
        obtain ⟨us, hgv, hus⟩ := hgv
        obtain ⟨hcb, hcalls⟩ := hcall
        have hargs : VRs w g (args.toList.map (opd C.gl (tmAt ops.toList tr s.tm c)) ++ caps) (args.toList.map a.eval ++ us) := by
          rw [List.map_congr_left fun x hx => hagree x (by rw [hop]; simp only [Op.operands, Call.operands, Array.toList_append, List.mem_append]; exact .inr hx)]
          exact (VRs_map hρX).append hus
        unfold Oper.wp
        rw [run_call hop hgv hcb, Oper.upon_enter]
        have := hcalls w0 g w _ hsr hargs
        rw [show (args.toList.map a.eval ++ us).toArray = args.map a.eval ++ us.toArray from by apply Array.ext'; simp] at this
        refine this.mono fun en w' hR => ?_
        obtain ⟨g', hs', hx, hres⟩ := hR
        cases en with
        | returned v => exact finE rfl g' w' v hx hres hs'
        | panicked ch => exact hres.elim
        | outgrown => exact hres.elim
      · rw [opA_congr hagree] at hopA
        by_cases heo : isEff o.op = true
        · have hei : effAt ops i := ⟨o, ho, heo⟩
          rcases hci hei with hcc | ⟨hcc, hal⟩
          · have hsr' := hsr
            rw [hcc] at hsr'
            exact upon _ _ rfl (opA_sound hsr' o hopA hρX) (finE hcc)
          · -- an allocation that comes early
            obtain ⟨⟨T, hT⟩, hgn, _⟩ := hal
            have hopA' := hopA
            rw [hT] at hopA'
            simp only [opA] at hopA'
            obtain ⟨z, hz, _⟩ := Option.bind_eq_some_iff.1 hopA'
            obtain ⟨zv, hzr, hzz⟩ := run_zero (w := w) hz
            obtain ⟨n1, n2, n3⟩ := hsr.newLoose (.cells zv.cells T)
            have hr : (execOp a.eval o).run C.P w = .ok (.value (.pointer (some ⟨w.heap.size, 0, none⟩))) (w.alloc (.cells zv.cells T)) := by
              simp only [execOp, hT, Instr.alloc, Sem.run_bind, hzr, Result.andThen_ok, newVar, newRow, run_newObj, Sem.run_pure]
              rfl
            unfold Oper.wp
            rw [hr]
            show wpOps C.P ops Q r (a.put o.dst (.pointer (some ⟨w.heap.size, 0, none⟩))) (w.alloc (.cells zv.cells T))
            have hsz0 : w1.heap.size ≤ w.heap.size := I.ext.sz
            have hlast : (w.alloc (.cells zv.cells T)).heap[w.heap.size]? = some (.cells zv.cells T) := heap_new _ _
            refine rec_ _ g _ _ htop (I.next D ho hL hnp hpre n2.toExtB (I.ext.trans n2) ⟨c, hc1, fun k hk hek => ?_, ?_, n1, NewOk.next D hnew I.size ho he hd n2.toExtB (fun q => by have := q hei; omega), fun j => if j = i then w.heap.size else B j, fun j hj hej hLj => ?_, fun j k hj hej hLj hk hek hLk hjk => ?_⟩)
            · show (if k = i then true else L k) = true
              split
              · rfl
              · exact hc2 k hk hek
            · rcases hc3 with q | ⟨q1, q2⟩
              · exact .inl q
              · exact .inr ⟨q1, by show (if c = i then true else L c) = false; rw [if_neg (by omega)]; exact q2⟩
            · by_cases hji : j = i
              · subst hji
                simp only [if_true]
                refine ⟨hsr.szB, hsz0, by simp, n3, o, T, zv, ho, hT, hgn, fun t ht => ?_, hlast, by rw [hz, hzz]⟩
                rw [ht] at hd ⊢
                simp only [Option.all_some, decide_eq_true_eq] at hd
                exact getD_put_same (by rw [I.size]; exact hd)
              · simp only [hji, if_false]
                exact hpd g _ _ n2 j hj hej hLj hji
            · have hlt : ∀ j, c < j → effAt ops j → (if j = i then true else L j) = true → j ≠ i → B j < w.heap.size := fun j q1 q2 q3 q4 => by
                rw [if_neg q4] at q3
                exact (hB1 j q1 q2 q3).lt
              by_cases hji : j = i
              · by_cases hki : k = i
                · rw [hji, hki]
                · simp only [hji, hki, if_true, if_false] at hjk
                  have := hlt k hk hek hLk hki
                  omega
              · by_cases hki : k = i
                · simp only [hji, hki, if_true, if_false] at hjk
                  have := hlt j hj hej hLj hji
                  omega
                · simp only [hji, hki, if_false] at hjk
                  have hLj : (if j = i then true else L j) = true := hLj
                  have hLk : (if k = i then true else L k) = true := hLk
                  rw [if_neg hji] at hLj
                  rw [if_neg hki] at hLk
                  exact hB2 j k hj hej hLj hk hek hLk hjk
        · have hei : ¬ effAt ops i := fun ⟨o2, ho2, he2⟩ => by rw [ho] at ho2; cases ho2; exact heo he2
          have heo' : isEff o.op = false := by simpa using heo
          by_cases hl : ∃ t x, o.op = .load t x
          · obtain ⟨t, x, hl⟩ := hl
            have hload : loadA C.P t (ρX x) (memAt tr s'.m c) = some e.v := by
              have hent : tr[i]? = some ⟨.load t (opd C.gl (tmAt ops.toList tr s.tm i) x), e.v, e.m⟩ := by
                rw [he]
                obtain ⟨kd, v, m⟩ := e
                simp only at hkd ⊢
                rw [hkd, hl]
                rfl
              have hchk := chkNeed_mem D.need (D.facts.need i o t x ho hl) _ _ _ _ hent
              have hxa := hagree x (by rw [hl]; simp [Op.operands])
              rw [hxa] at hchk
              have hreq := reqOf_mem (pre := d.pre) (p := i) (c := c) (n := ops.size) I.clo hL hpre (effIdx ops) (fun k hk hkc => hc2 k hkc (effIdx_mem.1 hk)) (List.Pairwise.filter _ (List.pairwise_lt_range))
              rcases hc3 with q | ⟨q1, q2⟩
              · have := hchk.2 (hreq.2 fun k hk => hc2 k (by
                  have := effIdx_mem.1 hk
                  obtain ⟨ok, hok, _⟩ := this
                  have := (Array.getElem?_eq_some_iff.1 hok).1
                  omega) (effIdx_mem.1 hk))
                have hm : memAt tr s'.m c = s'.m := by
                  unfold memAt
                  rw [List.getElem?_eq_none (by rw [D.valid.length]; simp; omega)]
                  rfl
                rw [hm]
                exact this
              · have q1' := q1
                obtain ⟨oc, hoc, _⟩ := q1'
                obtain ⟨ec, hec, hecm, _⟩ := D.step c oc hoc
                have := hchk.1 c (hreq.1 ⟨effIdx_mem.2 q1, q2⟩) ec hec
                rw [← hecm]
                exact this
            have hop' : opA C.P o.op ρX (memAt tr s'.m c) = some (e.v, memAt tr s'.m c) := by
              rw [hl]
              simp only [opA, hload, Option.map_some]
            exact upon _ _ rfl (opA_sound hsr o hop' hρX) (finN hei)
          · have := (opA_mem (m' := memAt tr s'.m c) heo' (fun t x q => hl ⟨t, x, q⟩) hopA).2
            exact upon _ _ rfl (opA_sound hsr o this hρX) (finN hei)

/-- A region that draws. -/
theorem draw_sound (hm : C.P.follows .mixedOrders = true) {id : Nat} {k : Option (List Nat)} {w : World} {g : Gh} {a : Act} {x : Ex × St} {ok : Bool} {tr0 : List Ent} {y : Option (A × Mem) × St} (hok : ok = true → drawOk ops d = true) (hr : DrawR C nt ops.toList ops.toList s tr0 y) (he : drawEnd C.P C.gl nt ok d ops.toList tr0 k y = some x)
    (hsz : a.tmps.size = nt) (hs : SR C.P C.gl w0 g s.m w) (ht : TmR w g s.tm a.tmps) : (Code.region id ops true).wp C.P (Post C w0 w g nt a.defers x) a w := by
  have main : ∀ (po : Option (Nat × A × Mem)) (s' : St) (tr : List Ent), Valid C nt d po ops.toList 0 ops.toList s tr s' → ok = true → chkNeed C.P tr s'.m d.need → (∀ p b m, po = some (p, b, m) → p < ops.size) →
      (∀ L g' a' w', po = none → (∀ i, i < ops.size → L i = true) → Inv C nt ops d po s s' tr w0 a.defers w g L g' a' w' → Drawn C nt ops d po s s' tr → SR C.P C.gl w0 g' s'.m w' → (∀ (i : Nat) (o : Oper) (t : Nat) (e : Ent), ops[i]? = some o → o.dst = some t → tr[i]? = some e → VR w' g' e.v (a'.tmps.getD t undef)) → Post C w0 w g nt a.defers x .normal a' w') →
      (∀ p b m L g1 a' w1 g' w' ch, po = some (p, b, m) → Inv C nt ops d po s s' tr w0 a.defers w g L g1 a' w1 → Drawn C nt ops d po s s' tr → SR C.P C.gl w0 g' m w' → Ext w1 g1 w' g' → ResR w' g' (.pan b) (.panicked ch) → Post C w0 w g nt a.defers x (.panic ch) a' w') →
      (Code.region id ops true).wp C.P (Post C w0 w g nt a.defers x) a w := by
    intro po s' tr hv c1 c2 hlt hN hPn
    replace c1 := hok c1
    have F := drawOk_facts c1
    have D : Drawn C nt ops d po s s' tr := ⟨hv, F, c2⟩
    obtain ⟨hsd, hed⟩ := hs.drew
    refine wp_region_draw fun t => ?_
    refine sched_sound D (w0 := w0) (w1 := w) (g1 := g) (df := a.defers) ?_ ?_ _ (fun _ => false) g a w.drew (schedule_topo ops F.lt _ hm t) ?_
    · intro L g' a' w' hall I
      obtain ⟨c, h1, h2, h3, h4, h5, _⟩ := I.mem
      have hmem : memAt tr s'.m c = s'.m := by
        rcases h3 with q | ⟨⟨oc, hoc, _⟩, q⟩
        · unfold memAt
          rw [List.getElem?_eq_none (by rw [hv.length]; simp; omega)]
          rfl
        · rw [hall c (Array.getElem?_eq_some_iff.1 hoc).1] at q
          cases q
      rw [hmem] at h4
      have hpo : po = none := by
        cases hq : po with
        | none => rfl
        | some z =>
          obtain ⟨p, b, m⟩ := z
          have h5 := I.np p b m hq
          rw [hall p (hlt p b m hq)] at h5; cases h5
      refine hN L g' a' w' hpo hall I D h4 fun i o t e q1 q2 q3 => h5 i o t e q1 (hall i (Array.getElem?_eq_some_iff.1 q1).1) q2 q3 fun _ => ?_
      rcases h3 with q | ⟨⟨oc, hoc, _⟩, q⟩
      · have := (Array.getElem?_eq_some_iff.1 q1).1
        omega
      · rw [hall c (Array.getElem?_eq_some_iff.1 hoc).1] at q
        cases q
    · intro p b m L g1 a' w1 g' w' ch hpo _ I h1 h2 h3
      exact hPn p b m L g1 a' w1 g' w' ch hpo I D h1 h2 h3
    · refine ⟨hsz, rfl, (fun i hi => by cases hi), fun t _ => VR.mono hed _ _ (ht t), ?_, hed, fun _ _ _ _ => rfl⟩
      obtain ⟨c, h1, h2, h3, h4⟩ := search (effAt ops) ops.size ops.size 0 (by omega)
      refine ⟨c, h2, fun k hk hek => absurd hek (h3 k (Nat.zero_le _) hk), ?_, ?_, (fun i o t e _ hi => by cases hi), fun _ => 0, (fun i _ _ hi => by cases hi), fun i j _ _ hi => by cases hi⟩
      · rcases h4 with q | q
        · exact .inl q
        · exact .inr ⟨q, rfl⟩
      · have := D.same 0 c (by omega) fun k _ hk hek => h3 k (Nat.zero_le _) (by omega) hek
        rw [Nat.zero_add] at this
        rw [this, hv.head]
        exact hsd
  obtain ⟨po, s1⟩ := y
  cases po with
  | none =>
    unfold drawEnd at he
    simp only at he
    split at he
    · rename_i hc
      simp only [Option.some.injEq] at he
      subst he
      have hv := hr.valid (d := d) (i := 0)
      refine main none s1 tr0 hv hc.1 hc.2 (fun p b m e => by cases e) ?_ (fun p b m L g1 a' w1 g' w' ch e => by cases e)
      intro L g' a' w' _ hall I D h4 hfin
      have F := D.facts
      refine ⟨g', h4, I.ext, TmR.prune _ fun t => ?_, I.size, I.dfr, trivial⟩
      rw [hv.last]
      by_cases hex : ∃ (j : Nat) (o' : Oper), ops[j]? = some o' ∧ o'.dst = some t
      · obtain ⟨j, o', ho', hd'⟩ := hex
        obtain ⟨e', he', _⟩ := D.step j o' ho'
        have hj := (Array.getElem?_eq_some_iff.1 ho').1
        rw [tmAt_new ops.toList tr0 s.tm ops.toList.length j t o' e' (by simpa using hj) (by simpa using ho') he' hd' fun k o'' hk hk' hdk => F.dst k j o'' o' t (by simpa using hk') ho' hk hdk hd']
        exact hfin j o' t e' ho' hd' he'
      · rw [tmAt_old ops.toList tr0 s.tm _ t fun k o'' hk hk' hdk => hex ⟨k, o'', by simpa using hk', hdk⟩]
        exact I.old t fun k o'' hk' hdk => absurd ⟨k, o'', hk', hdk⟩ hex
    · cases he
  | some z =>
    obtain ⟨b, mp⟩ := z
    unfold drawEnd at he
    simp only at he
    obtain ⟨⟨tr2, s'⟩, h1, h2⟩ := Option.bind_eq_some_iff.1 he
    simp only at h2
    split at h2
    · rename_i hc
      simp only [Option.some.injEq] at h2
      subst h2
      have hpos := hr.pan_pos
      have hv := hr.valid_pan (d := d) (i := 0) (p := tr0.length - 1) (tr2 := tr2) (s' := s') (by omega) (by rw [Nat.zero_add]; exact h1)
      have hvl := hv.length
      refine main _ s' _ hv hc.1 hc.2 (fun p b m e => by simp only [Option.some.injEq, Prod.mk.injEq] at e; simp at hvl; omega) (fun L g' a' w' e => by cases e) ?_
      intro p b' m' L g1 a' w1 g' w' ch hpo I D h3 h4 h5
      simp only [Option.some.injEq, Prod.mk.injEq] at hpo
      obtain ⟨rfl, rfl, rfl⟩ := hpo
      refine ⟨g', h3, I.ext.trans h4, fun t => ?_, I.size, I.dfr, h5⟩
      have hmask : ∀ (l : List Oper) (tm : List (Nat × A)), (∃ o ∈ l, o.dst = some t) → lk t ((l.filterMap fun o => o.dst.map fun t => (t, A.undef)) ++ tm) = .undef := by
        intro l tm
        induction l with
        | nil => rintro ⟨o, ho, _⟩; cases ho
        | cons o r ih =>
          intro hex
          cases hd : o.dst with
          | none =>
            simp only [List.filterMap_cons, hd, Option.map_none]
            refine ih ?_
            obtain ⟨o', ho', hd'⟩ := hex
            rcases List.mem_cons.1 ho' with rfl | h
            · rw [hd] at hd'; cases hd'
            · exact ⟨o', h, hd'⟩
          | some u =>
            simp only [List.filterMap_cons, hd, Option.map_some, List.cons_append, lk]
            split
            · rfl
            · rename_i hut
              refine ih ?_
              obtain ⟨o', ho', hd'⟩ := hex
              rcases List.mem_cons.1 ho' with rfl | h
              · rw [hd] at hd'; exact absurd (Option.some.inj hd') hut
              · exact ⟨o', h, hd'⟩
      have hmask2 : ∀ (l : List Oper) (tm : List (Nat × A)), (∀ o ∈ l, o.dst ≠ some t) → lk t ((l.filterMap fun o => o.dst.map fun t => (t, A.undef)) ++ tm) = lk t tm := by
        intro l tm
        induction l with
        | nil => intro _; rfl
        | cons o r ih =>
          intro hne
          cases hd : o.dst with
          | none =>
            simp only [List.filterMap_cons, hd, Option.map_none]
            exact ih fun o' ho' => hne o' (by simp [ho'])
          | some u =>
            have hut : ¬ u = t := fun e => hne o (by simp) (by rw [hd, e])
            simp only [List.filterMap_cons, hd, Option.map_some, List.cons_append, lk, if_neg hut]
            exact ih fun o' ho' => hne o' (by simp [ho'])
      by_cases hex : ∃ o ∈ ops.toList, o.dst = some t
      · show VR _ _ (lk t (maskTm ops.toList s1.tm)) _
        rw [maskTm, hmask _ _ hex, VR]
        trivial
      · have hno : ∀ o ∈ ops.toList, o.dst ≠ some t := fun o ho e => hex ⟨o, ho, e⟩
        show VR _ _ (lk t (maskTm ops.toList s1.tm)) _
        rw [maskTm, hmask2 _ _ hno, hr.slots hno]
        refine VR.mono h4 _ _ (I.old t fun k o'' hk' hdk => absurd hdk (hno o'' ?_))
        have := (Array.getElem?_eq_some_iff.1 hk')
        rw [← this.2]
        exact Array.getElem_mem_toList this.1
    · cases h2
end
end AE
end Go.Proofs.YthoomlenmgdebaaGreatDoor

/- THE EVALUATOR IS SOUND: functions that defer a call that recovers. -/
set_option linter.unusedVariables false
set_option linter.unusedSimpArgs false
set_option linter.unusedSectionVars false
set_option maxHeartbeats 1600000
namespace Go.Proofs.YthoomlenmgdebaaGreatDoor
namespace AE
open Go Go.RowKit

section
variable {C : Cfg}
theorem argsTm_lk : ∀ (l : List A) (us : List Value) (w : World) (g : Gh) (n t : Nat) (rest : Array Value) (pre : List Value), pre.length = n → VRs w g l us → VR w g (lk t (argsTm n l)) ((pre.toArray ++ us.toArray ++ rest).getD t undef)
  | [], us, w, g, n, t, rest, pre, _, h => by rw [argsTm, lk, VR]; trivial
  | a :: r, us, w, g, n, t, rest, pre, hp, h => by
    rw [VRs.cons_iff] at h
    obtain ⟨u, us', rfl, h1, h2⟩ := h
    rw [argsTm, lk]
    split
    · rename_i ht
      subst ht
      have : (pre.toArray ++ (u :: us').toArray ++ rest).getD n undef = u := by
        rw [Array.getD_eq_getD_getElem?]
        have : (pre.toArray ++ (u :: us').toArray ++ rest)[n]? = some u := by
          rw [← Array.getElem?_toList]
          simp [List.getElem?_append_right, hp]
        rw [this]
        rfl
      rw [this]
      exact h1
    · have := argsTm_lk r us' w g (n + 1) t rest (pre ++ [u]) (by simp [hp]) h2
      have e : ((pre ++ [u]).toArray ++ us'.toArray ++ rest) = (pre.toArray ++ (u :: us').toArray ++ rest) := by
        apply Array.ext'
        simp
      rwa [e] at this


theorem deferAt_some {a : Code} {t : Nat} {g : FuncId} {caps : List Operand} (h : deferAt a = some (t, g, caps)) :
    ∃ id ops cs ty1 ty2 p1 p2 e1 e2 tys, a = .region id ops false ∧ cs.toList = caps ∧
      ops.toList = [⟨some t, .makeFunc (.func g) #[] cs, ty1, p1, e1, none⟩, ⟨none, .defer { callee := .value (.tmp t), args := #[], argTypes := tys }, ty2, p2, e2, none⟩] := by
  unfold deferAt at h
  split at h
  · rename_i id ops
    split at h
    · rename_i heq
      split at h
      · rename_i hc
        simp only [Option.some.injEq, Prod.mk.injEq] at h
        obtain ⟨rfl, rfl, rfl⟩ := h
        obtain ⟨rfl, h1, h2⟩ := hc
        rw [Array.eq_empty_of_size_eq_zero h1, Array.eq_empty_of_size_eq_zero h2] at heq
        exact ⟨_, _, _, _, _, _, _, _, _, _, rfl, rfl, heq⟩
      · cases h
    · cases h
  · cases h

theorem recBody_some {P : Program} {g : FuncId} {nt d : Nat} {rest : Code} {t : Nat} (h : recBody P g = some (nt, t, d, rest)) :
    ∃ fn id ops ty1 ty2 p1 p2 e1 e2, P.funcs[g]? = some fn ∧ fn.name ≠ "runtime.NumGoroutine" ∧ fn.results = #[] ∧ fn.ntmps = nt ∧ fn.body = some (.seq (.region id ops false) rest) ∧ t < nt ∧ d < nt ∧
      ops.toList = [⟨some t, .call { callee := .builtin .recover, args := #[], argTypes := #[] }, ty1, p1, e1, none⟩, ⟨some d, .assign (.tmp t), ty2, p2, e2, none⟩] := by
  unfold recBody at h
  split at h
  · cases h
  · rename_i fn hfn
    split at h
    · cases h
    · rename_i hn
      simp only [not_or, ne_eq, Decidable.not_not] at hn
      split at h
      · rename_i id ops rest' hb
        split at h
        · rename_i heq
          split at h
          · rename_i hc
            simp only [Option.some.injEq, Prod.mk.injEq] at h
            obtain ⟨rfl, rfl, rfl, rfl⟩ := h
            obtain ⟨rfl, h1, h2, h3, h4⟩ := hc
            rw [Array.eq_empty_of_size_eq_zero h3, Array.eq_empty_of_size_eq_zero h4] at heq
            exact ⟨fn, _, _, _, _, _, _, _, _, hfn, hn.1, Array.eq_empty_of_size_eq_zero hn.2, rfl, hb, h1, h2, heq⟩
          · cases h
        · cases h
      · cases h

theorem ops_at {ops : Array Oper} {x y : Oper} (h : ops.toList = [x, y]) : ops[0]? = some x ∧ ops[1]? = some y ∧ ops.size = 2 := by
  have h0 : ops = #[x, y] := by apply Array.ext'; rw [h]
  subst h0
  exact ⟨rfl, rfl, rfl⟩

theorem stepS_value {P : Program} {ops : Array Oper} {Q : Exit → Act → List Frame → World → Prop} {i : Nat} {rest : List Nat} {a : Act} {cs : List Frame} {w : World} {o : Oper} {v : Value} (ho : ops[i]? = some o) (hw : o.guard = none) (hr : (execOp a.eval o).run P w = .ok (.value v) w) (h : wpOpsS P ops Q rest (a.put o.dst v) cs w) : wpOpsS P ops Q (i :: rest) a cs w := by
  have hw' : Region.wanted o (yielded ops a.tmps) = true := by unfold Region.wanted; rw [hw]
  simp only [wpOpsS, ho, hw', if_true, hr]
  exact h
theorem stepS_recover {P : Program} {ops : Array Oper} {Q : Exit → Act → List Frame → World → Prop} {i : Nat} {rest : List Nat} {a : Act} {cs : List Frame} {w : World} {o : Oper} {v : Value} {cs1 : List Frame} (ho : ops[i]? = some o) (hw : o.guard = none) (hr : (execOp a.eval o).run P w = .ok .recover w)
    (hc : (recoverD cs = none ∧ v = .nilIface ∧ cs1 = cs) ∨ recoverD cs = some (v, cs1)) (h : wpOpsS P ops Q rest (a.put o.dst v) cs1 w) : wpOpsS P ops Q (i :: rest) a cs w := by
  have hw' : Region.wanted o (yielded ops a.tmps) = true := by unfold Region.wanted; rw [hw]
  simp only [wpOpsS, ho, hw', if_true, hr]
  rcases hc with ⟨h1, rfl, rfl⟩ | h1
  · rw [h1]; exact h
  · rw [h1]; exact h

theorem rec_sound (hC : CfgOk C) {evR : FuncId → Nat → Code → St → Option (Ex × St)} {evK : FuncId → Nat → Code → St → Option (Ex × St)}
    (hrk : ∀ f nt c s x, evR f nt c s = some x → RecOk C f nt c s x) (hk : ∀ f nt c s x, evK f nt c s = some x → CodeOk C f nt c s x)
    (f : FuncId) (nt : Nat) (c : Code) (s : St) (x : Ex × St)
    (h : (match c with
      | .seq a b =>
        match deferAt a with
        | some d =>
          if d.1 < nt then (do
            let x ← evK f nt b ⟨put (some d.1) (.fn d.2.1 (d.2.2.map (opd C.gl s.tm))) s.tm, s.m⟩
            match endVal x.1, recBody C.P d.2.1 with
              | some v, some r =>
                if d.2.2.length ≤ r.1 then (do
                  let y ← evK d.2.1 r.1 r.2.2.2 ⟨put (some r.2.2.1) v (put (some r.2.1) v (argsTm 0 (d.2.2.map (opd C.gl s.tm)))), x.2.m⟩
                  match y.1 with
                    | .normal => some (.ret, ⟨x.2.tm, y.2.m⟩)
                    | .ret => some (.ret, ⟨x.2.tm, y.2.m⟩)
                    | _ => none)
                else none
              | _, _ => none)
          else none
        | none => (do
          let x ← evK f nt a s
          match x.1 with
            | .normal => evR f nt b x.2
            | e => some (e, x.2))
      | c => evK f nt c s) = some x) : RecOk C f nt c s x := by
  intro hpart fn R w0 g w a hsz hdf hs ht hfin
  have plain : ∀ c', PartOf C f c' → evK f nt c' s = some x → c'.wp C.P (bodyPostD C.P fn R) a w := by
    intro c' hp h
    refine wp_mono (hk _ _ _ _ _ h hp w0 g w a hsz hs ht).1 fun ex a' w' hp => ?_
    obtain ⟨g', p1, p2, p3, p4, p5, p6⟩ := hp
    have := hfin ex g' w' a'.tmps p1 p2 p3 p6
    obtain ⟨tmps, df⟩ := a'
    rw [hdf] at p5
    simp only at p5
    subst p5
    exact this
  split at h
  case h_2 => exact plain _ hpart h
  case h_1 c1 c2 =>
  cases hd : deferAt c1 with
  | none =>
    simp only [hd] at h
    refine wp_seq ?_
    obtain ⟨⟨e, s'⟩, h1, h2⟩ := Option.bind_eq_some_iff.1 h
    refine wp_mono (hk _ _ _ _ _ h1 (hpart.sub (by simp [Sub, Sub.refl])) w0 g w a hsz hs ht).1 fun ex a' w' hp => ?_
    obtain ⟨g', p1, p2, p3, p4, p5, p6⟩ := hp
    by_cases hne : e = .normal
    · subst hne
      simp only at h2
      cases ex <;> first | exact p6.elim | skip
      exact hrk _ _ _ _ _ h2 (hpart.sub (by simp [Sub, Sub.refl])) fn R w0 g' w' a' p4 (by rw [p5, hdf]) p1 p3 fun e2 g2 w2 tm2 q1 q2 q3 q4 => hfin e2 g2 w2 tm2 q1 (p2.trans q2) q3 q4
    · have : x = (e, s') := by cases e <;> first | exact absurd rfl hne | (simp only [Option.some.injEq] at h2; exact h2.symm)
      subst this
      have := hfin ex g' w' a'.tmps p1 p2 p3 p6
      have hb : bodyPostD C.P fn R ex a' w' := by
        obtain ⟨tmps, df⟩ := a'
        rw [hdf] at p5
        simp only at p5
        subst p5
        exact this
      cases ex with
      | normal => cases e <;> first | exact absurd rfl hne | exact p6.elim
      | _ => exact hb
  | some d =>
    obtain ⟨t, gf, caps⟩ := d
    simp only [hd] at h
    split at h
    case isFalse => cases h
    case isTrue htn =>
    obtain ⟨⟨e, s'⟩, h1, h2⟩ := Option.bind_eq_some_iff.1 h
    simp only at h2
    cases hv : endVal e with
    | none => simp only [hv] at h2; cases h2
    | some rv =>
    cases hrb : recBody C.P gf with
    | none => simp only [hv, hrb] at h2; cases h2
    | some r =>
    obtain ⟨gnt, gt, gd, rest⟩ := r
    simp only [hv, hrb] at h2
    split at h2
    case isFalse => cases h2
    case isTrue hcl =>
    obtain ⟨⟨ey, sy⟩, h3, h4⟩ := Option.bind_eq_some_iff.1 h2
    obtain ⟨id, ops, cs, ty1, ty2, p1, p2, e1, e2, tys, rfl, rfl, hops⟩ := deferAt_some hd
    obtain ⟨hop0, hop1, hops2⟩ := ops_at hops
    obtain ⟨gfn, gid, gops, gty1, gty2, gp1, gp2, ge1, ge2, hgf, hgn, hgr, rfl, hgb, hgt, hgdn, hgops⟩ := recBody_some hrb
    obtain ⟨hg0, hg1, hgsz⟩ := ops_at hgops
    have hopd := ht.opd (C := C) hs.gl
    have hcaps : VRs w g (cs.toList.map (opd C.gl s.tm)) (cs.toList.map a.eval) := VRs_map hopd
    refine wp_seq (wp_region ?_)
    rw [hops2]
    show wpOps C.P ops _ [0, 1] a w
    have hw0 : Region.wanted (⟨some t, .makeFunc (.func gf) #[] cs, ty1, p1, e1, none⟩ : Oper) (yielded ops a.tmps) = true := rfl
    simp only [wpOps, hop0, hw0, if_true]
    refine .inl ?_
    unfold Oper.wp
    have hr0 : (execOp a.eval (⟨some t, .makeFunc (.func gf) #[] cs, ty1, p1, e1, none⟩ : Oper)).run C.P w = .ok (.value (.func (.func gf) #[] (cs.map a.eval))) w := by
      simp only [execOp, Instr.makeFunc, Sem.run_bind, Sem.run_pure, Result.andThen_ok, Array.map_empty]
    rw [hr0, Oper.upon_value]
    simp only [wpOps, hop1]
    have hfnv : VR w g (.fn gf (cs.toList.map (opd C.gl s.tm))) (.func (.func gf) #[] (cs.map a.eval)) := by
      rw [VR]
      exact ⟨cs.toList.map a.eval, by rw [← Array.toList_map, Array.toArray_toList], hcaps⟩
    have htn' : (some t).all (· < a.tmps.size) = true := by simp [hsz, htn]
    have ht1 := ht.put htn' hfnv
    generalize ha1 : a.put (some t) (.func (.func gf) #[] (cs.map a.eval)) = a1 at ht1
    have hsz1 : a1.tmps.size = nt := by rw [← ha1, put_size, hsz]
    have hdf1 : a1.defers = [] := by rw [← ha1, put_defers, hdf]
    have hev1 : a1.eval (.tmp t) = .func (.func gf) #[] (cs.map a.eval) := by
      rw [← ha1]
      simp only [Act.eval, Act.put, Array.getD_eq_getD_getElem?, Array.getElem?_setIfInBounds, if_true, hsz, htn, Option.getD_some]
    refine .inl ?_
    have hr1 : (execOp a1.eval (⟨none, .defer { callee := .value (.tmp t), args := #[], argTypes := tys }, ty2, p2, e2, none⟩ : Oper)).run C.P w = .ok (.defer { target := .fn (.func gf) (cs.map a.eval), args := #[] }) w := by
      simp only [execOp, resolve, hev1, Deferred.ofValue, Sem.run_bind, Sem.run_pure, Result.andThen_ok, Array.map_empty, Array.empty_append]
    show Oper.upon C.P _ a1 _ _ ((execOp a1.eval _).run C.P w)
    rw [hr1, Oper.upon_defer]
    show Exit.then _ _ .normal _ w
    simp only [Exit.then]
    refine wp_mono (hk _ _ _ _ _ h1 (hpart.sub (by simp [Sub, Sub.refl])) w0 g w { a1 with defers := { target := .fn (.func gf) (cs.map a.eval), args := #[] } :: a1.defers } hsz1 hs ht1).1 fun ex a' w' hp => ?_
    obtain ⟨g', p1, p2, p3, p4, p5, p6⟩ := hp
    rw [hdf1] at p5
    have hcaps' := hcaps.mono p2
    have henter : (invoke (.fn (.func gf) (cs.map a.eval)) #[]).run C.P w' = .ok (.enter gf (cs.map a.eval)) w' := by
      have h3' : (gfn.name == "runtime.NumGoroutine") = false := by simpa using hgn
      simp only [invoke, callFunc, Sem.run_bind, run_program, Result.andThen_ok, hgf, h3', Bool.false_eq_true, if_false, hgb, Option.isNone_some, Array.empty_append, Sem.run_pure]
    have hvl : (cs.map a.eval).size ≤ gfn.ntmps := by simpa using hcl
    /- the rest of the function that was deferred -/
    have hrest : ∀ (v : Value) (K : Exit → Act → World → Prop), VR w' g' rv v →
        (∀ g2 w2 (a2 : Act), SR C.P C.gl w0 g2 sy.m w2 → Ext w' g' w2 g2 → a2.defers = [] → x = (.ret, ⟨s'.tm, sy.m⟩) → K .normal a2 w2 ∧ K .ret a2 w2) →
        ∀ b : Act, b.defers = [] → b.tmps = ((cs.map a.eval ++ Array.replicate (gfn.ntmps - (cs.map a.eval).size) undef).setIfInBounds gt v).setIfInBounds gd v →
        rest.wp C.P K b w' := by
      intro v K hvv hK b hbd hbt
      have hbs : b.tmps.size = gfn.ntmps := by rw [hbt]; simp; simp at hvl; omega
      have hargs : TmR w' g' (argsTm 0 (cs.toList.map (opd C.gl s.tm))) (cs.map a.eval ++ Array.replicate (gfn.ntmps - (cs.map a.eval).size) undef) := fun u => by
        have := argsTm_lk _ _ w' g' 0 u (Array.replicate (gfn.ntmps - (cs.map a.eval).size) undef) [] rfl hcaps'
        rw [show ([] : List Value).toArray ++ (cs.toList.map a.eval).toArray = cs.map a.eval from by apply Array.ext'; simp] at this
        exact this
      have hall : TmR w' g' (put (some gd) rv (put (some gt) rv (argsTm 0 (cs.toList.map (opd C.gl s.tm))))) b.tmps := by
        have hz : (cs.map a.eval ++ Array.replicate (gfn.ntmps - (cs.map a.eval).size) undef).size = gfn.ntmps := by simp; simp at hvl; omega
        have h1 := TmR.put (a := { tmps := cs.map a.eval ++ Array.replicate (gfn.ntmps - (cs.map a.eval).size) undef, defers := [] }) (d := some gt) hargs (by simp only [Option.all_some, decide_eq_true_eq, hz]; exact hgt) hvv
        have h2 := TmR.put (d := some gd) h1 (by simp only [Option.all_some, decide_eq_true_eq, put_size, hz]; exact hgdn) hvv
        rw [hbt]
        exact h2
      refine wp_mono (hk _ _ _ _ _ h3 ⟨gfn, _, hgf, hgb, by simp [Sub, Sub.refl]⟩ w0 g' w' b hbs p1 hall).1 fun ex2 a2 w2 hp2 => ?_
      obtain ⟨g2, q1, q2, q3, q4, q5, q6⟩ := hp2
      cases ey with
      | exit i => cases h4
      | pan b => cases h4
      | normal =>
        simp only [Option.some.injEq] at h4
        cases ex2 <;> first | exact q6.elim | skip
        exact (hK g2 w2 a2 q1 q2 (by rw [q5, hbd]) h4.symm).1
      | ret =>
        simp only [Option.some.injEq] at h4
        cases ex2 <;> first | exact q6.elim | skip
        exact (hK g2 w2 a2 q1 q2 (by rw [q5, hbd]) h4.symm).2
    have hcall : ∀ (u u2 : FrameMode) (v : Value), u ≠ .run → VR w' g' rv v → settle u2 = .returning →
        (∀ (c0 : Frame) (cs0 : List Frame), c0.mode = u → (recoverD (c0 :: cs0) = none ∧ v = .nilIface ∧ u2 = u) ∨ recoverD (c0 :: cs0) = some (v, { c0 with mode := u2 } :: cs0)) →
        Leaves C.P fn a'.tmps R [{ target := .fn (.func gf) (cs.map a.eval), args := #[] }] u w' := by
      intro u u2 v hu hvv hset hrec
      refine leaves_cons hu henter (callsD_of_wpS hgf hgb fun c0 cs0 hc0 => wpS_seq (wpS_region ?_))
      rw [hgsz]
      show wpOpsS C.P gops _ [0, 1] _ _ w'
      refine stepS_recover (v := v) (cs1 := { c0 with mode := u2 } :: cs0) hg0 rfl rfl ?_ ?_
      · rcases hrec c0 cs0 hc0 with ⟨h1, h2, h3⟩ | h1
        · exact .inl ⟨h1, h2, by rw [h3, ← hc0]⟩
        · exact .inr h1
      have hz : (cs.map a.eval ++ Array.replicate (gfn.ntmps - (cs.map a.eval).size) undef).size = gfn.ntmps := by simp; simp at hvl; omega
      have hev : (Act.put { tmps := cs.map a.eval ++ Array.replicate (gfn.ntmps - (cs.map a.eval).size) undef, defers := [] } (some gt) v).eval (.tmp gt) = v := by
        simp only [Act.eval, Act.put, Array.getD_eq_getD_getElem?, Array.getElem?_setIfInBounds, if_true, hz, hgt, Option.getD_some]
      refine stepS_value (v := v) hg1 rfl ?_ ?_
      · show Result.ok (Next.value (Act.eval _ (.tmp gt))) w' = _
        rw [hev]
      show rest.wpS C.P _ _ _ w'
      refine wpS_of_wp (hrest v _ hvv ?_ _ rfl rfl)
      intro g2 w2 a2 q1 q2 q3 hx
      subst hx
      have hl : Leaves C.P fn a'.tmps R [] (settle u2) w2 := by
        rw [hset]
        exact hfin .ret g2 w2 a'.tmps q1 (p2.trans q2) (p3.mono q2) trivial
      have hres : (results gfn a2.tmps).run C.P w2 = .ok (.tuple #[]) w2 := by
        unfold results
        rw [hgr, Sem.run_bind, Array.mapM_eq_mapM_toList, Sem.run_map]
        rfl
      exact ⟨⟨q3, u2, rfl, _, hres, hl⟩, ⟨q3, u2, rfl, _, hres, hl⟩⟩
    have hret : endVal e = some .nili → Leaves C.P fn a'.tmps R a'.defers .returning w' := by
      intro he
      rw [he] at hv
      simp only [Option.some.injEq] at hv
      subst hv
      rw [p5]
      refine hcall .returning .returning .nilIface (by simp) (by rw [VR]) rfl fun c0 cs0 hc0 => .inl ⟨?_, rfl, rfl⟩
      simp only [recoverD, hc0]
    cases e with
    | exit i => cases hv
    | normal =>
      cases ex <;> first | exact p6.elim | skip
      exact hret rfl
    | ret =>
      cases ex <;> first | exact p6.elim | skip
      exact hret rfl
    | pan b =>
      cases ex <;> first | exact p6.elim | skip
      rename_i chain
      obtain ⟨v, rfl, hvb⟩ := p6
      simp only [endVal, Option.some.injEq] at hv
      subst hv
      show Leaves C.P fn a'.tmps R a'.defers (.panicking [{ v, recovered := false }]) w'
      rw [p5]
      refine hcall _ (.panicking [{ v, recovered := true }]) v (by simp) hvb rfl fun c0 cs0 hc0 => .inr ?_
      simp only [recoverD, hc0]
end
end AE
end Go.Proofs.YthoomlenmgdebaaGreatDoor
