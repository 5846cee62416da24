/- The arguments that come in, opened: slices, trees of functors and of values. -/
import Derived.Test.YthoomlenmgdebaaGreatDoorAI1
import Derived.ProofKit
import Derived.LaidMore
import Derived.OpenShut
import Derived.Stop.Joined
import Derived.Carry
set_option linter.unusedVariables false
set_option linter.unusedSimpArgs false
namespace Go.Proofs.YthoomlenmgdebaaGreatDoor
namespace AE
open Go Go.RowKit

/-- At the beginning all that is there stays as it is. -/
def g0 (W : World) : Gh := { bb := fun _ => 0, br := fun _ => 0, cz := fun _ => 0, es := fun _ => 0, F := fun b _ => b < W.heap.size, nb := 0, rl := [] }
theorem sr0 {P : Program} {gl : Nat → A} {W : World} (hgl : ∀ n, VR W (g0 W) (gl n) (.pointer (some ⟨n, 0, none⟩))) : SR P gl W (g0 W) ⟨[], []⟩ W where
  below := Below.refl _ _
  nb := rfl
  rl := rfl
  es := fun i r h => by simp at h
  bx := fun i r h => by simp at h
  rw := fun i r h => by simp at h
  ownb := fun i h => by simp [g0] at h
  ownr := fun i h => by simp [g0] at h
  injb := fun i j h => by simp [g0] at h
  injr := fun i j h => by simp [g0] at h
  dis := fun i j h => by simp [g0] at h
  old := fun b o h => h
  lim := fun b o h => h
  gl := hgl
  dr := fun _ => Nat.le_refl _

theorem cells3 {W : World} {x : Addr} {n : Nat} {cs : List Value} (h : W.cells? 0 x n = some cs) : cs.length = n ∧ ∀ j u, cs[j]? = some u → W.cell? (x.add j) = some u := by
  obtain ⟨h1, h2, h3⟩ := World.cells?_some h
  refine ⟨h2, fun j u hj => ?_⟩
  rw [h3 j (by have := (List.getElem?_eq_some_iff.1 hj).1; omega)]
  exact hj
theorem cell_lt {W : World} {a : Addr} {v : Value} (h : W.cell? a = some v) : a.block < W.heap.size ∧ a.spot = none := by
  refine ⟨?_, World.cell?_spot h⟩
  unfold World.cell? at h
  split at h
  · rename_i heq
    exact (Array.getElem?_eq_some_iff.1 heq).1
  · cases h
theorem VRs_append {w : World} {g : Gh} : ∀ {a b : List A} {u v : List Value}, VRs w g a u → VRs w g b v → VRs w g (a ++ b) (u ++ v)
  | [], b, u, v, h, k => by rw [VRs] at h; subst h; exact k
  | x :: r, b, u, v, h, k => by
    rw [VRs] at h
    obtain ⟨y, t, rfl, h1, h2⟩ := h
    exact .mk_cons h1 (VRs_append h2 k)

/-- A slice that came in. -/
theorem open_slice {H : Type} {enc : TypeId × Value → H} {W : World} {t e : TypeId} {k : Nat} (hk : 0 < k) (hu : Tryz.prog.underlying t = some (.slice e)) (hc : Tryz.prog.cellsOf e = k) {X : Type} (cf : X → List A) (hlen : ∀ x, (cf x).length = k) {fuel : Nat} {cs : List Value} {x : DataW H × List MemPlace}
    (hel : ∀ n, n < fuel → ∀ (ds : List Value) (y : DataW H × List MemPlace), DataW.trod enc Tryz.prog W 0 (fun _ => true) true n e ds = some y → ∃ f : X, VRs W (g0 W) (cf f) ds)
    (h : DataW.trod enc Tryz.prog W 0 (fun _ => true) true fuel t cs = some x) : ∃ (l : List X) (v : Value), cs = [v] ∧ VR W (g0 W) (.isl false l.length (l.flatMap cf)) v := by
  rcases DataW.trod_slice hu h with ⟨e2, _⟩ | ⟨a, len, cap, elems, rest, n', hn2, e2, _, _, hl, hm, hel', hcell, _⟩
  · refine ⟨[], _, e2, ?_⟩
    rw [VR]
    exact ⟨none, 0, [], rfl, by simp, Nat.le_refl _, by simpa using VRs.mk_nil, by simp⟩
  · have key : ∀ i, i ≤ len → ∃ (l : List X) (us : List Value), l.length = i ∧ VRs W (g0 W) (l.flatMap cf) us ∧ us.length = i * k ∧ ∀ j u, us[j]? = some u → W.cell? (a.add j) = some u := by
      intro i
      induction i with
      | zero => intro _; exact ⟨[], [], rfl, by simpa using VRs.mk_nil, by simp, by simp⟩
      | succ i ihi =>
        intro hi
        obtain ⟨l, us, hl1, hl2, hl3, hl4⟩ := ihi (by omega)
        have hci := hcell i (by omega)
        rw [hc, List.getElem?_eq_getElem (by omega)] at hci
        obtain ⟨ds, hcs, htr⟩ := Option.bind_eq_some_iff.1 hci
        obtain ⟨hcl, hcc⟩ := cells3 hcs
        obtain ⟨f, hf'⟩ := hel n' (by omega) ds _ htr
        refine ⟨l ++ [f], us ++ ds, by simp [hl1], ?_, by rw [List.length_append, hl3, hcl, Nat.succ_mul], ?_⟩
        · rw [List.flatMap_append]
          exact VRs_append hl2 (by simpa using hf')
        · intro j u hj
          by_cases hjl : j < us.length
          · rw [List.getElem?_append_left hjl] at hj
            exact hl4 j u hj
          · rw [List.getElem?_append_right (by omega)] at hj
            have h5 := hcc _ u hj
            have hadd : a.add j = (a.add (i * k)).add (j - us.length) := by
              have hj2 : j = i * k + (j - us.length) := by omega
              generalize j - us.length = q at hj2
              generalize i * k = p at hj2
              subst hj2
              unfold Addr.add
              by_cases hi0 : p = 0
              · rw [if_pos hi0, hi0, Nat.zero_add]
              · rw [if_neg hi0, if_neg (by omega)]
                by_cases hz : q = 0
                · rw [if_pos hz, hz, Nat.add_zero]
                · rw [if_neg hz]
                  simp only [Addr.mk.injEq, true_and, and_true]
                  omega
            rw [hadd]
            exact h5
    obtain ⟨l, us, hl1, hl2, hl3, hl4⟩ := key len (Nat.le_refl _)
    refine ⟨l, _, e2, ?_⟩
    rw [VR]
    refine ⟨some a, cap, us, by simp [hl1], by simp, by simp [hl1]; omega, hl2, fun hne => ?_⟩
    have hpos : 0 < us.length := List.length_pos_iff.2 hne
    have hc0 := hl4 0 _ (List.getElem?_eq_getElem hpos)
    obtain ⟨hlt, hsp⟩ := cell_lt hc0
    obtain ⟨b, o, sp⟩ := a
    have hsp' : sp = none := by simpa [Addr.add] using hsp
    subst hsp'
    refine ⟨b, o, rfl, fun j u hj => ?_⟩
    have := hl4 j u hj
    rw [add_plain'] at this
    exact ⟨(cell_lt this).1, this⟩

set_option maxRecDepth 1000000 in
theorem cFun : Tryz.prog.cellsOf 24 = 3 := by kernel_rfl
set_option maxRecDepth 1000000 in
theorem cFuns : Tryz.prog.cellsOf 22 = 1 := by kernel_rfl
set_option maxRecDepth 1000000 in
theorem cInt : Tryz.prog.cellsOf 3 = 1 := by kernel_rfl
theorem Fun.flat : ∀ l : List Fun, l.flatMap Fun.cells = Fun.cellsL l
  | [] => by simp
  | f :: r => by rw [List.flatMap_cons, Fun.flat r, Fun.cellsL]
theorem ints_flat : ∀ l : List Int, (l.flatMap fun k => [A.int .i64 k]) = ints l
  | [] => rfl
  | k :: r => by rw [List.flatMap_cons, ints_flat r]; rfl
set_option maxRecDepth 100000 in
/-- A tree of functors that came in. -/
theorem open_fun {H : Type} {enc : TypeId × Value → H} {W : World} : ∀ (N fuel : Nat), fuel ≤ N → ∀ (cs : List Value) (x : DataW H × List MemPlace), DataW.trod enc Tryz.prog W 0 (fun _ => true) true fuel 24 cs = some x → ∃ f : Fun, VRs W (g0 W) f.cells cs := by
  intro N
  induction N with
  | zero =>
    intro fuel hfu cs x h
    obtain rfl : fuel = 0 := by omega
    simp [DataW.trod] at h
  | succ N ih =>
    intro fuel hfu cs x h
    obtain ⟨xs, n, hn, rfl, hlen, hxl, hf⟩ := DataW.trod_struct Tryz.underlying24 h
    rw [cFun] at hlen
    have hxl3 : xs.length = 3 := hxl
    clear hxl
    obtain ⟨a0, a1, a2, rfl⟩ : ∃ a0 a1 a2, cs = [a0, a1, a2] := by
      match cs, hlen with
      | [a0, a1, a2], _ => exact ⟨a0, a1, a2, rfl⟩
    obtain ⟨x0, x1, x2, rfl⟩ : ∃ x0 x1 x2, xs = [x0, x1, x2] := by
      match xs, hxl3 with
      | [a0, a1, a2], _ => exact ⟨a0, a1, a2, rfl⟩
    have h0 := hf 0 _ rfl
    have h1 := hf 1 _ rfl
    have h2 := hf 2 _ rfl
    simp [cInt, cFuns] at h0 h1 h2
    obtain ⟨k, e0, _, _⟩ := DataW.trod_int Tryz.underlying3 h0
    obtain ⟨m, e1, _, _⟩ := DataW.trod_int Tryz.underlying3 h1
    simp at e0 e1
    subst e0 e1
    obtain ⟨l, v, e2, hv⟩ := open_slice (by decide) Tryz.underlying22 cFun Fun.cells Fun.cells_length (fun n' hn' ds y hy => ih n' (by omega) ds y hy) h2
    simp at e2
    subst e2
    rw [Fun.flat] at hv
    refine ⟨.mk k m l, ?_⟩
    rw [Fun.cells_eq]
    exact .mk_cons VR.mkInt (.mk_cons VR.mkInt (.mk_cons hv VRs.mk_nil))
/-- Numbers that came in. -/
theorem open_ks {H : Type} {enc : TypeId × Value → H} {W : World} {fuel : Nat} {cs : List Value} {x : DataW H × List MemPlace} (h : DataW.trod enc Tryz.prog W 0 (fun _ => true) true fuel 26 cs = some x) : ∃ (l : List Int) (v : Value), cs = [v] ∧ VR W (g0 W) (.isl false l.length (ints l)) v := by
  obtain ⟨l, v, e, hv⟩ := open_slice (by decide) Tryz.underlying26 cInt (fun k : Int => [A.int .i64 k]) (fun _ => rfl) (fun n hn ds y hy => by
    obtain ⟨k, e0, _, _⟩ := DataW.trod_int Tryz.underlying3 hy
    exact ⟨k, by rw [e0]; exact .mk_cons VR.mkInt VRs.mk_nil⟩) h
  rw [ints_flat] at hv
  exact ⟨l, v, e, hv⟩
theorem agg_of {W : World} {g : Gh} {cs : List A} {v : Value} (h : VRs W g cs v.cells.toList) (hl : cs.length ≠ 1) : VR W g (.agg cs) v := by
  have h2 := h.length
  have : ∃ c, v = .agg c := by
    cases v with
    | agg c => exact ⟨c, rfl⟩
    | _ => simp [Value.cells] at h2; omega
  obtain ⟨c, rfl⟩ := this
  rw [VR]
  exact ⟨c.toList, by simp, h⟩
end AE
end Go.Proofs.YthoomlenmgdebaaGreatDoor
