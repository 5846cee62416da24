/- The configuration is in order; strconv.Atoi by its contract. -/
import Derived.Test.YtbgppidldpepaaaDoorAF0
import Derived.Test.YtbgppidldpepaaaDoorAED
import Derived.Test.YtbgppidldpepaaaDoorSHL
import Derived.Shelf.Strconv.AtoiAll
set_option linter.unusedVariables false
set_option linter.unusedSimpArgs false
namespace Go.Proofs.YtbgppidldpepaaaDoor
namespace AE
open Go Go.RowKit

/-- The regions of a code that draw their order. -/
def draws : Code → List (Nat × Array Oper)
  | .region id ops true => [(id, ops)]
  | .seq a b => draws a ++ draws b
  | .cond _ a b => draws a ++ draws b
  | .block _ b => draws b
  | .loop b => draws b
  | _ => []
theorem draws_sub {id : Nat} {ops : Array Oper} : ∀ {c : Code}, Sub c (.region id ops true) → (id, ops) ∈ draws c
  | .seq a b, h => by
    rw [Sub] at h
    rcases h with h | h | h
    · cases h
    · rw [draws]; exact List.mem_append_left _ (draws_sub h)
    · rw [draws]; exact List.mem_append_right _ (draws_sub h)
  | .cond _ a b, h => by
    rw [Sub] at h
    rcases h with h | h | h
    · cases h
    · rw [draws]; exact List.mem_append_left _ (draws_sub h)
    · rw [draws]; exact List.mem_append_right _ (draws_sub h)
  | .block _ b, h => by
    rw [Sub] at h
    rcases h with h | h
    · cases h
    · rw [draws]; exact draws_sub h
  | .loop b, h => by
    rw [Sub] at h
    rcases h with h | h
    · cases h
    · rw [draws]; exact draws_sub h
  | .region i o d, h => by
    simp only [Sub] at h
    cases h
    rw [draws]
    exact List.mem_cons_self
  | .skip, h => by simp only [Sub] at h; cases h
  | .rangeFunc _ _ _ _, h => by simp only [Sub] at h; cases h
  | .exit _, h => by simp only [Sub] at h; cases h
  | .scope _, h => by simp only [Sub] at h; cases h
  | .label _, h => by simp only [Sub] at h; cases h
  | .goto _, h => by simp only [Sub] at h; cases h
  | .ret, h => by simp only [Sub] at h; cases h
  | .refuse _, h => by simp only [Sub] at h; cases h

def dokFn (f : FuncId) (fn : Func) : Bool := match fn.body with
  | some b => (draws b).all fun p => !ann.dok f p.1 || drawOk p.2 (ann.draw f p.1)
  | none => true
def dokAll : Nat → List Func → Bool
  | _, [] => true
  | n, fn :: r => dokFn n fn && dokAll (n + 1) r
theorem dokAll_at : ∀ (l : List Func) (n i : Nat) (fn : Func), dokAll n l = true → l[i]? = some fn → dokFn (n + i) fn = true
  | fn :: r, n, 0, fn', h, hi => by
    rw [dokAll, Bool.and_eq_true] at h
    simp at hi
    subst hi
    exact h.1
  | fn :: r, n, i + 1, fn', h, hi => by
    rw [dokAll, Bool.and_eq_true] at h
    have := dokAll_at r (n + 1) i fn' h.2 (by simpa using hi)
    rwa [show n + 1 + i = n + (i + 1) by omega] at this
  | [], n, i, fn', h, hi => by simp at hi
theorem dok_prog : dokAll 0 Tryd.prog.funcs.toList = true := by kernel_rfl
theorem mixed_prog : Tryd.prog.follows .mixedOrders = true := by kernel_rfl
theorem closed_gl (n : Nat) : closed 0 0 (gl0 n) = true := by
  unfold gl0
  split
  · decide
  split
  · rfl
  · rfl
/-- What has turned above alone leaves all as it was. -/
theorem sr_below {P : Program} {gl : Nat → A} {w0 w w' : World} {g : Gh} {m : Mem} (hs : SR P gl w0 g m w) (hbel : Below w.heap.size w w') : SR P gl w0 g m w' ∧ Ext w g w' g := by
  have hcell : ∀ k o, k < w.heap.size → w'.cell? ⟨k, o, none⟩ = w.cell? ⟨k, o, none⟩ := fun k o hk => hbel.cell (p := ⟨k, o, none⟩) hk
  have hext : Ext w g w' g := ⟨⟨fun k o hF => ⟨hF, hcell k o (hs.lim k o hF)⟩, Nat.le_refl _, fun _ _ => rfl, fun i L h => ⟨L, h, Nat.le_refl _, fun _ => ⟨rfl, rfl⟩, rfl⟩⟩, fun b hb hl => ⟨hbel.block b hb, hl⟩, hbel.size⟩
  refine ⟨?_, hext⟩
  exact {
    below := hs.below.trans (hbel.mono hs.szB)
    nb := hs.nb
    rl := hs.rl
    es := hs.es
    bx := fun i cs hi => by
      obtain ⟨us, t, h1, h2⟩ := hs.bx i cs hi
      refine ⟨us, t, ?_, h2.mono hext⟩
      rw [hbel.block _ (Array.getElem?_eq_some_iff.1 h1).1]
      exact h1
    rw := fun i r hi => by
      obtain ⟨us, ss, rest, h1, h2, h3, h4⟩ := hs.rw i r hi
      refine ⟨us, ss, rest, ?_, h2, h3, h4.mono hext⟩
      rw [hbel.block _ (Array.getElem?_eq_some_iff.1 h1).1]
      exact h1
    ownb := hs.ownb
    ownr := hs.ownr
    injb := hs.injb
    injr := hs.injr
    dis := hs.dis
    old := hs.old
    lim := fun b o hF => Nat.lt_of_lt_of_le (hs.lim b o hF) hbel.size
    gl := fun n => (hs.gl n).mono hext }

theorem atoi_ok (s : List UInt8) (m : Mem) (r : Res × Mem) (h : atoiG [.str s] m = some r) : CallOk C0 atoiId [.str s] m r := by
  unfold CallOk
  rw [C0_P, C0_gl]
  refine ⟨⟨_, _, Tryd.func57, rfl, by decide⟩, fun w0 g w vals hs hv => ?_⟩
  obtain ⟨v, rfl, hv1⟩ : ∃ v, vals = [v] ∧ VR w g (.str s) v := by
    rw [VRs] at hv
    obtain ⟨u, t, rfl, h1, h2⟩ := hv
    rw [VRs] at h2
    subst h2
    exact ⟨u, rfl, h1⟩
  rw [VR] at hv1
  subst hv1
  unfold atoiG at h
  simp only at h
  split at h
  case isFalse => cases h
  rename_i hlen
  have hsz : (⟨s.toArray⟩ : ByteArray).size = s.length := by show s.toArray.size = _; simp
  have hdat : (⟨s.toArray⟩ : ByteArray).data.toList = s := by simp
  cases ha : Lib.atoiAll s with
  | ok n =>
    rw [ha] at h
    simp only [Option.some.injEq] at h
    subst h
    refine Calls.mono (Any.strconv_Atoi_ok Tryd.laysC172 ⟨s.toArray⟩ (by rw [hsz]; omega) n (by rw [hdat]; exact ha) w) ?_
    rintro e w' ⟨rfl, hw⟩
    have hbel : Below w.heap.size w w' := by
      rcases hw with rfl | ⟨t, rfl⟩
      · exact Below.refl _ _
      · exact Lib.bytesWorld_below _ _ _
    obtain ⟨h1, h2⟩ := sr_below hs hbel
    refine ⟨g, h1, h2, ?_⟩
    show VR w' g _ _
    rw [VR]
    exact ⟨[.int .i64 n, .nilIface], rfl, .mk_cons VR.mkInt (.mk_cons (by rw [VR]) VRs.mk_nil)⟩
  | range =>
    rw [ha] at h
    simp only [Option.some.injEq] at h
    subst h
    have hg := hs.gl 5
    have hgl : gl0 5 = .rp [.ifc 133 .undef] := rfl
    rw [hgl, VR] at hg
    obtain ⟨b, o, us, hp, hus, hlies⟩ := hg
    rw [VRs] at hus
    obtain ⟨u, t, rfl, hu, ht⟩ := hus
    rw [VR] at hu
    obtain ⟨u', rfl, _⟩ := hu
    have hc := (hlies 0 _ rfl).2
    simp only [Value.pointer.injEq, Option.some.injEq, Addr.mk.injEq] at hp
    obtain ⟨rfl, rfl, _⟩ := hp
    refine Calls.mono (Any.strconv_Atoi_range Tryd.laysC172 ⟨s.toArray⟩ (by rw [hsz]; omega) (by rw [hdat]; exact ha) _ w hc (.inr ⟨_, _, rfl⟩)) ?_
    rintro e w' ⟨N, rfl, _, _, hbel⟩
    obtain ⟨h1, h2⟩ := sr_below hs hbel
    refine ⟨g, h1, h2, ?_⟩
    show VR w' g _ _
    rw [VR]
    refine ⟨[.int .i64 (Lib.atoiSat s), .iface 112 (.pointer (some ⟨N, 0, none⟩))], ?_, .mk_cons VR.mkInt (.mk_cons (by rw [VR]; exact ⟨_, rfl, by rw [VR]; trivial⟩) VRs.mk_nil)⟩
    rw [hdat]
    rfl
  | _ => rw [ha] at h; cases h
theorem ok0 : CfgOk C0 where
  gl := by rw [C0_gl]; exact closed_gl
  mixed := by rw [C0_P]; exact mixed_prog
  dok := by
    rintro f id ops ⟨fn, b, h1, h2, h3⟩ hd
    rw [C0_P] at h1
    rw [C0_ann] at hd
    have h4 : Tryd.prog.funcs.toList[f]? = some fn := by rw [Array.getElem?_toList]; exact h1
    have h5 := dokAll_at _ 0 f fn dok_prog h4
    rw [Nat.zero_add, dokFn, h2] at h5
    have h6 := List.all_eq_true.1 h5 _ (draws_sub h3)
    simp only [hd, Bool.not_true, Bool.false_or] at h6
    rw [C0_ann]
    exact h6
  ext := fun f h he args m r hr => by
    by_cases hf : (f == atoiId) = false
    · rw [C0_ext f hf] at he; cases he
    · have hf' : f = atoiId := by simpa using hf
      subst hf'
      rw [C0_atoi] at he
      cases he
      match args, hr with
      | [.str s], hr => exact atoi_ok s m r hr
#print axioms ok0
end AE
end Go.Proofs.YtbgppidldpepaaaDoor
