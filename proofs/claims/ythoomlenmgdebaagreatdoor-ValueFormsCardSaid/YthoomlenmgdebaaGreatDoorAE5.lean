/- Each operation of the evaluator does what the model's operation does: the operations that only compute. -/
import Derived.Test.YthoomlenmgdebaaGreatDoorAE3
set_option linter.unusedVariables false
set_option linter.unusedSimpArgs false
namespace Go.Proofs.YthoomlenmgdebaaGreatDoor
namespace AE
open Go Go.RowKit

section
variable {P : Program} {gl : Nat → A} {w0 : World} {g : Gh} {m : Mem} {w : World}

theorem fieldT_some {t : TypeId} {i o ft : Nat} (h : fieldT P t i = some (o, ft)) : ∃ fs : Array Field, ∃ f, P.underlying t = some (.struct fs) ∧ fs[i]? = some f ∧ f.offset = o ∧ f.type = ft := by
  unfold fieldT at h
  cases hu : P.underlying t with
  | none => simp [hu] at h
  | some d =>
    cases d <;> simp [hu] at h
    obtain ⟨f, h1, h2, h3⟩ := h
    exact ⟨_, f, rfl, by simpa using h1, h2, h3⟩

theorem run_fieldPlace (b o : Nat) (f : Field) (h : 0 < szOf P f.type) : (fieldPlace ⟨b, o, none⟩ f).run P w = .ok ⟨b, o + f.offset, none⟩ w := by
  have hne : szOf P f.type ≠ 0 := by omega
  simp only [fieldPlace, Sem.run_bind, run_size' hne, Result.andThen_ok, Sem.run_ite, if_neg hne, Sem.run_pure, add_plain']

theorem fieldAddrA_sound {t : TypeId} {x a : A} {i : Nat} {v : Value} (h : fieldAddrA P t x i = some a) (hx : VR w g x v) :
    ∃ u, (Instr.fieldAt t v i).run P w = .ok u w ∧ VR w g a u := by
  unfold fieldAddrA at h
  cases hf : fieldT P t i with
  | none => simp [hf] at h
  | some p =>
    obtain ⟨o, ft⟩ := p
    obtain ⟨fs, f, h1, h2, rfl, rfl⟩ := fieldT_some hf
    simp only [hf, Option.bind_eq_bind, Option.bind_some] at h
    split at h
    · rename_i hz
      cases x <;> simp only [reduceCtorEq, Option.some.injEq] at h
      all_goals subst h
      case rp cs =>
        rw [VR] at hx
        obtain ⟨b, o, us, rfl, hc, hl⟩ := hx
        refine ⟨.pointer (some ⟨b, o + f.offset, none⟩), by simp [Instr.fieldAt, run_underlying h1, h2, Instr.sureAddr, run_fieldPlace _ _ _ hz], ?_⟩
        rw [VR]
        exact ⟨b, o + f.offset, us.drop f.offset, rfl, hc.drop _, hl.drop _⟩
      case ptr id off =>
        rw [VR] at hx
        obtain ⟨h3, rfl⟩ := hx
        refine ⟨.pointer (some ⟨g.bb id, off + f.offset, none⟩), by simp [Instr.fieldAt, run_underlying h1, h2, Instr.sureAddr, run_fieldPlace _ _ _ hz], ?_⟩
        rw [VR]
        exact ⟨h3, rfl⟩
      case rptr id ver off =>
        rw [VR] at hx
        obtain ⟨⟨b, o, rfl⟩, L, h3, h4, h5⟩ := hx
        refine ⟨.pointer (some ⟨b, o + f.offset, none⟩), by simp [Instr.fieldAt, run_underlying h1, h2, Instr.sureAddr, run_fieldPlace _ _ _ hz], ?_⟩
        rw [VR]
        refine ⟨⟨_, _, rfl⟩, L, h3, h4, fun e => ?_⟩
        have := h5 e
        simp only [Value.pointer.injEq, Option.some.injEq, Addr.mk.injEq] at this ⊢
        exact ⟨this.1, by rw [this.2.1], trivial⟩
    · cases h

theorem part_sound {t : TypeId} {cs : List A} {o : Nat} {a : A} {us : List Value} (h : part P t cs o = some a) (hx : VRs w g cs us) :
    ∃ u, (Go.part t us.toArray o).run P w = .ok u w ∧ VR w g a u := by
  unfold AE.part at h
  cases hg : aggT P t with
  | none => simp [hg] at h
  | some gb =>
    simp only [hg, Option.bind_eq_bind, Option.bind_some] at h
    obtain ⟨i, hi⟩ := aggT_info hg
    cases gb with
    | true =>
      simp only [if_true] at h
      split at h
      · rename_i hn
        simp only [asVar, if_true, Option.some.injEq] at h
        subst h
        have hl := hx.length
        refine ⟨.agg ((us.drop o).take (szOf P t)).toArray, ?_, by rw [VR]; exact ⟨_, rfl, hx.sub _ _⟩⟩
        simp only [Go.part, Sem.run_bind, run_isAgg hg, Result.andThen_ok, if_true, run_size hi, Sem.run_pure]
        congr 2
        apply Array.ext'
        simp [List.extract_eq_take_drop]
      · cases h
    | false =>
      simp only [Bool.false_eq_true, if_false] at h
      split at h
      · rename_i hn
        obtain ⟨c, hc⟩ : ∃ c, cs[o]? = some c := ⟨cs[o], by simp⟩
        obtain ⟨u, hu, hv⟩ := hx.at_ o c hc
        have he : (cs.drop o).take 1 = [c] := by
          have hlo : o < cs.length := by omega
          rw [List.drop_eq_getElem_cons hlo]
          have := (List.getElem?_eq_some_iff.1 hc).2
          simp [this]
        rw [he] at h
        simp only [asVar, Bool.false_eq_true, if_false, Option.some.injEq] at h
        subst h
        refine ⟨u, ?_, hv⟩
        have hu' : us.toArray[o]? = some u := by simpa using hu
        simp only [Go.part, Sem.run_bind, run_isAgg hg, Result.andThen_ok, Bool.false_eq_true, if_false, hu', Sem.run_pure]
      · cases h

theorem fieldA_sound {t : TypeId} {x a : A} {i : Nat} {v : Value} (h : fieldA P t x i = some a) (hx : VR w g x v) :
    ∃ u, (Instr.field t v i).run P w = .ok u w ∧ VR w g a u := by
  unfold fieldA at h
  cases hf : fieldT P t i with
  | none => simp [hf] at h
  | some p =>
    obtain ⟨o, ft⟩ := p
    obtain ⟨fs, f, h1, h2, rfl, rfl⟩ := fieldT_some hf
    simp only [hf, Option.bind_eq_bind, Option.bind_some] at h
    cases x <;> simp only [reduceCtorEq] at h
    rw [VR] at hx
    obtain ⟨us, rfl, hc⟩ := hx
    obtain ⟨u, hu, hv⟩ := part_sound h hc
    exact ⟨u, by simp [Instr.field, run_underlying h1, h2, asAgg, hu], hv⟩

theorem indexAddrA_sound {t : TypeId} {x y a : A} {v u : Value} (h : indexAddrA P t x y = some a) (hx : VR w g x v) (hy : VR w g y u) :
    ∃ r, (Instr.indexAt t v u).run P w = .ok r w ∧ VR w g a r := by
  unfold indexAddrA at h
  cases y <;> simp only [reduceCtorEq] at h
  rename_i k i
  rw [VR] at hy
  subst hy
  cases he : elemT P t with
  | some e =>
    have hu := elemT_some he
    simp only [he] at h
    cases x <;> simp only [reduceCtorEq] at h
    case isl f n cs =>
      split at h
      · rename_i hc
        obtain ⟨h0, h1, h2, h3⟩ := hc
        simp only [Option.some.injEq] at h
        subst h
        rw [VR] at hx
        obtain ⟨p, c, us, rfl, _, _, hc, hl⟩ := hx
        have hlen := hc.length
        have hne : us ≠ [] := by
          rintro rfl
          simp at hlen
          rw [← hlen, Nat.add_mul] at h3
          omega
        obtain ⟨b, o, rfl, hl2⟩ := hl hne
        have hz : szOf P e ≠ 0 := by omega
        refine ⟨.pointer (some ⟨b, o + i.toNat * szOf P e, none⟩), ?_, ?_⟩
        · simp only [Instr.indexAt, asIntOf, Sem.run_bind, Sem.run_pure, Result.andThen_ok, run_underlying hu, Sem.run_ite, if_pos (And.intro h0 h1), run_size' hz, add_plain']
        · rw [VR]
          exact ⟨_, _, _, rfl, (hc.drop _).take _, (hl2.drop _).take _⟩
      · cases h
    case sl id ver off n =>
      split at h
      · rename_i hc
        obtain ⟨h0, h1, h2⟩ := hc
        simp only [Option.some.injEq] at h
        subst h
        rw [VR] at hx
        obtain ⟨⟨b, o, c, rfl, _⟩, L, k1, k2, k3⟩ := hx
        have hz : szOf P e ≠ 0 := by omega
        refine ⟨.pointer (some ⟨b, o + i.toNat * szOf P e, none⟩), ?_, ?_⟩
        · simp only [Instr.indexAt, asIntOf, Sem.run_bind, Sem.run_pure, Result.andThen_ok, run_underlying hu, Sem.run_ite, if_pos (And.intro h0 h1), run_size' hz, add_plain']
        · rw [VR]
          refine ⟨⟨_, _, rfl⟩, L, k1, k2, fun e => ?_⟩
          obtain ⟨c', hc', _⟩ := k3 e
          simp only [Value.slice.injEq, Option.some.injEq, Addr.mk.injEq] at hc'
          simp only [Value.pointer.injEq, Option.some.injEq, Addr.mk.injEq]
          exact ⟨hc'.1.1, by rw [hc'.1.2.1], trivial⟩
      · cases h
  | none =>
    simp only [he] at h
    cases ha : arrT P t with
    | none => simp [ha] at h
    | some p =>
      obtain ⟨n, e⟩ := p
      have hu := arrT_some ha
      simp only [ha] at h
      split at h
      · rename_i hc
        obtain ⟨h0, h1, h2⟩ := hc
        have hz : szOf P e ≠ 0 := by omega
        cases x <;> simp only [reduceCtorEq, Option.some.injEq] at h
        all_goals subst h
        case rp cs =>
          rw [VR] at hx
          obtain ⟨b, o, us, rfl, hc, hl⟩ := hx
          refine ⟨.pointer (some ⟨b, o + i.toNat * szOf P e, none⟩), ?_, ?_⟩
          · simp only [Instr.indexAt, asIntOf, Sem.run_bind, Sem.run_pure, Result.andThen_ok, run_underlying hu, Sem.run_ite, if_pos (And.intro h0 h1), run_size' hz, add_plain', Instr.sureAddr]
          · rw [VR]
            exact ⟨_, _, _, rfl, hc.drop _, hl.drop _⟩
        case ptr id off =>
          rw [VR] at hx
          obtain ⟨h3, rfl⟩ := hx
          refine ⟨.pointer (some ⟨g.bb id, off + i.toNat * szOf P e, none⟩), ?_, ?_⟩
          · simp only [Instr.indexAt, asIntOf, Sem.run_bind, Sem.run_pure, Result.andThen_ok, run_underlying hu, Sem.run_ite, if_pos (And.intro h0 h1), run_size' hz, add_plain', Instr.sureAddr]
          · rw [VR]
            exact ⟨h3, rfl⟩
        case rptr id ver off =>
          rw [VR] at hx
          obtain ⟨⟨b, o, rfl⟩, L, h3, h4, h5⟩ := hx
          refine ⟨.pointer (some ⟨b, o + i.toNat * szOf P e, none⟩), ?_, ?_⟩
          · simp only [Instr.indexAt, asIntOf, Sem.run_bind, Sem.run_pure, Result.andThen_ok, run_underlying hu, Sem.run_ite, if_pos (And.intro h0 h1), run_size' hz, add_plain', Instr.sureAddr]
          · rw [VR]
            refine ⟨⟨_, _, rfl⟩, L, h3, h4, fun e => ?_⟩
            have := h5 e
            simp only [Value.pointer.injEq, Option.some.injEq, Addr.mk.injEq] at this ⊢
            exact ⟨this.1, by rw [this.2.1], trivial⟩
      · cases h

theorem indexA_sound {t : TypeId} {x y a : A} {v u : Value} (h : indexA P t x y = some a) (hx : VR w g x v) (hy : VR w g y u) :
    ∃ r, (Instr.index t v u).run P w = .ok r w ∧ VR w g a r := by
  unfold indexA at h
  cases x <;> cases y <;> simp only [reduceCtorEq] at h
  case str.int s k i =>
    rw [VR] at hx
    rw [VR] at hy
    subst hx hy
    split at h
    · rename_i hc
      obtain ⟨h0, h1, h2⟩ := hc
      simp only [Option.some.injEq] at h
      subst h
      have hlt : i.toNat < s.length := by omega
      refine ⟨.int .u8 ((s.getD i.toNat 0).toNat : Int), ?_, by rw [VR]⟩
      have hb : (⟨s.toArray⟩ : ByteArray)[i.toNat]? = some (s.getD i.toNat 0) := by
        have hsz : i.toNat < (⟨s.toArray⟩ : ByteArray).size := by show i.toNat < s.toArray.size; simpa using hlt
        rw [getElem?_pos (⟨s.toArray⟩ : ByteArray) i.toNat hsz]
        congr 1
        show s.toArray[i.toNat]'(by simpa using hlt) = _
        simp [List.getD, List.getElem?_eq_getElem hlt]
      simp only [Instr.index, asIntOf, Sem.run_bind, Sem.run_pure, Result.andThen_ok, run_underlying (isStr_true h2), if_pos h0, hb]
    · cases h
  case agg.int cs k i =>
    rw [VR] at hx
    rw [VR] at hy
    obtain ⟨us, rfl, hc⟩ := hx
    subst hy
    cases ha : arrT P t with
    | none => simp [ha] at h
    | some p =>
      obtain ⟨n, e⟩ := p
      simp only [ha, Option.bind_eq_bind, Option.bind_some] at h
      split at h
      · rename_i hb
        obtain ⟨u, hu, hv⟩ := part_sound h hc
        have hinfo : ∃ i, P.info? e = some i := by
          unfold AE.part at h
          cases hg : aggT P e with
          | none => simp [hg] at h
          | some gb => exact aggT_info hg
        obtain ⟨inf, hinf⟩ := hinfo
        refine ⟨u, ?_, hv⟩
        simp only [Instr.index, asIntOf, Sem.run_bind, Sem.run_pure, Result.andThen_ok, run_underlying (arrT_some ha), Sem.run_ite, if_pos hb, run_size hinf, hu]
      · cases h
end
end AE
end Go.Proofs.YthoomlenmgdebaaGreatDoor
