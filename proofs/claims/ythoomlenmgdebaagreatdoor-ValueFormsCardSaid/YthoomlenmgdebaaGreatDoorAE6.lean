/- Each operation of the evaluator does what the model's operation does: slices, literals, numbers and strings. -/
import Derived.Test.YthoomlenmgdebaaGreatDoorAE5
set_option linter.unusedVariables false
set_option linter.unusedSimpArgs false
namespace Go.Proofs.YthoomlenmgdebaaGreatDoor
namespace AE
open Go Go.RowKit

section
variable {P : Program} {gl : Nat → A} {w0 : World} {g : Gh} {m : Mem} {w : World}

/-- An option of a value, held against an option of a model's value. -/
def VRo (w : World) (g : Gh) : Option A → Option Value → Prop
  | none, none => True
  | some a, some v => VR w g a v
  | _, _ => False

theorem run_bound {k : IntKind} {n : Int} {y : Nat} {code : BoundsCode} (h0 : 0 ≤ n) (h1 : n ≤ y) : (Instr.sliceBound (.int k n) y code).run P w = .ok n.toNat w := by
  simp only [Instr.sliceBound, asIntOf, Sem.run_bind, Sem.run_pure, Result.andThen_ok, Sem.run_ite, if_pos (And.intro h0 h1)]

theorem run_bounds {b : Bool} {len cap : Nat} {lo hi mx : Option Value} {l h m : Nat}
    (hm : (mx = none ∧ m = cap) ∨ ∃ k, mx = some (.int k m) ∧ m ≤ cap ∧ hi ≠ none) (hh : (hi = none ∧ h = len) ∨ ∃ k, hi = some (.int k h)) (hl : (lo = none ∧ l = 0) ∨ ∃ k, lo = some (.int k l)) (h1 : l ≤ h) (h2 : h ≤ m) :
    (Instr.sliceBounds b len cap lo hi mx).run P w = .ok (l, h, m) w := by
  unfold Instr.sliceBounds
  rcases hm with ⟨rfl, rfl⟩ | ⟨k, rfl, hm, hne⟩ <;> rcases hh with ⟨rfl, rfl⟩ | ⟨k', rfl⟩ <;> rcases hl with ⟨rfl, rfl⟩ | ⟨k'', rfl⟩ <;>
    first
    | exact absurd rfl hne
    | (simp (disch := omega) [run_bound])

theorem bnd_some {x : Option A} {d : Nat} {n : Int} {v : Option Value} (h : bnd x d = some n) (hx : VRo w g x v) : (v = none ∧ x = none ∧ n = d) ∨ ∃ k, v = some (.int k n) ∧ x ≠ none := by
  unfold bnd at h
  cases x with
  | none =>
    cases v with
    | none => simp at h; exact .inl ⟨rfl, rfl, h.symm⟩
    | some u => exact hx.elim
  | some a =>
    cases v with
    | none => exact hx.elim
    | some u =>
      cases a <;> simp at h
      subst h
      have hx : VR w g _ u := hx
      rw [VR] at hx
      exact .inr ⟨_, by rw [hx], by simp⟩

theorem extract_bytes (s : List UInt8) (l h : Nat) : (⟨s.toArray⟩ : ByteArray).extract l h = ⟨((s.take h).drop l).toArray⟩ := by
  apply ByteArray.ext
  rw [ByteArray.data_extract]
  apply Array.ext'
  rw [List.drop_take]
  simp [List.extract_eq_take_drop]

theorem slarrA_sound {t : TypeId} {x a : A} {v : Value} (h : slarrA P t x = some a) (hx : VR w g x v) : ∃ r, (Instr.sliceAt t v none none none).run P w = .ok r w ∧ VR w g a r := by
  unfold slarrA at h
  split at h
  · rename_i cs
    split at h
    · rename_i n e har
      split at h
      · rename_i hc
        obtain ⟨hz, hle⟩ := hc
        simp only [Option.some.injEq] at h
        subst h
        rw [VR] at hx
        obtain ⟨b, o, us, rfl, hcs, hlies⟩ := hx
        have hb := run_bounds (P := P) (w := w) (b := false) (len := n) (cap := n) (lo := none) (hi := none) (mx := none) (l := 0) (h := n) (m := n) (.inl ⟨rfl, rfl⟩) (.inl ⟨rfl, rfl⟩) (.inl ⟨rfl, rfl⟩) (by omega) (by omega)
        have hz' : szOf P e ≠ 0 := by omega
        refine ⟨.slice (some ⟨b, o, none⟩) n n, ?_, ?_⟩
        · have ha : (if n = 0 then (⟨b, o, none⟩ : Addr) else (⟨b, o, none⟩ : Addr).add (0 * szOf P e)) = ⟨b, o, none⟩ := by
            split
            · rfl
            · rw [Nat.zero_mul]; rfl
          simp only [Instr.sliceAt, Sem.run_bind, run_underlying (arrT_some har), Result.andThen_ok, Instr.sureAddr, hb, run_size' hz', Sem.run_pure, ha, Nat.sub_zero]
        · rw [VR]
          refine ⟨_, n, us.take (n * szOf P e), rfl, fun _ => rfl, Nat.le_refl _, VRs.take _ hcs, fun _ => ⟨b, o, rfl, fun j u hj => ?_⟩⟩
          rw [List.getElem?_take] at hj
          split at hj
          · exact hlies j u hj
          · cases hj
      · cases h
    · cases h
  · cases h
theorem sliceA_sound {t : TypeId} {x a : A} {lo hi mx : Option A} {v : Value} {vl vh vm : Option Value} (hsl : sliceable P t = true) (h : sliceA P t x lo hi mx = some a) (hx : VR w g x v) (hl : VRo w g lo vl) (hh : VRo w g hi vh) (hm : VRo w g mx vm) :
    ∃ r, (Instr.sliceAt t v vl vh vm).run P w = .ok r w ∧ VR w g a r := by
  have hat : (Instr.sliceAt t v vl vh vm).run P w = (Instr.slice t v vl vh vm).run P w := by
    unfold sliceable at hsl
    cases hu : P.underlying t with
    | none => simp [hu] at hsl
    | some d => cases d <;> simp [hu] at hsl <;> simp [Instr.sliceAt, run_underlying hu]
  rw [hat]
  unfold sliceA at h
  cases x <;> simp only [reduceCtorEq] at h
  case str s =>
    rw [VR] at hx
    subst hx
    cases hbl : bnd lo 0 with
    | none => simp [hbl] at h
    | some l =>
    cases hbh : bnd hi s.length with
    | none => simp [hbl, hbh] at h
    | some h' =>
      simp only [hbl, hbh, Option.bind_eq_bind, Option.bind_some] at h
      split at h
      · rename_i hc
        obtain ⟨c1, c2, c3, c4, c5⟩ := hc
        simp only [Option.some.injEq] at h
        subst h
        have hmx : vm = none := by
          cases mx with
          | none => cases vm with
            | none => rfl
            | some u => exact hm.elim
          | some a => simp at c1
        subst hmx
        refine ⟨.string ⟨((s.take h'.toNat).drop l.toNat).toArray⟩, ?_, by rw [VR]⟩
        have hsz : (⟨s.toArray⟩ : ByteArray).size = s.length := by show s.toArray.size = _; simp
        have hb := run_bounds (P := P) (w := w) (b := false) (len := s.length) (cap := s.length) (lo := vl) (hi := vh) (mx := none) (l := l.toNat) (h := h'.toNat) (m := s.length) (.inl ⟨rfl, rfl⟩)
          (by rcases bnd_some hbh hh with ⟨e, _, e'⟩ | ⟨k, e, _⟩
              · exact .inl ⟨e, by omega⟩
              · exact .inr ⟨k, by rw [e]; congr 2; omega⟩)
          (by rcases bnd_some hbl hl with ⟨e, _, e'⟩ | ⟨k, e, _⟩
              · exact .inl ⟨e, by omega⟩
              · exact .inr ⟨k, by rw [e]; congr 2; omega⟩) (by omega) (by omega)
        simp only [Instr.slice, Sem.run_bind, run_underlying (isStr_true c2), Result.andThen_ok, Option.isSome_none, Bool.false_eq_true, if_false, hsz, hb, Sem.run_pure, extract_bytes]
      · cases h
  case nils =>
    rw [VR] at hx
    subst hx
    cases he : elemT P t with
    | none => simp [he] at h
    | some e =>
    cases hbl : bnd lo 0 with
    | none => simp [he, hbl] at h
    | some l =>
    cases hbh : bnd hi 0 with
    | none => simp [he, hbl, hbh] at h
    | some h' =>
      simp only [he, hbl, hbh, Option.bind_eq_bind, Option.bind_some] at h
      split at h
      · rename_i hc
        obtain ⟨c1, rfl, rfl, c4⟩ := hc
        simp only [Option.some.injEq] at h
        subst h
        have hmx : vm = none := by
          cases mx with
          | none => cases vm with
            | none => rfl
            | some u => exact hm.elim
          | some a => simp at c1
        subst hmx
        refine ⟨.slice none 0 0, ?_, by rw [VR]⟩
        have hb := run_bounds (P := P) (w := w) (b := true) (len := 0) (cap := 0) (lo := vl) (hi := vh) (mx := none) (l := 0) (h := 0) (m := 0) (.inl ⟨rfl, rfl⟩)
          (by rcases bnd_some hbh hh with ⟨e, _, e'⟩ | ⟨k, e, _⟩
              · exact .inl ⟨e, by omega⟩
              · exact .inr ⟨k, by rw [e]; rfl⟩)
          (by rcases bnd_some hbl hl with ⟨e, _, e'⟩ | ⟨k, e, _⟩
              · exact .inl ⟨e, by omega⟩
              · exact .inr ⟨k, by rw [e]; rfl⟩) (by omega) (by omega)
        have hz : szOf P e ≠ 0 := by omega
        simp only [Instr.slice, Sem.run_bind, run_underlying (elemT_some he), Result.andThen_ok, hb, run_size' hz, Sem.run_pure]
        rfl
      · cases h
  case isl f n cs =>
    rw [VR] at hx
    obtain ⟨p, c, us, rfl, hf, hnc, hc, hlies⟩ := hx
    cases he : elemT P t with
    | none => simp [he] at h
    | some e =>
    cases hbl : bnd lo 0 with
    | none => simp [he, hbl] at h
    | some l =>
    cases hbh : bnd hi n with
    | none => simp [he, hbl, hbh] at h
    | some h' =>
    cases hbm : bnd mx n with
    | none => simp [he, hbl, hbh, hbm] at h
    | some x =>
      simp only [he, hbl, hbh, hbm, Option.bind_eq_bind, Option.bind_some] at h
      split at h
      · rename_i hcc
        obtain ⟨c1, c2, c3, c4, c5, c6, c7⟩ := hcc
        simp only [Option.some.injEq] at h
        subst h
        -- the capacity's end
        obtain ⟨mm, hmm, hle, hlow, hfull⟩ : ∃ mm : Nat, ((vm = none ∧ mm = c) ∨ ∃ k, vm = some (.int k mm) ∧ mm ≤ c ∧ vh ≠ none) ∧ mm ≤ c ∧ h'.toNat ≤ mm ∧ ((mx.isSome = true ∧ h' = x ∨ f = true ∧ mx.isNone = true ∧ h' = n) → mm = h'.toNat) := by
          rcases bnd_some hbm hm with ⟨e1, e2, e3⟩ | ⟨k, e1, e2⟩
          · refine ⟨c, .inl ⟨e1, rfl⟩, Nat.le_refl _, by omega, ?_⟩
            rintro (⟨q, _⟩ | ⟨q, _, q'⟩)
            · simp [e2] at q
            · have := hf q
              omega
          · refine ⟨x.toNat, .inr ⟨k, by rw [e1]; congr 2; omega, by omega, ?_⟩, by omega, by omega, ?_⟩
            · rcases c1 with c1 | c1
              · exact absurd (by simpa using c1) e2
              · intro hv
                subst hv
                cases hi with
                | none => simp at c1
                | some q => exact hh.elim
            · rintro (⟨_, q⟩ | ⟨_, q, _⟩)
              · omega
              · exact absurd (by simpa using q) e2
        have hb := run_bounds (P := P) (w := w) (b := true) (len := n) (cap := c) (lo := vl) (hi := vh) (mx := vm) (l := l.toNat) (h := h'.toNat) (m := mm) hmm
          (by rcases bnd_some hbh hh with ⟨e, _, e'⟩ | ⟨k, e, _⟩
              · exact .inl ⟨e, by omega⟩
              · exact .inr ⟨k, by rw [e]; congr 2; omega⟩)
          (by rcases bnd_some hbl hl with ⟨e, _, e'⟩ | ⟨k, e, _⟩
              · exact .inl ⟨e, by omega⟩
              · exact .inr ⟨k, by rw [e]; congr 2; omega⟩) (by omega) hlow
        have hz : szOf P e ≠ 0 := by omega
        refine ⟨.slice (if mm = l.toNat then p else p.map (·.add (l.toNat * szOf P e))) (h'.toNat - l.toNat) (mm - l.toNat), ?_, ?_⟩
        · simp only [Instr.slice, Sem.run_bind, run_underlying (elemT_some he), Result.andThen_ok, hb, run_size' hz, Sem.run_pure]
        · rw [VR]
          refine ⟨_, _, (us.take (h'.toNat * szOf P e)).drop (l.toNat * szOf P e), by congr 1; omega, ?_, by omega, (hc.take _).drop _, fun hne => ?_⟩
          · intro q
            have := hfull (by simpa using q)
            omega
          · have hlh : l.toNat < h'.toNat := by
              rcases Nat.lt_or_ge l.toNat h'.toNat with q | q
              · exact q
              · exfalso
                apply hne
                have hk : l.toNat = h'.toNat := by omega
                rw [hk]
                apply List.drop_eq_nil_of_le
                simp
                omega
            have hune : us ≠ [] := by rintro rfl; simp at hne
            obtain ⟨b, o, rfl, hl2⟩ := hlies hune
            refine ⟨b, o + l.toNat * szOf P e, ?_, (hl2.take _).drop _⟩
            rw [if_neg (by omega)]
            simp [add_plain']
      · cases h
  case sl id ver off n =>
    rw [VR] at hx
    obtain ⟨⟨b, o, c, rfl, hnc⟩, L, k1, k2, k3⟩ := hx
    cases he : elemT P t with
    | none => simp [he] at h
    | some e =>
    cases hbl : bnd lo 0 with
    | none => simp [he, hbl] at h
    | some l =>
    cases hbh : bnd hi n with
    | none => simp [he, hbl, hbh] at h
    | some h' =>
      simp only [he, hbl, hbh, Option.bind_eq_bind, Option.bind_some] at h
      split at h
      · rename_i hcc
        obtain ⟨c1, c2, c3, c4, c5⟩ := hcc
        simp only [Option.some.injEq] at h
        have hmx : vm = none := by
          cases mx with
          | none => cases vm with
            | none => rfl
            | some u => exact hm.elim
          | some a => simp at c1
        subst hmx
        have hb := run_bounds (P := P) (w := w) (b := true) (len := n) (cap := c) (lo := vl) (hi := vh) (mx := none) (l := l.toNat) (h := h'.toNat) (m := c) (.inl ⟨rfl, rfl⟩)
          (by rcases bnd_some hbh hh with ⟨e, _, e'⟩ | ⟨k, e, _⟩
              · exact .inl ⟨e, by omega⟩
              · exact .inr ⟨k, by rw [e]; congr 2; omega⟩)
          (by rcases bnd_some hbl hl with ⟨e, _, e'⟩ | ⟨k, e, _⟩
              · exact .inl ⟨e, by omega⟩
              · exact .inr ⟨k, by rw [e]; congr 2; omega⟩) (by omega) (by omega)
        have hz : szOf P e ≠ 0 := by omega
        refine ⟨.slice (if c = l.toNat then some ⟨b, o, none⟩ else some ⟨b, o + l.toNat * szOf P e, none⟩) (h'.toNat - l.toNat) (c - l.toNat), ?_, ?_⟩
        · simp only [Instr.slice, Sem.run_bind, run_underlying (elemT_some he), Result.andThen_ok, hb, run_size' hz, Sem.run_pure, Option.map_some, add_plain']
        · by_cases hlh : l = h'
          · rw [if_pos hlh] at h
            subst h
            rw [VR]
            refine ⟨_, _, [], by congr 1; omega, by simp, by omega, VRs.mk_nil, by simp⟩
          · rw [if_neg hlh] at h
            subst h
            rw [VR, if_neg (show ¬ c = l.toNat by omega)]
            refine ⟨⟨_, _, _, by congr 1; omega, by omega⟩, L, k1, k2, fun e' => ?_⟩
            obtain ⟨c', hc', _, hcap⟩ := k3 e'
            simp only [Value.slice.injEq, Option.some.injEq, Addr.mk.injEq] at hc'
            obtain ⟨⟨rfl, rfl, _⟩, _, rfl⟩ := hc'
            refine ⟨c - l.toNat, by congr 1; omega, by omega, fun h0 => ?_⟩
            have hl0 : l.toNat = 0 := by
              rcases Nat.eq_zero_or_pos l.toNat with q | q
              · exact q
              · have := Nat.mul_pos q c5
                omega
            rw [hl0, Nat.sub_zero]
            exact hcap (by omega)
      · cases h
end
end AE
end Go.Proofs.YthoomlenmgdebaaGreatDoor
