/- THE EVALUATOR IS SOUND: what it answers, the model's call answers, in whatever world and on whatever tape. -/
import Derived.Test.YthoomlenmgdebaaGreatDoorAEA
import Derived.LoopN
import Derived.Recover
set_option linter.unusedVariables false
set_option linter.unusedSimpArgs false
set_option linter.unusedSectionVars false
set_option maxHeartbeats 800000
namespace Go.Proofs.YthoomlenmgdebaaGreatDoor
namespace AE
open Go Go.RowKit

/-! ### Loops, round by round -/
/-- From the end of a round on. -/
def LoopArr (P : Program) (c : Code) (Q : Exit → Act → World → Prop) (a : Act) (w : World) : Prop :=
  ∀ (b : Frame) (k : List Item) (cs : List Frame), ∃ e a' w', Q e a' w' ∧ Arrives P (lone (b.at a (.inLoop c :: k)) cs w) b k cs e a' w'

theorem loop_round {P : Program} {c : Code} {Q : Exit → Act → World → Prop} {a : Act} {w : World} (h : c.wp P (Exit.then (LoopArr P c Q) Q) a w) (b : Frame) (k : List Item) (cs : List Frame) :
    ∃ e a' w', Q e a' w' ∧ Arrives P (lone (b.at a (.code c :: .inLoop c :: k)) cs w) b k cs e a' w' := by
  obtain ⟨e, a₁, w₁, hq, harr⟩ := h b (.inLoop c :: k) cs
  cases e with
  | normal =>
    obtain ⟨e₂, a₂, w₂, hq₂, harr₂⟩ := hq b k cs
    exact ⟨e₂, a₂, w₂, hq₂, .of_steps harr harr₂⟩
  | exit id => exact ⟨_, a₁, w₁, hq, .pass (x := .inLoop c) rfl (fun _ _ => .inl (by simp)) harr⟩
  | goto l => exact ⟨_, a₁, w₁, hq, .pass (x := .inLoop c) rfl (fun _ _ => .inl (by simp)) harr⟩
  | ret => exact ⟨_, a₁, w₁, hq, .pass (x := .inLoop c) rfl (fun _ _ => .inl (by simp)) harr⟩
  | panic ch => exact ⟨_, a₁, w₁, hq, .pass (x := .inLoop c) rfl (fun _ _ => .inl (by simp)) harr⟩
  | outgrown => exact ⟨_, a₁, w₁, hq, .pass (x := .inLoop c) rfl (fun _ _ => .inl (by simp)) harr⟩
theorem loop_arr {P : Program} {c : Code} {Q : Exit → Act → World → Prop} {a : Act} {w : World} (h : c.wp P (Exit.then (LoopArr P c Q) Q) a w) : LoopArr P c Q a w := fun b k cs =>
  let ⟨e, a', w', hq, harr⟩ := loop_round h b k cs
  ⟨e, a', w', hq, .of_steps (.one step_inLoop) harr⟩
theorem loop_wp {P : Program} {c : Code} {Q : Exit → Act → World → Prop} {a : Act} {w : World} (h : c.wp P (Exit.then (LoopArr P c Q) Q) a w) : (Code.loop c).wp P Q a w := fun b k cs =>
  let ⟨e, a', w', hq, harr⟩ := loop_round h b k cs
  ⟨e, a', w', hq, .of_steps (.one step_loop) harr⟩
theorem LoopArr.mono {P : Program} {c : Code} {Q Q' : Exit → Act → World → Prop} {a : Act} {w : World} (h : LoopArr P c Q a w) (hq : ∀ e a w, Q e a w → Q' e a w) : LoopArr P c Q' a w := fun b k cs =>
  let ⟨e, a', w', q, r⟩ := h b k cs
  ⟨e, a', w', hq _ _ _ q, r⟩

/-! ### The statements -/
def TmR (w : World) (g : Gh) (tm : List (Nat × A)) (tmps : Array Value) : Prop := ∀ t, VR w g (lk t tm) (tmps.getD t undef)

def ExR (w : World) (g : Gh) : Ex → Exit → Prop
  | .normal, .normal => True
  | .exit i, .exit j => i = j
  | .ret, .ret => True
  | .pan x, .panic chain => ∃ v, chain = [{ v, recovered := false }] ∧ VR w g x v
  | _, _ => False

def ResR (w : World) (g : Gh) : Res → Ending → Prop
  | .ret a, .returned v => VR w g a v
  | .pan a, .panicked chain => ∃ v, chain = [{ v, recovered := false }] ∧ VR w g a v
  | _, _ => False

section
variable (C : Cfg)

def Post (w0 w : World) (g : Gh) (nt : Nat) (df : List Deferred) (x : Ex × St) : Exit → Act → World → Prop := fun e a' w' =>
  ∃ g', SR C.P C.gl w0 g' x.2.m w' ∧ Ext w g w' g' ∧ TmR w' g' x.2.tm a'.tmps ∧ a'.tmps.size = nt ∧ a'.defers = df ∧ ExR w' g' x.1 e

def callable (P : Program) (f : FuncId) : Prop := ∃ fn c, P.funcs[f]? = some fn ∧ fn.body = some c ∧ fn.name ≠ "runtime.NumGoroutine"

def CallOk (f : FuncId) (args : List A) (m : Mem) (r : Res × Mem) : Prop :=
  callable C.P f ∧ ∀ w0 g w (vals : List Value), SR C.P C.gl w0 g m w → VRs w g args vals →
    Calls C.P f vals.toArray w fun e w' => ∃ g', SR C.P C.gl w0 g' r.2 w' ∧ Ext w g w' g' ∧ ResR w' g' r.1 e

/-- A part of a code. -/
def Sub : Code → Code → Prop
  | .seq x y, c => .seq x y = c ∨ Sub x c ∨ Sub y c
  | .cond k x y, c => .cond k x y = c ∨ Sub x c ∨ Sub y c
  | .block i x, c => .block i x = c ∨ Sub x c
  | .loop x, c => .loop x = c ∨ Sub x c
  | b, c => b = c
theorem Sub.refl (b : Code) : Sub b b := by cases b <;> simp [Sub]
theorem Sub.trans : ∀ {b c e : Code}, Sub b c → Sub c e → Sub b e
  | .seq x y, c, e, h, k => by
    rw [Sub] at h ⊢
    rcases h with rfl | h | h
    · rw [Sub] at k; exact k
    · exact .inr (.inl (Sub.trans h k))
    · exact .inr (.inr (Sub.trans h k))
  | .cond _ x y, c, e, h, k => by
    rw [Sub] at h ⊢
    rcases h with rfl | h | h
    · rw [Sub] at k; exact k
    · exact .inr (.inl (Sub.trans h k))
    · exact .inr (.inr (Sub.trans h k))
  | .block _ x, c, e, h, k => by
    rw [Sub] at h ⊢
    rcases h with rfl | h
    · rw [Sub] at k; exact k
    · exact .inr (Sub.trans h k)
  | .loop x, c, e, h, k => by
    rw [Sub] at h ⊢
    rcases h with rfl | h
    · rw [Sub] at k; exact k
    · exact .inr (Sub.trans h k)
  | .skip, c, e, h, k => by simp only [Sub] at h; subst h; exact k
  | .region _ _ _, c, e, h, k => by simp only [Sub] at h; subst h; exact k
  | .rangeFunc _ _ _ _, c, e, h, k => by simp only [Sub] at h; subst h; exact k
  | .exit _, c, e, h, k => by simp only [Sub] at h; subst h; exact k
  | .scope _, c, e, h, k => by simp only [Sub] at h; subst h; exact k
  | .label _, c, e, h, k => by simp only [Sub] at h; subst h; exact k
  | .goto _, c, e, h, k => by simp only [Sub] at h; subst h; exact k
  | .ret, c, e, h, k => by simp only [Sub] at h; subst h; exact k
  | .refuse _, c, e, h, k => by simp only [Sub] at h; subst h; exact k

/-- A part of a function's body. -/
def PartOf (f : FuncId) (c : Code) : Prop := ∃ fn b, C.P.funcs[f]? = some fn ∧ fn.body = some b ∧ Sub b c
variable {C} in
theorem PartOf.sub {f : FuncId} {c e : Code} (h : PartOf C f c) (k : Sub c e) : PartOf C f e := by
  obtain ⟨fn, b, h1, h2, h3⟩ := h
  exact ⟨fn, b, h1, h2, h3.trans k⟩

def CodeOk (f : FuncId) (nt : Nat) (c : Code) (s : St) (x : Ex × St) : Prop :=
  PartOf C f c → ∀ w0 g w (a : Act), a.tmps.size = nt → SR C.P C.gl w0 g s.m w → TmR w g s.tm a.tmps →
    c.wp C.P (Post C w0 w g nt a.defers x) a w ∧ ∀ b, c = .loop b → LoopArr C.P b (Post C w0 w g nt a.defers x) a w

/-- A body that may defer a call: what it ends with, the call ends with. -/
def RecOk (f : FuncId) (nt : Nat) (c : Code) (s : St) (x : Ex × St) : Prop :=
  PartOf C f c → ∀ (fn : Func) (R : Ending → World → Prop) w0 g w (a : Act), a.tmps.size = nt → a.defers = [] → SR C.P C.gl w0 g s.m w → TmR w g s.tm a.tmps →
    (∀ e g' w' tmps, SR C.P C.gl w0 g' x.2.m w' → Ext w g w' g' → TmR w' g' x.2.tm tmps → ExR w' g' x.1 e → bodyPostD C.P fn R e { tmps, defers := [] } w') →
    c.wp C.P (bodyPostD C.P fn R) a w

def OpsOk (f : FuncId) (nt : Nat) (all l : List Oper) (s : St) (x : Ex × St) : Prop :=
  ∀ w0 g w (a : Act) (ops : Array Oper) (k : Nat) (Q : Exit → Act → World → Prop), ops.toList = all → l = all.drop k → a.tmps.size = nt → SR C.P C.gl w0 g s.m w → TmR w g s.tm a.tmps →
    (∀ e a' w', Post C w0 w g nt a.defers x e a' w' → Q e a' w') → wpOps C.P ops Q (List.range' k l.length) a w

/-- What a program's oracles owe. -/
structure CfgOk : Prop where
  gl : ∀ n, closed 0 0 (C.gl n) = true
  mixed : C.P.follows .mixedOrders = true
  dok : ∀ f id ops, PartOf C f (.region id ops true) → C.ann.dok f id = true → drawOk ops (C.ann.draw f id) = true
  ext : ∀ f h, C.ext f = some h → ∀ args m r, h args m = some r → CallOk C f args m r
end

section
variable {C : Cfg} {w0 w w' : World} {g g' : Gh} {nt : Nat} {df : List Deferred} {x : Ex × St}
theorem TmR.mono {tm : List (Nat × A)} {tmps : Array Value} (h : TmR w g tm tmps) (e : Ext w g w' g') : TmR w' g' tm tmps := fun t => VR.mono e _ _ (h t)
theorem TmR.put {tm : List (Nat × A)} {a : Act} {d : Option Nat} {b : A} {v : Value} (h : TmR w g tm a.tmps) (hd : d.all (· < a.tmps.size) = true) (hv : VR w g b v) : TmR w g (AE.put d b tm) (a.put d v).tmps := by
  cases d with
  | none => exact h
  | some d =>
    simp only [Option.all_some, decide_eq_true_eq] at hd
    intro t
    simp only [AE.put, lk, Act.put]
    by_cases ht : d = t
    · subst ht
      rw [if_pos rfl]
      simp only [Array.getD_eq_getD_getElem?, Array.getElem?_setIfInBounds, if_pos hd, if_true, Option.getD_some]
      exact hv
    · rw [if_neg ht]
      have := h t
      simp only [Array.getD_eq_getD_getElem?, Array.getElem?_setIfInBounds, if_neg ht] at this ⊢
      exact this
theorem put_size (a : Act) (d : Option Nat) (v : Value) : (a.put d v).tmps.size = a.tmps.size := by cases d <;> simp [Act.put]
theorem put_defers (a : Act) (d : Option Nat) (v : Value) : (a.put d v).defers = a.defers := by cases d <;> rfl
theorem TmR.opd {tm : List (Nat × A)} {a : Act} (h : TmR w g tm a.tmps) (hgl : ∀ n, VR w g (C.gl n) (.pointer (some ⟨n, 0, none⟩))) : ∀ x, VR w g (AE.opd C.gl tm x) (a.eval x)
  | .tmp t => h t
  | .const v => VR_ofV v
  | .global n => hgl n
  | .func f => by
    show VR w g (.fn f []) (.func (.func f) #[] #[])
    rw [VR]
    exact ⟨[], rfl, VRs.mk_nil⟩
theorem lk_map (l : List Nat) (tm : List (Nat × A)) (t : Nat) : lk t (l.map fun t => (t, lk t tm)) = lk t tm ∨ lk t (l.map fun t => (t, lk t tm)) = .undef := by
  induction l with
  | nil => exact .inr rfl
  | cons u r ih =>
    simp only [List.map_cons, lk]
    by_cases h : u = t
    · subst h; rw [if_pos rfl]; exact .inl rfl
    · rw [if_neg h]; exact ih
theorem TmR.prune {tm : List (Nat × A)} {tmps : Array Value} (k : Option (List Nat)) (h : TmR w g tm tmps) : TmR w g (AE.prune k tm) tmps := by
  cases k with
  | none => exact h
  | some l =>
    intro t
    rcases lk_map l tm t with e | e
    · show VR w g (lk t (l.map fun t => (t, lk t tm))) _
      rw [e]; exact h t
    · show VR w g (lk t (l.map fun t => (t, lk t tm))) _
      rw [e, VR]; trivial
theorem Post.ext (e : Ext w g w' g') {ex : Exit} {a : Act} {W : World} (h : Post C w0 w' g' nt df x ex a W) : Post C w0 w g nt df x ex a W := by
  obtain ⟨g2, h1, h2, h3⟩ := h
  exact ⟨g2, h1, e.trans h2, h3⟩

theorem want_sound {o : Oper} {all : List Oper} {ops : Array Oper} (ho : ops.toList = all) {tm : List (Nat × A)} {tmps : Array Value} {b : Bool} (h : wantA o all tm = some b) (ht : TmR w g tm tmps) : Region.wanted o (yielded ops tmps) = b := by
  unfold wantA at h
  unfold Region.wanted
  cases hg : o.guard with
  | none => simp only [hg, Option.some.injEq] at h; exact h
  | some p =>
    obtain ⟨j, want⟩ := p
    simp only [hg] at h ⊢
    have hj : ops[j]? = all[j]? := by rw [← ho]; simp
    unfold yielded
    rw [hj]
    cases hd : (all[j]?).bind (·.dst) with
    | none =>
      simp only [hd, Option.some.injEq] at h
      subst h
      simp
    | some d =>
      simp only [hd] at h
      have hv := ht d
      unfold guardA at h
      split at h
      · rename_i c hc
        rw [hc, VR] at hv
        have hsome : tmps[d]? = some (.bool c) := by
          rw [Array.getD_eq_getD_getElem?] at hv
          cases hq : tmps[d]? with
          | none => rw [hq] at hv; cases hv
          | some u => rw [hq] at hv; simp at hv; rw [hv]
        simp only [Option.some.injEq] at h
        rw [← h]
        simp [hsome]
      · rename_i hc
        rw [hc, VR] at hv
        obtain ⟨us, hu, hn⟩ := hv
        rw [VRs.nil_iff] at hn
        subst hn
        simp only [Option.some.injEq] at h
        subst h
        have : ∀ c, tmps[d]? ≠ some (.bool c) := by
          intro c hc
          rw [Array.getD_eq_getD_getElem?, hc] at hu
          cases hu
        simp only [Option.bind_some]
        cases hq : tmps[d]? with
        | none => simp
        | some u =>
          cases u <;> first | (exfalso; exact this _ hq) | simp
      · cases h

/-- A call of a function's value. -/
theorem run_call {P : Program} {o : Oper} {gop : Operand} {args : Array Operand} {argTypes : Array TypeId} (ho : o.op = .call { callee := .value gop, args, argTypes }) {ρ : Operand → Value} {h : FuncId} {us : List Value} (hg : ρ gop = .func (.func h) #[] us.toArray) (hc : callable P h) :
    (execOp ρ o).run P w = .ok (.enter h (args.map ρ ++ us.toArray)) w := by
  obtain ⟨fn, c, h1, h2, h3⟩ := hc
  have h3' : (fn.name == "runtime.NumGoroutine") = false := by simpa using h3
  simp only [execOp, ho, resolve, hg, Deferred.ofValue, Sem.run_bind, Sem.run_pure, Result.andThen_ok, invoke, callFunc, run_program, h1, h3', Bool.false_eq_true, if_false, h2, Option.isNone_some, Array.empty_append]
end
end AE
end Go.Proofs.YthoomlenmgdebaaGreatDoor
