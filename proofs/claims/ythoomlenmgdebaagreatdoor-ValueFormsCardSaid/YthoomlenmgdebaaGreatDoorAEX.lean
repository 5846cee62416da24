/- Regions that draw their order: whatever order the tape draws, what the evaluator answers in the text's order holds. -/
import Derived.Test.YthoomlenmgdebaaGreatDoorAEC
set_option linter.unusedVariables false
set_option linter.unusedSimpArgs false
set_option linter.unusedSectionVars false
set_option maxHeartbeats 1600000
namespace Go.Proofs.YthoomlenmgdebaaGreatDoor
namespace AE
open Go Go.RowKit

/-! ### The orders that may be drawn -/
/-- A list of operations, each behind those that it names, all of them. -/
def Topo (ops : Array Oper) : (Nat → Bool) → List Nat → Prop
  | L, [] => ∀ i, i < ops.size → L i = true
  | L, i :: r => i < ops.size ∧ L i = false ∧ (∀ o, ops[i]? = some o → ∀ e ∈ o.after.toList, Region.binds .any e = true → L e.on = true) ∧ Topo ops (fun j => if j = i then true else L j) r

theorem Topo.congr {ops : Array Oper} : ∀ {l : List Nat} {L L' : Nat → Bool}, (∀ i, i < ops.size → L i = L' i) → (∀ (i : Nat) (o : Oper), ops[i]? = some o → ∀ e ∈ o.after.toList, Region.binds .any e = true → e.on < ops.size) → Topo ops L l → Topo ops L' l
  | [], L, L', h, _, k => fun i hi => by rw [← h i hi]; exact k i hi
  | i :: r, L, L', h, hb, ⟨k1, k2, k3, k4⟩ => by
    refine ⟨k1, by rw [← h i k1]; exact k2, fun o ho e he hbe => ?_, k4.congr (fun j hj => ?_) hb⟩
    · rw [← h _ (hb i o ho e he hbe)]; exact k3 o ho e he hbe
    · show (if j = i then true else L j) = (if j = i then true else L' j)
      rw [h j hj]

def unlisted (L : Array Bool) (n : Nat) : Nat := ((List.range n).filter fun i => !L.getD i true).length

theorem unlisted_set {L : Array Bool} {n i : Nat} (hi : i < n) (hs : L.size = n) (hL : L.getD i true = false) : unlisted (L.setIfInBounds i true) n + 1 = unlisted L n := by
  unfold unlisted
  have key : ∀ l : List Nat, l.Nodup → i ∈ l → (l.filter fun j => !(L.setIfInBounds i true).getD j true).length + 1 = (l.filter fun j => !L.getD j true).length := by
    intro l
    induction l with
    | nil => intro _ h; simp at h
    | cons j r ih =>
      intro hnd hmem
      have hnd' := List.nodup_cons.1 hnd
      by_cases hji : j = i
      · subst hji
        have h1 : (L.setIfInBounds j true).getD j true = true := by
          simp [Array.getD_eq_getD_getElem?, Array.getElem?_setIfInBounds]
          split <;> simp
        have h2 : ∀ k ∈ r, (L.setIfInBounds j true).getD k true = L.getD k true := by
          intro k hk
          have : j ≠ k := fun e => hnd'.1 (e ▸ hk)
          simp [Array.getD_eq_getD_getElem?, Array.getElem?_setIfInBounds, this]
        have h3 : (r.filter fun k => !(L.setIfInBounds j true).getD k true) = r.filter fun k => !L.getD k true := List.filter_congr fun k hk => by rw [h2 k hk]
        simp only [List.filter_cons, h1, hL, h3]
        simp
      · have hm : i ∈ r := by
          rcases List.mem_cons.1 hmem with e | e
          · exact absurd e.symm hji
          · exact e
        have h1 : (L.setIfInBounds i true).getD j true = L.getD j true := by
          have : i ≠ j := fun e => hji e.symm
          simp [Array.getD_eq_getD_getElem?, Array.getElem?_setIfInBounds, this]
        have := ih hnd'.2 hm
        simp only [List.filter_cons, h1]
        split
        · simp only [List.length_cons]; omega
        · exact this
  exact key (List.range n) List.nodup_range (List.mem_range.2 hi)

theorem linearise_go (ops : Array Oper) (hlt : ∀ i o, ops[i]? = some o → ∀ e ∈ o.after.toList, Region.binds .any e = true → e.on < i) :
    ∀ (fuel t : Nat) (L : Array Bool) (acc : List Nat), L.size = ops.size → unlisted L ops.size = fuel → ∃ l, Region.linearise.go .any ops fuel t L acc = acc.reverse ++ l ∧ Topo ops (fun i => L.getD i true) l
  | 0, t, L, acc, hs, hu => by
    refine ⟨[], by simp [Region.linearise.go], fun i hi => ?_⟩
    unfold unlisted at hu
    have : (List.range ops.size).filter (fun i => !L.getD i true) = [] := List.eq_nil_of_length_eq_zero hu
    have := List.filter_eq_nil_iff.1 this i (List.mem_range.2 hi)
    simpa using this
  | fuel + 1, t, L, acc, hs, hu => by
    -- the ready ones
    let rs := (List.range ops.size).filter fun i => !L.getD i true && ((ops[i]?).map (·.after.all fun e => !Region.binds .any e || L.getD e.on false)).getD false
    have hne : rs ≠ [] := by
      -- the least unlisted one is ready
      have hpos : (List.range ops.size).filter (fun i => !L.getD i true) ≠ [] := by
        intro h
        unfold unlisted at hu
        rw [h] at hu
        simp at hu
      obtain ⟨i0, hi0⟩ := List.exists_mem_of_ne_nil _ hpos
      rw [List.mem_filter, List.mem_range] at hi0
      have hmin : ∀ i, i < ops.size → (!L.getD i true) = true → ∃ j, j < ops.size ∧ (!L.getD j true) = true ∧ ∀ k, k < j → L.getD k true = true := by
        intro i
        induction i using Nat.strongRecOn with
        | _ i ih =>
          intro hi hL
          by_cases h : ∀ k, k < i → L.getD k true = true
          · exact ⟨i, hi, hL, h⟩
          · simp only [Classical.not_forall] at h
            obtain ⟨k, hk, hk'⟩ := h
            exact ih k hk (by omega) (by simpa using hk')
      obtain ⟨j, hj, hjL, hjmin⟩ := hmin i0 hi0.1 hi0.2
      intro h
      have : j ∈ rs := by
        rw [List.mem_filter, List.mem_range]
        refine ⟨hj, ?_⟩
        rw [Bool.and_eq_true]
        refine ⟨hjL, ?_⟩
        rw [Array.getElem?_eq_getElem hj]
        simp only [Option.map_some, Option.getD_some]
        rw [Array.all_eq_true']
        intro e he
        cases hb : Region.binds .any e with
        | false => rfl
        | true =>
          have hlt' := hlt j ops[j] (Array.getElem?_eq_getElem hj) e (by simpa using he) hb
          have := hjmin _ hlt'
          have hin : e.on < L.size := by omega
          simp only [Array.getD_eq_getD_getElem?, Array.getElem?_eq_getElem hin, Option.getD_some] at this ⊢
          rw [this]
          rfl
      rw [h] at this
      simp at this
    have hlen : t % rs.length < rs.length := Nat.mod_lt _ (List.length_pos_iff.2 hne)
    have hget : rs[t % rs.length]? = some rs[t % rs.length] := List.getElem?_eq_getElem hlen
    have hmem : rs[t % rs.length] ∈ rs := List.getElem_mem hlen
    generalize rs[t % rs.length] = i at hget hmem
    rw [List.mem_filter, List.mem_range, Bool.and_eq_true] at hmem
    obtain ⟨hi, hL, hr⟩ := hmem
    have hL' : L.getD i true = false := by simpa using hL
    obtain ⟨l, h1, h2⟩ := linearise_go ops hlt fuel (t / rs.length) (L.setIfInBounds i true) (i :: acc) (by simpa using hs) (by have := unlisted_set hi hs hL'; omega)
    refine ⟨i :: l, ?_, hi, hL', fun o ho e he hb => ?_, ?_⟩
    · rw [Region.linearise.go]
      show (match rs[t % rs.length]? with | some i => _ | none => _) = _
      rw [hget]
      simp only
      rw [h1]
      simp
    · rw [ho] at hr
      simp only [Option.map_some, Option.getD_some] at hr
      rw [Array.all_eq_true'] at hr
      have := hr e (by simpa using he)
      rw [hb] at this
      simp only [Bool.not_true, Bool.false_or] at this
      simp only [Array.getD_eq_getD_getElem?] at this ⊢
      cases hq : L[e.on]? with
      | none => rfl
      | some b => rw [hq] at this; simpa using this
    · refine h2.congr (fun j hj => ?_) (fun j o ho e he hb => Nat.lt_trans (hlt j o ho e he hb) (Array.getElem?_eq_some_iff.1 ho).1)
      by_cases hji : j = i
      · subst hji
        have : j < L.size := by omega
        simp [Array.getD_eq_getD_getElem?, Array.getElem?_setIfInBounds, this]
      · have : i ≠ j := fun e => hji e.symm
        simp [Array.getD_eq_getD_getElem?, Array.getElem?_setIfInBounds, this, hji]

theorem schedule_topo (ops : Array Oper) (hlt : ∀ i o, ops[i]? = some o → ∀ e ∈ o.after.toList, Region.binds .any e = true → e.on < i) (mixed : Bool) (hm : mixed = true) (t : Nat) : Topo ops (fun _ => false) (Region.schedule mixed ops t) := by
  subst hm
  unfold Region.schedule
  simp only [Bool.true_or, if_true]
  unfold Region.linearise
  obtain ⟨l, h1, h2⟩ := linearise_go ops hlt ops.size t (Array.replicate ops.size false) [] (by simp) (by
    unfold unlisted
    rw [List.filter_eq_self.2]
    · simp
    · intro i hi
      rw [List.mem_range] at hi
      simp [Array.getD_eq_getD_getElem?, hi])
  rw [h1]
  simp only [List.reverse_nil, List.nil_append]
  refine h2.congr (fun i hi => ?_) (fun j o ho e he hb => Nat.lt_trans (hlt j o ho e he hb) (Array.getElem?_eq_some_iff.1 ho).1)
  simp [Array.getD_eq_getD_getElem?, hi]

/-! ### What the text's order gave -/
section
variable {C : Cfg}
def RunOk (C : Cfg) (all : List Oper) (o : Oper) (s : St) (kd : EKind) (v : A) (m1 : Mem) : Prop :=
  (wantA o all s.tm = some false ∧ v = .tup [] ∧ m1 = s.m ∧ kd = kindS o.op) ∨
  (wantA o all s.tm = some true ∧ ((∃ gop args tys h caps, o.op = .call { callee := .value gop, args := args, argTypes := tys } ∧ opd C.gl s.tm gop = .fn h caps ∧ CallOk C h (args.toList.map (opd C.gl s.tm) ++ caps) s.m (.ret v, m1) ∧ kd = .eff) ∨
    ((∀ gop args tys, o.op ≠ .call { callee := .value gop, args := args, argTypes := tys }) ∧ opA C.P o.op (opd C.gl s.tm) s.m = some (v, m1) ∧ kd = kindA o.op (opd C.gl s.tm))))
/-- A call that panics. -/
def PanOk (C : Cfg) (all : List Oper) (o : Oper) (s : St) (a : A) (m : Mem) : Prop :=
  wantA o all s.tm = some true ∧ ∃ gop args tys h caps, o.op = .call { callee := .value gop, args := args, argTypes := tys } ∧ opd C.gl s.tm gop = .fn h caps ∧ CallOk C h (args.toList.map (opd C.gl s.tm) ++ caps) s.m (.pan a, m)
/-- One operation: it ran, or it stands behind the one that panics, or it is that one. -/
def StepOk (C : Cfg) (d : DrawAnn) (po : Option (Nat × A × Mem)) (i : Nat) (all : List Oper) (o : Oper) (s : St) (kd : EKind) (v : A) (m1 : Mem) : Prop :=
  (RunOk C all o s kd v m1 ∧ ∀ a m, po ≠ some (i, a, m)) ∨ (∃ p a m, po = some (p, a, m) ∧ p ∈ d.pre.getD i [] ∧ m1 = s.m) ∨ (∃ a m, po = some (i, a, m) ∧ m1 = s.m ∧ PanOk C all o s a m)

def Valid (C : Cfg) (nt : Nat) (d : DrawAnn) (po : Option (Nat × A × Mem)) (all : List Oper) : Nat → List Oper → St → List Ent → St → Prop
  | _, [], s, tr, s' => tr = [] ∧ s' = s
  | i, o :: rest, s, tr, s' => ∃ kd v m1 tr', tr = ⟨kd, v, s.m⟩ :: tr' ∧ o.dst.all (· < nt) = true ∧ StepOk C d po i all o s kd v m1 ∧ Valid C nt d po all (i + 1) rest ⟨put o.dst v s.tm, m1⟩ tr' s'

/-- What the text's order gave: all operations, or those up to one that panics. -/
def DrawR (C : Cfg) (nt : Nat) (all : List Oper) : List Oper → St → List Ent → Option (A × Mem) × St → Prop
  | [], s, tr, y => tr = [] ∧ y = (none, s)
  | o :: rest, s, tr, y => o.dst.all (· < nt) = true ∧
    ((∃ kd v m1 tr', tr = ⟨kd, v, s.m⟩ :: tr' ∧ RunOk C all o s kd v m1 ∧ DrawR C nt all rest ⟨put o.dst v s.tm, m1⟩ tr' y) ∨
     (∃ a m, tr = [⟨.eff, .undef, s.m⟩] ∧ y = (some (a, m), ⟨put o.dst .undef s.tm, s.m⟩) ∧ PanOk C all o s a m))

theorem DrawR.valid {C : Cfg} {nt : Nat} {d : DrawAnn} {all : List Oper} : ∀ {l : List Oper} {i : Nat} {s s' : St} {tr : List Ent}, DrawR C nt all l s tr (none, s') → Valid C nt d none all i l s tr s'
  | [], i, s, s', tr, ⟨h1, h2⟩ => by
    simp only [Prod.mk.injEq, true_and] at h2
    exact ⟨h1, h2⟩
  | o :: rest, i, s, s', tr, ⟨hd, h⟩ => by
    rcases h with ⟨kd, v, m1, tr', h1, h2, h3⟩ | ⟨a, m, _, h2, _⟩
    · exact ⟨kd, v, m1, tr', h1, hd, .inl ⟨h2, fun a m e => by cases e⟩, h3.valid⟩
    · simp at h2

theorem afterP_valid {C : Cfg} {nt : Nat} {d : DrawAnn} {all : List Oper} {p : Nat} {a : A} {m : Mem} : ∀ {l : List Oper} {i : Nat} {s s' : St} {tr : List Ent}, afterP C.P C.gl nt d all p i l s = some (tr, s') → p < i → Valid C nt d (some (p, a, m)) all i l s tr s'
  | [], i, s, s', tr, h, hpi => by
    rw [afterP] at h
    simp only [Option.some.injEq, Prod.mk.injEq] at h
    exact ⟨h.1.symm, h.2.symm⟩
  | o :: rest, i, s, s', tr, h, hpi => by
    have hne : ∀ (a' : A) (m' : Mem), some (p, a, m) ≠ some (i, a', m') := fun a' m' e => by simp only [Option.some.injEq, Prod.mk.injEq] at e; omega
    rw [afterP] at h
    split at h
    case isFalse => cases h
    rename_i hd
    split at h
    · rename_i hp
      obtain ⟨⟨tr', s1⟩, h1, h2⟩ := Option.map_eq_some_iff.1 h
      simp only [Prod.mk.injEq] at h2
      obtain ⟨rfl, rfl⟩ := h2
      exact ⟨_, _, _, _, rfl, hd, .inr (.inl ⟨p, a, m, rfl, List.contains_iff_mem.1 hp, rfl⟩), afterP_valid h1 (by omega)⟩
    · split at h
      · cases h
      · rename_i hnee
        cases hw : wantA o all s.tm with
        | none => simp only [hw] at h; cases h
        | some b =>
        cases b with
        | false =>
          simp only [hw] at h
          obtain ⟨⟨tr', s1⟩, h1, h2⟩ := Option.map_eq_some_iff.1 h
          simp only [Prod.mk.injEq] at h2
          obtain ⟨rfl, rfl⟩ := h2
          exact ⟨_, _, _, _, rfl, hd, .inl ⟨.inl ⟨hw, rfl, rfl, rfl⟩, hne⟩, afterP_valid h1 (by omega)⟩
        | true =>
          simp only [hw] at h
          obtain ⟨⟨v, m1⟩, h0, h⟩ := Option.bind_eq_some_iff.1 h
          obtain ⟨⟨tr', s1⟩, h1, h2⟩ := Option.map_eq_some_iff.1 h
          simp only [Prod.mk.injEq] at h2
          obtain ⟨rfl, rfl⟩ := h2
          exact ⟨_, _, _, _, rfl, hd, .inl ⟨.inr ⟨hw, .inr ⟨fun gop args tys e => by rw [e] at hnee; simp [isEff] at hnee, h0, rfl⟩⟩, hne⟩, afterP_valid h1 (by omega)⟩

theorem DrawR.pan_pos {C : Cfg} {nt : Nat} {all : List Oper} {z : A × Mem} : ∀ {l : List Oper} {s s1 : St} {tr : List Ent}, DrawR C nt all l s tr (some z, s1) → 1 ≤ tr.length
  | [], s, s1, tr, ⟨h1, h2⟩ => by simp at h2
  | o :: rest, s, s1, tr, ⟨hd, hh⟩ => by
    rcases hh with ⟨kd, v, m1, tr', rfl, h2, h3⟩ | ⟨a', m', rfl, h2, h3⟩ <;> simp

theorem DrawR.valid_pan {C : Cfg} {nt : Nat} {d : DrawAnn} {all : List Oper} {a : A} {m : Mem} {p : Nat} : ∀ {l : List Oper} {i : Nat} {s s1 s' : St} {tr tr2 : List Ent}, DrawR C nt all l s tr (some (a, m), s1) → p + 1 = i + tr.length → afterP C.P C.gl nt d all p (i + tr.length) (l.drop tr.length) s1 = some (tr2, s') → Valid C nt d (some (p, a, m)) all i l s (tr ++ tr2) s'
  | [], i, s, s1, s', tr, tr2, ⟨h1, h2⟩, hp, h => by simp at h2
  | o :: rest, i, s, s1, s', tr, tr2, ⟨hd, hh⟩, hp, h => by
    rcases hh with ⟨kd, v, m1, tr', rfl, h2, h3⟩ | ⟨a', m', rfl, h2, h3⟩
    · have hpos := h3.pan_pos
      refine ⟨kd, v, m1, tr' ++ tr2, rfl, hd, .inl ⟨h2, fun a' m' e => by simp only [Option.some.injEq, Prod.mk.injEq] at e; simp at hp; omega⟩, h3.valid_pan (i := i + 1) (by simp at hp; omega) ?_⟩
      rw [List.length_cons, List.drop_succ_cons] at h
      rw [show i + 1 + tr'.length = i + (tr'.length + 1) by omega]
      exact h
    · simp only [Prod.mk.injEq, Option.some.injEq] at h2
      obtain ⟨⟨rfl, rfl⟩, rfl⟩ := h2
      have : p = i := by simp at hp; omega
      subst this
      exact ⟨.eff, .undef, s.m, tr2, rfl, hd, .inr (.inr ⟨a, m, rfl, rfl, h3⟩), afterP_valid h (by simp)⟩

theorem DrawR.slots {C : Cfg} {nt : Nat} {all : List Oper} {t : Nat} : ∀ {l : List Oper} {s : St} {tr : List Ent} {y : Option (A × Mem) × St}, DrawR C nt all l s tr y → (∀ o ∈ l, o.dst ≠ some t) → lk t y.2.tm = lk t s.tm
  | [], s, tr, y, ⟨_, h⟩, _ => by rw [h]
  | o :: rest, s, tr, y, ⟨hd, h⟩, hne => by
    have h0 : ∀ v : A, lk t (put o.dst v s.tm) = lk t s.tm := fun v => by
      have h1 := hne o (by simp)
      cases hdst : o.dst with
      | none => rfl
      | some u =>
        rw [hdst] at h1
        have : ¬ u = t := fun e => h1 (by rw [e])
        simp only [put, lk]
        rw [if_neg this]
    rcases h with ⟨kd, v, m1, tr', _, _, h3⟩ | ⟨a, m, _, h2, _⟩
    · rw [h3.slots fun o' ho' => hne o' (by simp [ho'])]
      exact h0 v
    · rw [h2]
      exact h0 _

theorem draw_valid {evC : FuncId → List A → Mem → Option (Res × Mem)} {evD : FuncId → Nat → List Oper → List Oper → St → Option (List Ent × Option (A × Mem) × St)}
    (hc : ∀ f args m r, evC f args m = some r → CallOk C f args m r) (hd : ∀ f nt all l s x, evD f nt all l s = some x → DrawR C nt all l s x.1 x.2)
    (f nt : Nat) (all l : List Oper) (s : St) (x : List Ent × Option (A × Mem) × St)
    (h : (match l with
      | [] => some ([], none, s)
      | o :: rest =>
        match o.dst.all (· < nt), wantA o all s.tm with
        | true, some true =>
          match o.op with
          | .call { callee := .value g, args, argTypes } =>
            match opd C.gl s.tm g with
            | .fn h caps => (do
              let x ← evC h (args.toList.map (opd C.gl s.tm) ++ caps) s.m
              match x.1 with
                | .ret a => (do let y ← evD f nt all rest ⟨put o.dst a s.tm, x.2⟩; some (⟨.eff, a, s.m⟩ :: y.1, y.2))
                | .pan a => some ([⟨.eff, .undef, s.m⟩], some (a, x.2), ⟨put o.dst .undef s.tm, s.m⟩))
            | _ => none
          | op => (do
            let x ← opA C.P op (opd C.gl s.tm) s.m
            let y ← evD f nt all rest ⟨put o.dst x.1 s.tm, x.2⟩
            some (⟨kindA op (opd C.gl s.tm), x.1, s.m⟩ :: y.1, y.2))
        | true, some false => (do let y ← evD f nt all rest ⟨put o.dst (.tup []) s.tm, s.m⟩; some (⟨kindS o.op, .tup [], s.m⟩ :: y.1, y.2))
        | _, _ => none) = some x) : DrawR C nt all l s x.1 x.2 := by
  cases l with
  | nil =>
    simp only [Option.some.injEq] at h
    subst h
    exact ⟨rfl, rfl⟩
  | cons o rest =>
    simp only at h
    cases hdd : o.dst.all (· < nt) with
    | false => simp [hdd] at h
    | true =>
    cases hw : wantA o all s.tm with
    | none => simp [hdd, hw] at h
    | some b =>
    simp only [hdd, hw] at h
    cases b with
    | false =>
      simp only at h
      obtain ⟨y, h1, h2⟩ := Option.bind_eq_some_iff.1 h
      simp only [Option.some.injEq] at h2
      subst h2
      exact ⟨hdd, .inl ⟨_, _, _, _, rfl, .inl ⟨hw, rfl, rfl, rfl⟩, hd _ _ _ _ _ _ h1⟩⟩
    | true =>
      simp only at h
      split at h
      · rename_i gop args tys hop
        cases hfn : opd C.gl s.tm gop <;> simp only [hfn, reduceCtorEq] at h
        rename_i hh caps
        obtain ⟨⟨r, m'⟩, h1, h2⟩ := Option.bind_eq_some_iff.1 h
        cases r with
        | pan a =>
          simp only [Option.some.injEq] at h2
          subst h2
          exact ⟨hdd, .inr ⟨a, m', rfl, rfl, hw, gop, args, tys, hh, caps, hop, hfn, hc _ _ _ _ h1⟩⟩
        | ret a =>
          obtain ⟨y, h3, h4⟩ := Option.bind_eq_some_iff.1 h2
          simp only [Option.some.injEq] at h4
          subst h4
          exact ⟨hdd, .inl ⟨_, _, _, _, rfl, .inr ⟨hw, .inl ⟨gop, args, tys, hh, caps, hop, hfn, hc _ _ _ _ h1, rfl⟩⟩, hd _ _ _ _ _ _ h3⟩⟩
      · rename_i op hop
        obtain ⟨⟨a, m'⟩, h1, h2⟩ := Option.bind_eq_some_iff.1 h
        obtain ⟨y, h3, h4⟩ := Option.bind_eq_some_iff.1 h2
        simp only [Option.some.injEq] at h4
        subst h4
        exact ⟨hdd, .inl ⟨_, _, _, _, rfl, .inr ⟨hw, .inr ⟨fun gop args tys e => hop gop args tys e, h1, rfl⟩⟩, hd _ _ _ _ _ _ h3⟩⟩

/-- The slots before operation i. -/
def tmAt : List Oper → List Ent → List (Nat × A) → Nat → List (Nat × A)
  | o :: l, e :: tr, tm, i + 1 => tmAt l tr (put o.dst e.v tm) i
  | _, _, tm, _ => tm

theorem lk_put_ne {d : Option Nat} {a : A} {tm : List (Nat × A)} {t : Nat} (h : d ≠ some t) : lk t (put d a tm) = lk t tm := by
  cases d with
  | none => rfl
  | some d =>
    have : d ≠ t := fun e => h (by rw [e])
    simp only [put, lk]
    rw [if_neg this]

theorem tmAt_old : ∀ (l : List Oper) (tr : List Ent) (tm : List (Nat × A)) (i t : Nat), (∀ j o, j < i → l[j]? = some o → o.dst ≠ some t) → lk t (tmAt l tr tm i) = lk t tm
  | [], tr, tm, i, t, _ => by cases tr <;> cases i <;> rfl
  | o :: l, [], tm, i, t, _ => by cases i <;> rfl
  | o :: l, e :: tr, tm, 0, t, _ => rfl
  | o :: l, e :: tr, tm, i + 1, t, h => by
    rw [tmAt, tmAt_old l tr _ i t fun j o' hj ho => h (j + 1) o' (by omega) (by simpa using ho)]
    exact lk_put_ne (h 0 o (by omega) rfl)

theorem tmAt_new : ∀ (l : List Oper) (tr : List Ent) (tm : List (Nat × A)) (i j t : Nat) (o : Oper) (e : Ent), j < i → l[j]? = some o → tr[j]? = some e → o.dst = some t → (∀ k o', k ≠ j → l[k]? = some o' → o'.dst ≠ some t) → lk t (tmAt l tr tm i) = e.v
  | [], tr, tm, i, j, t, o, e, _, ho, _, _, _ => by simp at ho
  | o' :: l, [], tm, i, j, t, o, e, _, _, he, _, _ => by simp at he
  | o' :: l, e' :: tr, tm, 0, j, t, o, e, hj, _, _, _, _ => by omega
  | o' :: l, e' :: tr, tm, i + 1, 0, t, o, e, hj, ho, he, hd, hne => by
    simp at ho he
    subst ho he
    rw [tmAt, tmAt_old l tr _ i t fun k o'' _ hk => hne (k + 1) o'' (by omega) (by simpa using hk), hd]
    simp [put, lk]
  | o' :: l, e' :: tr, tm, i + 1, j + 1, t, o, e, hj, ho, he, hd, hne => by
    rw [tmAt]
    exact tmAt_new l tr _ i j t o e (by omega) (by simpa using ho) (by simpa using he) hd fun k o'' hk hk' => hne (k + 1) o'' (by omega) (by simpa using hk')

/-- The memory before operation i. -/
def memAt (tr : List Ent) (fin : Mem) (i : Nat) : Mem := ((tr[i]?).map (·.m)).getD fin

section
variable {nt : Nat} {d : DrawAnn} {po : Option (Nat × A × Mem)} {all : List Oper}
theorem Valid.length : ∀ {n : Nat} {l : List Oper} {s s' : St} {tr : List Ent}, Valid C nt d po all n l s tr s' → tr.length = l.length
  | _, [], _, _, _, ⟨rfl, _⟩ => rfl
  | _, _ :: _, _, _, _, ⟨_, _, _, _, rfl, _, _, h⟩ => by simp [h.length]
theorem Valid.head : ∀ {n : Nat} {l : List Oper} {s s' : St} {tr : List Ent}, Valid C nt d po all n l s tr s' → memAt tr s'.m 0 = s.m
  | _, [], _, _, _, ⟨rfl, rfl⟩ => rfl
  | _, _ :: _, _, _, _, ⟨_, _, _, _, rfl, _, _, h⟩ => rfl
theorem Valid.last : ∀ {n : Nat} {l : List Oper} {s s' : St} {tr : List Ent}, Valid C nt d po all n l s tr s' → s'.tm = tmAt l tr s.tm l.length
  | _, [], _, _, _, ⟨rfl, rfl⟩ => rfl
  | _, _ :: _, _, _, _, ⟨_, _, _, _, rfl, _, _, h⟩ => by rw [h.last]; rfl
theorem Valid.at_ : ∀ {n : Nat} {l : List Oper} {s s' : St} {tr : List Ent} (i : Nat) (o : Oper), Valid C nt d po all n l s tr s' → l[i]? = some o →
    ∃ e, tr[i]? = some e ∧ o.dst.all (· < nt) = true ∧ StepOk C d po (n + i) all o ⟨tmAt l tr s.tm i, e.m⟩ e.kd e.v (memAt tr s'.m (i + 1))
  | _, [], _, _, _, i, o, _, h => by simp at h
  | n, o' :: l, s, s', _, 0, o, ⟨kd, v, m1, tr', rfl, h1, h2, h3⟩, h => by
    simp at h
    subst h
    refine ⟨_, rfl, h1, ?_⟩
    have hm : memAt (⟨kd, v, s.m⟩ :: tr') s'.m 1 = m1 := h3.head
    rw [hm]
    exact h2
  | n, o' :: l, s, s', _, i + 1, o, ⟨kd, v, m1, tr', rfl, h1, h2, h3⟩, h => by
    obtain ⟨e, k1, k2, k3⟩ := Valid.at_ i o h3 (by simpa using h)
    refine ⟨e, by simpa using k1, k2, ?_⟩
    rw [show n + (i + 1) = n + 1 + i by omega]
    exact k3
end

theorem opA_congr {op : Op} {ρ ρ' : Operand → A} {m : Mem} (h : ∀ x ∈ op.operands.toList, ρ x = ρ' x) : opA C.P op ρ m = opA C.P op ρ' m := by
  cases op
  case move x => simp only [opA]; rw [h x (by simp [Op.operands])]
  case assign x => simp only [opA]; rw [h x (by simp [Op.operands])]
  case pick c x y => simp only [opA]; rw [h c (by simp [Op.operands]), h x (by simp [Op.operands]), h y (by simp [Op.operands])]
  case alloc e => rfl
  case box e x => simp only [opA]; rw [h x (by simp [Op.operands])]
  case build t ps =>
    simp only [opA]
    rw [List.map_congr_left fun p hp => by rw [h p.2 (by simp only [Op.operands]; exact List.mem_map.2 ⟨p, hp, rfl⟩)]]
  case buildSlice t n ps =>
    simp only [opA]
    rw [List.map_congr_left fun p hp => by rw [h p.2 (by simp only [Op.operands]; exact List.mem_map.2 ⟨p, hp, rfl⟩)]]
  case load t x => simp only [opA]; rw [h x (by simp [Op.operands])]
  case store t x y => simp only [opA]; rw [h x (by simp [Op.operands]), h y (by simp [Op.operands])]
  case nilCheck x => simp only [opA]; rw [h x (by simp [Op.operands])]
  case binOp o t x y u => simp only [opA]; rw [h x (by simp [Op.operands]), h y (by simp [Op.operands])]
  case unOp o t x => simp only [opA]; rw [h x (by simp [Op.operands])]
  case convert t u x => simp only [opA]; rw [h x (by simp [Op.operands])]
  case makeInterface t x => simp only [opA]; rw [h x (by simp [Op.operands])]
  case makeFunc f first caps =>
    cases f <;> simp only [opA]
    rw [List.map_congr_left fun x hx => h x (by simp only [Op.operands, Array.toList_append, List.mem_append]; exact .inr hx)]
  case makeSlice t x y => simp only [opA]; rw [h x (by simp [Op.operands]), h y (by simp [Op.operands])]
  case slice t x lo hi mx =>
    simp only [opA]
    have e1 : lo.map ρ = lo.map ρ' := by cases lo with | none => rfl | some y => simp only [Option.map_some]; rw [h y (by simp [Op.operands])]
    have e2 : hi.map ρ = hi.map ρ' := by cases hi with | none => rfl | some y => simp only [Option.map_some]; rw [h y (by simp [Op.operands])]
    have e3 : mx.map ρ = mx.map ρ' := by cases mx with | none => rfl | some y => simp only [Option.map_some]; rw [h y (by simp [Op.operands])]
    rw [h x (by simp [Op.operands]), e1, e2, e3]
  case fieldAddr t x i => simp only [opA]; rw [h x (by simp [Op.operands])]
  case field t x i => simp only [opA]; rw [h x (by simp [Op.operands])]
  case indexAddr t x i => simp only [opA]; rw [h x (by simp [Op.operands]), h i (by simp [Op.operands])]
  case index t x i => simp only [opA]; rw [h x (by simp [Op.operands]), h i (by simp [Op.operands])]
  case typeAssert x xt t ok => simp only [opA]; rw [h x (by simp [Op.operands])]
  case extract x i => simp only [opA]; rw [h x (by simp [Op.operands])]
  case call c =>
    obtain ⟨callee, args, tys⟩ := c
    cases callee <;> simp only [opA]
    rw [List.map_congr_left fun x hx => h x (by simp only [Op.operands, Call.operands, Array.toList_append, List.mem_append]; exact .inr hx)]
  all_goals rfl

theorem opA_mem {op : Op} {ρ : Operand → A} {m m' m1 : Mem} {v : A} (he : isEff op = false) (hl : ∀ t x, op ≠ .load t x) (h : opA C.P op ρ m = some (v, m1)) : m1 = m ∧ opA C.P op ρ m' = some (v, m') := by
  have mp : ∀ x : Option A, x.map (·, m) = some (v, m1) → m1 = m ∧ x.map (·, m') = some (v, m') := by
    intro x hx
    obtain ⟨r, hr, e⟩ := Option.map_eq_some_iff.1 hx
    simp only [Prod.mk.injEq] at e
    obtain ⟨rfl, rfl⟩ := e
    exact ⟨rfl, by rw [hr]; rfl⟩
  cases op <;> simp only [opA, isEff, reduceCtorEq] at h he ⊢
  case move x => simp only [Option.some.injEq, Prod.mk.injEq] at h; obtain ⟨rfl, rfl⟩ := h; exact ⟨rfl, rfl⟩
  case assign x => simp only [Option.some.injEq, Prod.mk.injEq] at h; obtain ⟨rfl, rfl⟩ := h; exact ⟨rfl, rfl⟩
  case load t x => exact absurd rfl (hl t x)
  case makeInterface t x =>
    split at h
    · cases h
    · rename_i hi
      simp only [Option.some.injEq, Prod.mk.injEq] at h
      obtain ⟨rfl, rfl⟩ := h
      exact ⟨rfl, by rw [if_neg hi]⟩
  case makeFunc f first caps =>
    cases f <;> simp only [opA, reduceCtorEq] at h ⊢
    split at h
    · rename_i hi
      simp only [Option.some.injEq, Prod.mk.injEq] at h
      obtain ⟨rfl, rfl⟩ := h
      exact ⟨rfl, by rw [if_pos hi]⟩
    · cases h
  case call c =>
    obtain ⟨callee, args, tys⟩ := c
    cases callee <;> simp only [opA, reduceCtorEq] at h ⊢
    rename_i b
    unfold builtinA at h ⊢
    split at h
    · exact mp _ h
    · exact mp _ h
    · exact mp _ h
    · simp at he
    · cases h
  all_goals exact mp _ h

/-! ### What the text asks, taken apart -/
/-- An allocation that may come early: whoever reads its slot waits for all effects before it. -/
def AlOk (ops : Array Oper) (d : DrawAnn) (j : Nat) (o' : Oper) : Prop :=
  (∃ T, o'.op = .alloc T) ∧ o'.guard = none ∧ ∀ (k : Nat) (ok : Oper) (t : Nat), ops[k]? = some ok → o'.dst = some t → t ∈ readsOf ops ok → ∀ (e : Nat) (oe : Oper), ops[e]? = some oe → isEff oe.op = true → e < j → e ∈ d.pre.getD k []
structure DrawFacts (ops : Array Oper) (d : DrawAnn) : Prop where
  lt : ∀ (i : Nat) (o : Oper), ops[i]? = some o → ∀ e ∈ o.after.toList, Region.binds .any e = true → e.on < i
  pre : ∀ (i : Nat) (o : Oper), ops[i]? = some o → ∀ j ∈ d.pre.getD i [], ∃ e ∈ o.after.toList, Region.binds .any e = true ∧ (e.on = j ∨ j ∈ d.pre.getD e.on [])
  dst : ∀ (i j : Nat) (o o' : Oper) (t : Nat), ops[i]? = some o → ops[j]? = some o' → i ≠ j → o.dst = some t → o'.dst ≠ some t
  reads : ∀ (i j : Nat) (o o' : Oper) (t : Nat), ops[i]? = some o → ops[j]? = some o' → t ∈ readsOf ops o → o'.dst = some t → (j < i ∧ j ∈ d.pre.getD i []) ∨ (i < j ∧ i ∈ d.pre.getD j [])
  effs : ∀ (i j : Nat) (o o' : Oper), ops[i]? = some o → ops[j]? = some o' → isEff o.op = true → isEff o'.op = true → i < j → i ∈ d.pre.getD j [] ∨ AlOk ops d j o'
  need : ∀ (i : Nat) (o : Oper) (t : TypeId) (x : Operand), ops[i]? = some o → o.op = .load t x → (i, (reqOf d.pre i (effIdx ops)).1, (reqOf d.pre i (effIdx ops)).2) ∈ d.need
  pan : ∀ (i : Nat) (o : Oper) (x : Operand), ops[i]? = some o → o.op ≠ .panic x

theorem drawOk_facts {ops : Array Oper} {d : DrawAnn} (h : drawOk ops d = true) : DrawFacts ops d := by
  unfold drawOk at h
  simp only [List.all_eq_true, List.mem_range, Bool.and_eq_true] at h
  have hat : ∀ (i : Nat) (o : Oper), ops[i]? = some o → i < ops.size ∧ (ops[i]?).getD default = o := fun i o ho => ⟨(Array.getElem?_eq_some_iff.1 ho).1, by rw [ho]; rfl⟩
  refine ⟨fun i o ho e he hb => ?_, fun i o ho j hj => ?_, fun i j o o' t ho ho' hij hd => ?_, fun i j o o' t ho ho' ht hd => ?_, fun i j o o' ho ho' h1 h2 hij => ?_, fun i o t x ho hop => ?_, fun i o x ho hop => ?_⟩
  · obtain ⟨hi, hq⟩ := hat i o ho
    have := (h i hi).1.1.1.1.1.1
    rw [hq] at this
    have := this e he
    rw [hb] at this
    simpa using this
  · obtain ⟨hi, hq⟩ := hat i o ho
    have := (h i hi).1.1.1.1.1.2
    rw [hq] at this
    have := this j hj
    rw [List.any_eq_true] at this
    obtain ⟨e, he, hb⟩ := this
    simp only [Bool.and_eq_true, Bool.or_eq_true, beq_iff_eq, List.contains_iff_mem] at hb
    exact ⟨e, he, hb.1, hb.2⟩
  · obtain ⟨hi, hq⟩ := hat i o ho
    obtain ⟨hj, hq'⟩ := hat j o' ho'
    have := (h i hi).1.1.1.1.2 j hj
    rw [hq, hq', hd] at this
    simp only [Bool.or_eq_true, beq_iff_eq, Option.isNone_some, Bool.false_eq_true, or_false, bne_iff_ne, ne_eq] at this
    rcases this with e | e
    · exact absurd e hij
    · exact fun q => e q.symm
  · obtain ⟨hi, hq⟩ := hat i o ho
    obtain ⟨hj, hq'⟩ := hat j o' ho'
    have := (h i hi).1.1.1.2 t (by rw [hq]; exact ht) j hj
    rw [hq', hd] at this
    simpa [List.contains_iff_mem] using this
  · obtain ⟨hi, hq⟩ := hat i o ho
    obtain ⟨hj, hq'⟩ := hat j o' ho'
    have := (h i hi).1.1.2 j hj
    rw [hq, hq', h1, h2] at this
    simp only [Bool.not_true, Bool.false_or, hij, decide_true, Bool.or_eq_true, Bool.and_eq_true, List.all_eq_true, List.mem_range, List.contains_iff_mem] at this
    rcases this with q | ⟨⟨q1, q2⟩, q3⟩
    · exact .inl q
    · refine .inr ⟨?_, by simpa using q2, fun k ok t hok hdt htk e oe hoe hee hej => ?_⟩
      · cases hop : o'.op <;> rw [hop] at q1 <;> simp [isAl] at q1
        exact ⟨_, rfl⟩
      · obtain ⟨hk, hqk⟩ := hat k ok hok
        obtain ⟨he, hqe⟩ := hat e oe hoe
        have := q3 k hk t (by rw [hqk]; exact htk)
        rw [hdt] at this
        simp only [bne_self_eq_false, Bool.false_eq_true, false_or] at this
        have := this e hej
        rw [hqe, hee] at this
        simpa using this
  · obtain ⟨hi, hq⟩ := hat i o ho
    have := (h i hi).1.2
    rw [hq, hop] at this
    simp only [List.any_eq_true, Bool.and_eq_true, beq_iff_eq] at this
    obtain ⟨q, hp, ⟨h1, h2⟩, h3⟩ := this
    have e : q = (i, (reqOf d.pre i (effIdx ops)).1, (reqOf d.pre i (effIdx ops)).2) := Prod.ext h1 (Prod.ext h2 h3)
    rw [← e]
    exact hp
  · obtain ⟨hi, hq⟩ := hat i o ho
    have := (h i hi).2
    rw [hq, hop] at this
    cases this

theorem search (Pp : Nat → Prop) [DecidablePred Pp] (n : Nat) : ∀ k a, a + k = n → ∃ c, a ≤ c ∧ c ≤ n ∧ (∀ j, a ≤ j → j < c → ¬ Pp j) ∧ (c = n ∨ Pp c)
  | 0, a, h => ⟨a, Nat.le_refl _, by omega, fun j h1 h2 => by omega, .inl (by omega)⟩
  | k + 1, a, h => by
    by_cases ha : Pp a
    · exact ⟨a, Nat.le_refl _, by omega, fun j h1 h2 => by omega, .inr ha⟩
    · obtain ⟨c, h1, h2, h3, h4⟩ := search Pp n k (a + 1) (by omega)
      refine ⟨c, by omega, h2, fun j h5 h6 => ?_, h4⟩
      by_cases hj : j = a
      · subst hj; exact ha
      · exact h3 j (by omega) h6

/-- The region as it was evaluated in the text's order. -/
structure Drawn (C : Cfg) (nt : Nat) (ops : Array Oper) (d : DrawAnn) (po : Option (Nat × A × Mem)) (s s' : St) (tr : List Ent) : Prop where
  valid : Valid C nt d po ops.toList 0 ops.toList s tr s'
  facts : DrawFacts ops d
  need : chkNeed C.P tr s'.m d.need

def effAt (ops : Array Oper) (i : Nat) : Prop := ∃ o, ops[i]? = some o ∧ isEff o.op = true
instance (ops : Array Oper) : DecidablePred (effAt ops) := fun i => by
  unfold effAt
  cases h : ops[i]? with
  | none => exact isFalse (by rintro ⟨o, h, _⟩; cases h)
  | some o =>
    by_cases he : isEff o.op = true
    · exact isTrue ⟨o, rfl, he⟩
    · exact isFalse (by rintro ⟨o', h, h'⟩; cases h; exact he h')

section
variable {nt : Nat} {ops : Array Oper} {d : DrawAnn} {po : Option (Nat × A × Mem)} {s s' : St} {tr : List Ent} (D : Drawn C nt ops d po s s' tr)
include D
theorem Drawn.step (i : Nat) (o : Oper) (h : ops[i]? = some o) : ∃ e, tr[i]? = some e ∧ e.m = memAt tr s'.m i ∧ o.dst.all (· < nt) = true ∧ StepOk C d po i ops.toList o ⟨tmAt ops.toList tr s.tm i, memAt tr s'.m i⟩ e.kd e.v (memAt tr s'.m (i + 1)) := by
  obtain ⟨e, h1, h2, h3⟩ := D.valid.at_ i o (by simpa using h)
  rw [Nat.zero_add] at h3
  have hm : memAt tr s'.m i = e.m := by unfold memAt; rw [h1]; rfl
  exact ⟨e, h1, hm.symm, h2, by rw [hm]; exact h3⟩

/-- An operation that changes no memory. -/
theorem Drawn.still (i : Nat) (o : Oper) (h : ops[i]? = some o) (he : isEff o.op = false) : memAt tr s'.m (i + 1) = memAt tr s'.m i := by
  obtain ⟨e, _, _, _, hs⟩ := D.step i o h
  rcases hs with ⟨⟨_, _, hm, _⟩ | ⟨_, ⟨gop, args, tys, hh, caps, hop, _, _, _⟩ | ⟨_, hop, _⟩⟩, _⟩ | ⟨_, _, _, _, _, hm⟩ | ⟨_, _, _, hm, _⟩
  · exact hm
  · rw [hop] at he; cases he
  · by_cases hl : ∃ t x, o.op = .load t x
    · obtain ⟨t, x, hl⟩ := hl
      rw [hl] at hop
      simp only [opA] at hop
      obtain ⟨r, _, hr⟩ := Option.map_eq_some_iff.1 hop
      simp only [Prod.mk.injEq] at hr
      exact hr.2.symm
    · exact (opA_mem (m' := s.m) he (fun t x e => hl ⟨t, x, e⟩) hop).1
  · exact hm
  · exact hm

theorem Drawn.same (a : Nat) : ∀ k, a + k ≤ ops.size → (∀ j, a ≤ j → j < a + k → ¬ effAt ops j) → memAt tr s'.m (a + k) = memAt tr s'.m a
  | 0, _, _ => rfl
  | k + 1, hk, h => by
    rw [← Drawn.same a k (by omega) fun j h1 h2 => h j h1 (by omega)]
    have hlt : a + k < ops.size := by omega
    refine D.still (a + k) ops[a + k] (Array.getElem?_eq_getElem hlt) ?_
    cases hq : isEff ops[a + k].op with
    | false => rfl
    | true => exact absurd ⟨_, Array.getElem?_eq_getElem hlt, hq⟩ (h (a + k) (by omega) (by omega))
end

/-- What a slot holds once its operation has run and counts. -/
def NewOk (ops : Array Oper) (tr : List Ent) (L : Nat → Bool) (c : Nat) (g : Gh) (a : Act) (w : World) : Prop :=
  ∀ i o t e, ops[i]? = some o → L i = true → o.dst = some t → tr[i]? = some e → (effAt ops i → i < c) → VR w g e.v (a.tmps.getD t undef)
/-- An allocation that came early. -/
structure PendAt (C : Cfg) (ops : Array Oper) (d : DrawAnn) (w0 w1 : World) (i b : Nat) (g : Gh) (a : Act) (w : World) : Prop where
  old0 : w0.heap.size ≤ b
  old1 : w1.heap.size ≤ b
  lt : b < w.heap.size
  loose : Loose g b
  op : ∃ o T zv, ops[i]? = some o ∧ o.op = .alloc T ∧ o.guard = none ∧ (∀ t, o.dst = some t → a.tmps.getD t undef = .pointer (some ⟨b, 0, none⟩)) ∧ w.heap[b]? = some (.cells (Value.cells zv) T (0, 0)) ∧ zeroOf C.P T = some (zv.cells.toList.map A.ofCell)
def MemP (C : Cfg) (ops : Array Oper) (d : DrawAnn) (s' : St) (tr : List Ent) (w0 w1 : World) (L : Nat → Bool) (g : Gh) (a : Act) (w : World) : Prop :=
  ∃ c, c ≤ ops.size ∧ (∀ e, e < c → effAt ops e → L e = true) ∧ (c = ops.size ∨ (effAt ops c ∧ L c = false)) ∧ SR C.P C.gl w0 g (memAt tr s'.m c) w ∧ NewOk ops tr L c g a w ∧
    ∃ B : Nat → Nat, (∀ i, c < i → effAt ops i → L i = true → PendAt C ops d w0 w1 i (B i) g a w) ∧ ∀ i j, c < i → effAt ops i → L i = true → c < j → effAt ops j → L j = true → B i = B j → i = j
/-- What holds when some operations have run. -/
structure Inv (C : Cfg) (nt : Nat) (ops : Array Oper) (d : DrawAnn) (po : Option (Nat × A × Mem)) (s s' : St) (tr : List Ent) (w0 : World) (df : List Deferred) (w1 : World) (g1 : Gh) (L : Nat → Bool) (g : Gh) (a : Act) (w : World) : Prop where
  size : a.tmps.size = nt
  dfr : a.defers = df
  clo : ∀ i, L i = true → ∀ j ∈ d.pre.getD i [], L j = true
  old : ∀ t, (∀ i o, ops[i]? = some o → o.dst = some t → L i = false) → VR w g (lk t s.tm) (a.tmps.getD t undef)
  mem : MemP C ops d s' tr w0 w1 L g a w
  ext : Ext w1 g1 w g
  np : ∀ p b m, po = some (p, b, m) → L p = false

theorem effIdx_mem {ops : Array Oper} {i : Nat} : i ∈ effIdx ops ↔ effAt ops i := by
  unfold effIdx effAt
  rw [List.mem_filter, List.mem_range]
  constructor
  · rintro ⟨h, k⟩
    refine ⟨ops[i], Array.getElem?_eq_getElem h, ?_⟩
    rw [Array.getElem?_eq_getElem h] at k
    exact k
  · rintro ⟨o, h, k⟩
    exact ⟨(Array.getElem?_eq_some_iff.1 h).1, by rw [h]; exact k⟩

theorem reqOf_mem {pre : List (List Nat)} {p c n : Nat} {L : Nat → Bool} (hclo : ∀ i, L i = true → ∀ j ∈ pre.getD i [], L j = true) (hp : L p = false) (hpc : ∀ j ∈ pre.getD p [], L j = true) :
    ∀ l : List Nat, (∀ e ∈ l, e < c → L e = true) → l.Pairwise (· < ·) → (c ∈ l ∧ L c = false → c ∈ (reqOf pre p l).1) ∧ ((∀ e ∈ l, L e = true) → (reqOf pre p l).2 = true)
  | [], _, _ => ⟨fun h => by simp at h, fun _ => rfl⟩
  | e :: r, hl, hs => by
    have ih := reqOf_mem (c := c) (n := n) hclo hp hpc r (fun e he => hl e (List.mem_cons_of_mem _ he)) (List.pairwise_cons.1 hs).2
    rw [reqOf]
    by_cases h1 : (pre.getD p []).contains e = true
    · rw [if_pos h1]
      have hLe := hpc e (List.contains_iff_mem.1 h1)
      refine ⟨fun h => ih.1 ⟨?_, h.2⟩, fun h => ih.2 fun e he => h e (List.mem_cons_of_mem _ he)⟩
      rcases List.mem_cons.1 h.1 with q | q
      · rw [q, hLe] at h; cases h.2
      · exact q
    · rw [if_neg h1]
      by_cases h2 : (pre.getD e []).contains p = true
      · rw [if_pos h2]
        have hLe : L e = false := by
          cases hq : L e with
          | false => rfl
          | true => have := hclo e hq p (List.contains_iff_mem.1 h2); rw [hp] at this; cases this
        refine ⟨fun h => ?_, fun h => ?_⟩
        · rcases List.mem_cons.1 h.1 with q | q
          · rw [q]; simp
          · have := (List.pairwise_cons.1 hs).1 c q
            have := hl e (by simp) this
            rw [hLe] at this; cases this
        · have := h e (by simp)
          rw [hLe] at this; cases this
      · rw [if_neg h2]
        refine ⟨fun h => ?_, fun h => ih.2 fun e he => h e (List.mem_cons_of_mem _ he)⟩
        rcases List.mem_cons.1 h.1 with q | q
        · rw [q]; simp
        · exact List.mem_cons_of_mem _ (ih.1 ⟨q, h.2⟩)

theorem chkNeed_mem {P : Program} {tr : List Ent} {fin : Mem} : ∀ {l : List (Nat × List Nat × Bool)} {p : Nat} {es : List Nat} {f : Bool}, chkNeed P tr fin l → (p, es, f) ∈ l → ∀ t x v m, tr[p]? = some ⟨.load t x, v, m⟩ → (∀ e ∈ es, ∀ en, tr[e]? = some en → loadA P t x en.m = some v) ∧ (f = true → loadA P t x fin = some v)
  | [], _, _, _, _, h, _, _, _, _, _ => by simp at h
  | (p', es', f') :: r, p, es, f, hc, hm, t, x, v, m, he => by
    rcases List.mem_cons.1 hm with q | q
    · simp only [Prod.mk.injEq] at q
      obtain ⟨rfl, rfl, rfl⟩ := q
      have := hc.1
      rw [he] at this
      exact this
    · exact chkNeed_mem hc.2 q t x v m he

theorem want_sound' {o : Oper} {all : List Oper} {ops : Array Oper} (ho : ops.toList = all) {tm : List (Nat × A)} {tmps : Array Value} {w : World} {g : Gh} {b : Bool} (h : wantA o all tm = some b) (ht : ∀ t ∈ readsOf ops o, VR w g (lk t tm) (tmps.getD t undef)) : Region.wanted o (yielded ops tmps) = b := by
  -- the slots that are not read may hold anything
  let tm' : List (Nat × A) := (readsOf ops o).map fun t => (t, lk t tm)
  have htm : TmR w g tm' tmps := fun t => by
    rcases lk_map (readsOf ops o) tm t with e | e
    · by_cases hin : t ∈ readsOf ops o
      · show VR w g (lk t tm') _
        rw [e]; exact ht t hin
      · have : lk t tm' = .undef := by
          show lk t ((readsOf ops o).map fun t => (t, lk t tm)) = .undef
          generalize readsOf ops o = l at hin
          induction l with
          | nil => rfl
          | cons u r ih =>
            simp only [List.mem_cons, not_or] at hin
            simp only [List.map_cons, lk]
            rw [if_neg (Ne.symm hin.1)]
            exact ih hin.2
        rw [this, VR]; trivial
    · show VR w g (lk t tm') _
      rw [e, VR]; trivial
  refine want_sound ho ?_ htm
  unfold wantA at h ⊢
  cases hg : o.guard with
  | none => rw [hg] at h; exact h
  | some p =>
    obtain ⟨j, want⟩ := p
    rw [hg] at h
    simp only at h ⊢
    cases hd : (all[j]?).bind (·.dst) with
    | none => rw [hd] at h; exact h
    | some dd =>
      rw [hd] at h
      simp only at h ⊢
      have hin : dd ∈ readsOf ops o := by
        unfold readsOf
        rw [hg]
        simp only [List.mem_append]
        refine .inr ?_
        rw [show ops[j]? = all[j]? from by rw [← ho]; simp, hd]
        simp
      have : lk dd tm' = lk dd tm := by
        show lk dd ((readsOf ops o).map fun t => (t, lk t tm)) = _
        generalize readsOf ops o = l at hin
        induction l with
        | nil => simp at hin
        | cons u r ih =>
          simp only [List.map_cons, lk]
          by_cases hu : u = dd
          · subst hu; rw [if_pos rfl]
          · rw [if_neg hu]
            exact ih (by rcases List.mem_cons.1 hin with q | q; exact absurd q.symm hu; exact q)
      rw [this]
      exact h
end
end AE
end Go.Proofs.YthoomlenmgdebaaGreatDoor
