/- The evaluator, step by step: equations by which simp runs it. -/
import Derived.Test.YtmfdpijmholedaaGreatDoorAE1
import Derived.Test.YtmfdpijmholedaaGreatDoorAN
set_option linter.unusedVariables false
set_option linter.unusedSimpArgs false
namespace Go.Proofs.YtmfdpijmholedaaGreatDoor
namespace AE
open Go
section
variable (C : Cfg) (f nt : Nat)
@[simp] theorem evCode_skip (s : St) : evCode C f nt .skip s = some (.normal, s) := by rw [evCode]
@[simp] theorem evCode_exit (i : Nat) (s : St) : evCode C f nt (.exit i) s = some (.exit i, s) := by rw [evCode]
@[simp] theorem evCode_ret (s : St) : evCode C f nt .ret s = some (.ret, s) := by rw [evCode]
@[simp] theorem evCode_label (l : Nat) (s : St) : evCode C f nt (.label l) s = some (.normal, s) := by rw [evCode]
@[simp] theorem evCode_scope (b : Code) (s : St) : evCode C f nt (.scope b) s = evCode C f nt b s := by rw [evCode]
noncomputable def andThen (x : Option (Ex × St)) (g : St → Option (Ex × St)) : Option (Ex × St) :=
  x.bind fun x => match x.1 with | .normal => g x.2 | e => some (e, x.2)
@[congr] theorem andThen_congr {x x' : Option (Ex × St)} (g : St → Option (Ex × St)) (h : x = x') : andThen x g = andThen x' g := by rw [h]
@[simp ↓] theorem andThen_normal (s : St) (g : St → Option (Ex × St)) : andThen (some (.normal, s)) g = g s := _root_.id rfl
@[simp ↓] theorem andThen_exit (i : Nat) (s : St) (g : St → Option (Ex × St)) : andThen (some (.exit i, s)) g = some (.exit i, s) := _root_.id rfl
@[simp ↓] theorem andThen_ret (s : St) (g : St → Option (Ex × St)) : andThen (some (.ret, s)) g = some (.ret, s) := _root_.id rfl
@[simp ↓] theorem andThen_pan (a : A) (s : St) (g : St → Option (Ex × St)) : andThen (some (.pan a, s)) g = some (.pan a, s) := _root_.id rfl
@[simp ↓] theorem andThen_none (g : St → Option (Ex × St)) : andThen none g = none := _root_.id rfl
@[simp] theorem andThen_assoc (x : Option (Ex × St)) (g k : St → Option (Ex × St)) : andThen (andThen x g) k = andThen x fun s => andThen (g s) k := by
  rcases x with _ | ⟨e, s⟩
  · rfl
  · cases e <;> rfl
@[simp] theorem evCode_seq (a b : Code) (s : St) : evCode C f nt (.seq a b) s = andThen (evCode C f nt a s) (evCode C f nt b) := by
  rw [evCode]
  show Option.bind _ _ = Option.bind _ _
  congr
@[simp] theorem evCode_region (id : Nat) (ops : Array Oper) (s : St) : evCode C f nt (.region id ops false) s = andThen (evOps C f nt ops.toList ops.toList s) fun s => some (.normal, ⟨prune (C.ann.reg f id) s.tm, s.m⟩) := by
  rw [evCode]
  simp only [Bool.false_eq_true, if_false]
  show Option.bind _ _ = Option.bind _ _
  congr
@[simp] theorem evCode_draw (id : Nat) (ops : Array Oper) (s : St) : evCode C f nt (.region id ops true) s = (evDraw C f nt ops.toList ops.toList s).bind fun y => drawEnd C.P C.gl nt (C.ann.dok f id) (C.ann.draw f id) ops.toList y.1 (C.ann.reg f id) y.2 := by
  rw [evCode]
  rfl
def condA (a : A) (x y : Option (Ex × St)) : Option (Ex × St) :=
  match a with
  | .bool t => if t then x else y
  | _ => none
@[congr] theorem condA_congr {a a' : A} (x y : Option (Ex × St)) (h : a = a') : condA a x y = condA a' x y := by rw [h]
@[simp ↓] theorem condA_bool (t : Bool) (x y : Option (Ex × St)) : condA (.bool t) x y = if t then x else y := _root_.id rfl
@[simp] theorem evCode_cond (c : Operand) (a b : Code) (s : St) : evCode C f nt (.cond c a b) s = condA (opd C.gl s.tm c) (evCode C f nt a s) (evCode C f nt b s) := by
  rw [evCode]; rfl
def ofBlock (id : Nat) (x : Option (Ex × St)) : Option (Ex × St) :=
  x.bind fun x => match x.1 with | .exit i => if i = id then some (.normal, x.2) else some (.exit i, x.2) | e => some (e, x.2)
@[simp ↓] theorem ofBlock_normal (id : Nat) (s : St) : ofBlock id (some (.normal, s)) = some (.normal, s) := _root_.id rfl
@[simp ↓] theorem ofBlock_ret (id : Nat) (s : St) : ofBlock id (some (.ret, s)) = some (.ret, s) := _root_.id rfl
@[simp ↓] theorem ofBlock_pan (id : Nat) (a : A) (s : St) : ofBlock id (some (.pan a, s)) = some (.pan a, s) := _root_.id rfl
@[simp ↓] theorem ofBlock_exit (id i : Nat) (s : St) : ofBlock id (some (.exit i, s)) = if i = id then some (.normal, s) else some (.exit i, s) := _root_.id rfl
@[simp] theorem evCode_block (id : Nat) (b : Code) (s : St) : evCode C f nt (.block id b) s = ofBlock id (evCode C f nt b s) := by
  rw [evCode]
  show Option.bind _ _ = Option.bind _ _
  congr
noncomputable def round (b : Code) (s : St) : Option (Ex × St) :=
  andThen (evCode C f nt b s) fun s1 => (endRound (C.ann.loop f (headId b)) s.m s1).map fun s2 => (.normal, s2)
theorem evCode_loop (b : Code) (s : St) : evCode C f nt (.loop b) s = andThen (round C f nt b ⟨prune (C.ann.loop f (headId b)) s.tm, s.m⟩) (evCode C f nt (.loop b)) := by
  rw [evCode, round, andThen_assoc]
  show Option.bind _ _ = Option.bind _ _
  congr
  funext x
  rcases x with ⟨e, s'⟩
  cases e <;> try rfl
  show Option.bind _ _ = andThen (Option.map _ _) _
  cases h : endRound (C.ann.loop f (headId b)) s.m s' <;> simp [h]
theorem loop_to {b : Code} {s : St} (I : Nat → St) (n : Nat) (h0 : s = I 0) (hI : ∀ i, i < n → prune (C.ann.loop f (headId b)) (I i).tm = (I i).tm)
    (hs : ∀ i, i < n → round C f nt b (I i) = some (.normal, I (i + 1))) : evCode C f nt (.loop b) s = evCode C f nt (.loop b) (I n) := by
  subst h0
  have key : ∀ j i, i + j = n → evCode C f nt (.loop b) (I i) = evCode C f nt (.loop b) (I n) := by
    intro j
    induction j with
    | zero => intro i hi; obtain rfl : i = n := by omega
              rfl
    | succ j ih =>
      intro i hi
      rw [evCode_loop, hI _ (by omega)]
      show andThen (round C f nt b (I i)) _ = _
      rw [hs i (by omega), andThen_normal]
      exact ih (i + 1) (by omega)
  exact key n 0 (by omega)
theorem loop_fin {β σ : Type} {b : Code} (F : Option (Ex × St) → β) (S : σ → St) (G : σ → β) (meas : σ → Nat) (I : σ → Prop) (hp : ∀ x, prune (C.ann.loop f (headId b)) (S x).tm = (S x).tm)
    (h : ∀ x, I x → (∀ y, meas y < meas x → I y → F (evCode C f nt (.loop b) (S y)) = G y) → F (andThen (round C f nt b (S x)) (evCode C f nt (.loop b))) = G x) (x : σ) (hI : I x) : F (evCode C f nt (.loop b) (S x)) = G x := by
  have key : ∀ n x, meas x ≤ n → I x → F (evCode C f nt (.loop b) (S x)) = G x := by
    intro n
    induction n with
    | zero =>
      intro x hx hI
      rw [evCode_loop, hp]
      exact h x hI fun y hy => by omega
    | succ n ih =>
      intro x hx hI
      rw [evCode_loop, hp]
      exact h x hI fun y hy => ih y (by omega)
  exact key (meas x) x (Nat.le_refl _) hI
@[simp] theorem evOps_nil (all : List Oper) (s : St) : evOps C f nt all [] s = some (.normal, s) := by rw [evOps]
def wantK (w : Option Bool) (x y : Option (Ex × St)) : Option (Ex × St) :=
  match w with
  | some true => x
  | some false => y
  | none => none
@[congr] theorem wantK_congr {a a' : Option Bool} (x y : Option (Ex × St)) (h : a = a') : wantK a x y = wantK a' x y := by rw [h]
@[simp ↓] theorem wantK_true (x y : Option (Ex × St)) : wantK (some true) x y = x := _root_.id rfl
@[simp ↓] theorem wantK_false (x y : Option (Ex × St)) : wantK (some false) x y = y := _root_.id rfl
@[simp] theorem guardA_bool (b want : Bool) : guardA (.bool b) want = some (b == want) := _root_.id rfl
@[simp] theorem guardA_skip (want : Bool) : guardA (.tup []) want = some false := _root_.id rfl
noncomputable def opK (f nt : Nat) (all rest : List Oper) (d : Option Tmp) (op : Op) (s : St) : Option (Ex × St) :=
  match op with
  | .panic x => (panA (opd C.gl s.tm x)).map fun a => (.pan a, s)
  | .call { callee := .value g, args, argTypes } =>
    match opd C.gl s.tm g with
    | .fn h caps =>
      (evCall C h (args.toList.map (opd C.gl s.tm) ++ caps) s.m).bind fun x =>
        match x.1 with
        | .ret a => evOps C f nt all rest ⟨put d a s.tm, x.2⟩
        | .pan a => some (.pan a, ⟨s.tm, x.2⟩)
    | _ => none
  | .convert t u x =>
    match strM C.P t u (opd C.gl s.tm x) s.m with
    | some a => evOps C f nt all rest ⟨put d a s.tm, s.m⟩
    | none => (opA C.P (.convert t u x) (opd C.gl s.tm) s.m).bind fun x => evOps C f nt all rest ⟨put d x.1 s.tm, x.2⟩
  | op => (opA C.P op (opd C.gl s.tm) s.m).bind fun x => evOps C f nt all rest ⟨put d x.1 s.tm, x.2⟩
theorem evOps_cons (all rest : List Oper) (d : Option Tmp) (op : Op) (ty : TypeId) (pos : String) (af : Array Edge) (g : Option (Nat × Bool)) (s : St) (hd : d.all (· < nt) = true) :
    evOps C f nt all (⟨d, op, ty, pos, af, g⟩ :: rest) s = wantK (wantA ⟨d, op, ty, pos, af, g⟩ all s.tm) (opK C f nt all rest d op s) (evOps C f nt all rest ⟨put d (.tup []) s.tm, s.m⟩) := by
  rw [evOps]
  simp only [hd]
  cases h : wantA ⟨d, op, ty, pos, af, g⟩ all s.tm with
  | none => rfl
  | some b =>
    cases b
    · rfl
    · simp only [wantK, opK]
      rfl
@[simp] theorem wantA_none (d : Option Tmp) (op : Op) (ty : TypeId) (pos : String) (af : Array Edge) (all : List Oper) (tm : List (Nat × A)) : wantA ⟨d, op, ty, pos, af, none⟩ all tm = some true := _root_.id rfl
theorem wantA_some (d : Option Tmp) (op : Op) (ty : TypeId) (pos : String) (af : Array Edge) (all : List Oper) (tm : List (Nat × A)) (j : Nat) (w : Bool) :
    wantA ⟨d, op, ty, pos, af, some (j, w)⟩ all tm = match (all[j]?).bind (·.dst) with | none => some false | some d => guardA (lk d tm) w := by
  simp only [wantA]
  cases h : (all[j]?).bind (·.dst) <;> rfl
noncomputable def stepK (f nt : Nat) (all rest : List Oper) (d : Option Tmp) (m : Mem) (tm : List (Nat × A)) (x : Option (A × Mem)) : Option (Ex × St) :=
  x.bind fun x => evOps C f nt all rest ⟨put d x.1 tm, x.2⟩
@[congr] theorem stepK_congr (all rest : List Oper) (d : Option Tmp) (m : Mem) (tm : List (Nat × A)) {x x' : Option (A × Mem)} (h : x = x') : stepK C f nt all rest d m tm x = stepK C f nt all rest d m tm x' := by rw [h]
@[simp ↓] theorem stepK_some (all rest : List Oper) (d : Option Tmp) (m m' : Mem) (tm : List (Nat × A)) (a : A) : stepK C f nt all rest d m tm (some (a, m')) = evOps C f nt all rest ⟨put d a tm, m'⟩ := _root_.id rfl
@[simp ↓] theorem stepK_none (all rest : List Oper) (d : Option Tmp) (m : Mem) (tm : List (Nat × A)) : stepK C f nt all rest d m tm none = none := _root_.id rfl
section
variable (all rest : List Oper) (d : Option Tmp) (tm : List (Nat × A)) (m : Mem)
@[simp] theorem opK_move (x : Operand) : opK C f nt all rest d (.move x) ⟨tm, m⟩ = evOps C f nt all rest ⟨put d (opd C.gl tm x) tm, m⟩ := _root_.id rfl
@[simp] theorem opK_assign (x : Operand) : opK C f nt all rest d (.assign x) ⟨tm, m⟩ = evOps C f nt all rest ⟨put d (opd C.gl tm x) tm, m⟩ := _root_.id rfl
@[simp] theorem pickA_bool (t : Bool) (a b : A) : pickA (.bool t) a b = some (if t then a else b) := _root_.id rfl
@[simp] theorem opK_pick (c a b : Operand) : opK C f nt all rest d (.pick c a b) ⟨tm, m⟩ = stepK C f nt all rest d m tm ((pickA (opd C.gl tm c) (opd C.gl tm a) (opd C.gl tm b)).map (·, m)) := _root_.id rfl
@[simp] theorem opK_alloc (e : TypeId) : opK C f nt all rest d (.alloc e) ⟨tm, m⟩ = stepK C f nt all rest d m tm ((zeroOf C.P e).bind fun z => some (.ptr m.bx.length 0, ⟨m.bx ++ [z], m.rw⟩)) := _root_.id rfl
@[simp] theorem opK_box (e : TypeId) (x : Operand) : opK C f nt all rest d (.box e x) ⟨tm, m⟩ = stepK C f nt all rest d m tm (if okPart (opd C.gl tm x) then some (.ptr m.bx.length 0, ⟨m.bx ++ [(opd C.gl tm x).cells], m.rw⟩) else none) := _root_.id rfl
@[simp] theorem opK_build (t : TypeId) (ps : Array (Nat × Operand)) : opK C f nt all rest d (.build t ps) ⟨tm, m⟩ = stepK C f nt all rest d m tm ((buildA C.P t (ps.toList.map fun p => (p.1, opd C.gl tm p.2))).map (·, m)) := _root_.id rfl
@[simp] theorem opK_buildSlice (t : TypeId) (n : Nat) (ps : Array (Nat × Operand)) : opK C f nt all rest d (.buildSlice t n ps) ⟨tm, m⟩ = stepK C f nt all rest d m tm ((buildSliceA C.P t n (ps.toList.map fun p => (p.1, opd C.gl tm p.2))).map (·, m)) := _root_.id rfl
@[simp] theorem opK_load (t : TypeId) (a : Operand) : opK C f nt all rest d (.load t a) ⟨tm, m⟩ = stepK C f nt all rest d m tm ((loadA C.P t (opd C.gl tm a) m).map (·, m)) := _root_.id rfl
@[simp] theorem opK_store (t : TypeId) (a x : Operand) : opK C f nt all rest d (.store t a x) ⟨tm, m⟩ = stepK C f nt all rest d m tm ((storeA C.P t (opd C.gl tm a) (opd C.gl tm x) m).map (.tup [], ·)) := _root_.id rfl
@[simp] theorem opK_nilCheck (x : Operand) : opK C f nt all rest d (.nilCheck x) ⟨tm, m⟩ = stepK C f nt all rest d m tm ((nilA (opd C.gl tm x)).map (·, m)) := _root_.id rfl
@[simp] theorem opK_binOp (o : BinOp) (t u : TypeId) (x y : Operand) : opK C f nt all rest d (.binOp o t x y u) ⟨tm, m⟩ = stepK C f nt all rest d m tm ((binA C.P o t (isConst x || isConst y) (opd C.gl tm x) (opd C.gl tm y)).map (·, m)) := _root_.id rfl
@[simp] theorem opK_unOp (o : UnOp) (t : TypeId) (x : Operand) : opK C f nt all rest d (.unOp o t x) ⟨tm, m⟩ = stepK C f nt all rest d m tm ((unA o (opd C.gl tm x)).map (·, m)) := _root_.id rfl
noncomputable def strK (f nt : Nat) (all rest : List Oper) (d : Option Tmp) (m : Mem) (tm : List (Nat × A)) (x : Option A) (y : Option (Ex × St)) : Option (Ex × St) :=
  match x with
  | some a => evOps C f nt all rest ⟨put d a tm, m⟩
  | none => y
@[congr] theorem strK_congr {x x' : Option A} (y : Option (Ex × St)) (h : x = x') : strK C f nt all rest d m tm x y = strK C f nt all rest d m tm x' y := by rw [h]
@[simp ↓] theorem strK_some (a : A) (y : Option (Ex × St)) : strK C f nt all rest d m tm (some a) y = evOps C f nt all rest ⟨put d a tm, m⟩ := _root_.id rfl
@[simp ↓] theorem strK_none (y : Option (Ex × St)) : strK C f nt all rest d m tm none y = y := _root_.id rfl
@[simp] theorem strM_int (P : Program) (t u : TypeId) (k : IntKind) (n : Int) : strM P t u (.int k n) m = none := _root_.id rfl
@[simp] theorem strM_str (P : Program) (t u : TypeId) (s : List UInt8) : strM P t u (.str s) m = none := _root_.id rfl
@[simp] theorem opK_convert (t u : TypeId) (x : Operand) : opK C f nt all rest d (.convert t u x) ⟨tm, m⟩ = strK C f nt all rest d m tm (strM C.P t u (opd C.gl tm x) m) (stepK C f nt all rest d m tm ((match convA C.P t u (opd C.gl tm x) with | some a => some a | none => bytesA C.P t u (opd C.gl tm x)).map (·, m))) := _root_.id rfl
@[simp] theorem opK_fieldAddr (t : TypeId) (x : Operand) (i : Nat) : opK C f nt all rest d (.fieldAddr t x i) ⟨tm, m⟩ = stepK C f nt all rest d m tm ((fieldAddrA C.P t (opd C.gl tm x) i).map (·, m)) := _root_.id rfl
@[simp] theorem opK_field (t : TypeId) (x : Operand) (i : Nat) : opK C f nt all rest d (.field t x i) ⟨tm, m⟩ = stepK C f nt all rest d m tm ((fieldA C.P t (opd C.gl tm x) i).map (·, m)) := _root_.id rfl
@[simp] theorem opK_indexAddr (t : TypeId) (x i : Operand) : opK C f nt all rest d (.indexAddr t x i) ⟨tm, m⟩ = stepK C f nt all rest d m tm ((indexAddrA C.P t (opd C.gl tm x) (opd C.gl tm i)).map (·, m)) := _root_.id rfl
@[simp] theorem opK_index (t : TypeId) (x i : Operand) : opK C f nt all rest d (.index t x i) ⟨tm, m⟩ = stepK C f nt all rest d m tm ((indexA C.P t (opd C.gl tm x) (opd C.gl tm i)).map (·, m)) := _root_.id rfl
@[simp] theorem opK_typeAssert (x : Operand) (xt t : TypeId) (ok : Bool) : opK C f nt all rest d (.typeAssert x xt t ok) ⟨tm, m⟩ = stepK C f nt all rest d m tm ((assertA C.P t ok (opd C.gl tm x)).map (·, m)) := _root_.id rfl
@[simp] theorem opK_extract (x : Operand) (i : Nat) : opK C f nt all rest d (.extract x i) ⟨tm, m⟩ = stepK C f nt all rest d m tm ((extractA (opd C.gl tm x) i).map (·, m)) := _root_.id rfl
@[simp] theorem opK_makeFunc (g : FuncId) (first caps : Array Operand) : opK C f nt all rest d (.makeFunc (.func g) first caps) ⟨tm, m⟩ = stepK C f nt all rest d m tm (if first.size = 0 then some (.fn g (caps.toList.map (opd C.gl tm)), m) else none) := _root_.id rfl
@[simp] theorem opK_makeSlice (t : TypeId) (l c : Operand) : opK C f nt all rest d (.makeSlice t l c) ⟨tm, m⟩ = stepK C f nt all rest d m tm (makeSliceA C.P t (opd C.gl tm l) (opd C.gl tm c) m) := _root_.id rfl
@[simp] theorem opK_makeInterface (t : TypeId) (x : Operand) : opK C f nt all rest d (.makeInterface t x) ⟨tm, m⟩ = stepK C f nt all rest d m tm (if ifcT C.P t then none else some (.ifc t (opd C.gl tm x), m)) := by
  simp only [opK, opA, stepK]
@[simp] theorem opK_slice (t : TypeId) (x : Operand) (lo hi mx : Option Operand) : opK C f nt all rest d (.slice t x lo hi mx) ⟨tm, m⟩ = stepK C f nt all rest d m tm ((if sliceable C.P t then sliceA C.P t (opd C.gl tm x) (lo.map (opd C.gl tm)) (hi.map (opd C.gl tm)) (mx.map (opd C.gl tm)) else if lo.isNone && hi.isNone && mx.isNone then slarrA C.P t (opd C.gl tm x) else none).map (·, m)) := _root_.id rfl
@[simp] theorem opK_builtin (b : Builtin) (xs : Array Operand) (ts : Array TypeId) : opK C f nt all rest d (.call { callee := .builtin b, args := xs, argTypes := ts }) ⟨tm, m⟩ = stepK C f nt all rest d m tm (builtinA C.P b ts.toList (xs.toList.map (opd C.gl tm)) m) := _root_.id rfl
@[simp] theorem opK_panic (x : Operand) : opK C f nt all rest d (.panic x) ⟨tm, m⟩ = (panA (opd C.gl tm x)).map fun a => (.pan a, ⟨tm, m⟩) := _root_.id rfl
@[simp] theorem panA_ifc (t : TypeId) (x : A) : panA (.ifc t x) = some (.ifc t x) := _root_.id rfl
noncomputable def callK (f nt : Nat) (all rest : List Oper) (d : Option Tmp) (tm : List (Nat × A)) (x : Option (Res × Mem)) : Option (Ex × St) :=
  x.bind fun x => match x.1 with
    | .ret a => evOps C f nt all rest ⟨put d a tm, x.2⟩
    | .pan a => some (.pan a, ⟨tm, x.2⟩)
@[simp ↓] theorem callK_ret (a : A) : callK C f nt all rest d tm (some (.ret a, m)) = evOps C f nt all rest ⟨put d a tm, m⟩ := _root_.id rfl
@[simp ↓] theorem callK_pan (a : A) : callK C f nt all rest d tm (some (.pan a, m)) = some (.pan a, ⟨tm, m⟩) := _root_.id rfl
noncomputable def fnK (f nt : Nat) (all rest : List Oper) (d : Option Tmp) (tm : List (Nat × A)) (m : Mem) (g : A) (args : List A) : Option (Ex × St) :=
  match g with
  | .fn h caps => callK C f nt all rest d tm (evCall C h (args ++ caps) m)
  | _ => none
@[simp ↓] theorem fnK_fn (h : FuncId) (caps args : List A) : fnK C f nt all rest d tm m (.fn h caps) args = callK C f nt all rest d tm (evCall C h (args ++ caps) m) := _root_.id rfl
@[simp] theorem opK_call (g : Operand) (xs : Array Operand) (ts : Array TypeId) : opK C f nt all rest d (.call { callee := .value g, args := xs, argTypes := ts }) ⟨tm, m⟩ = fnK C f nt all rest d tm m (opd C.gl tm g) (xs.toList.map (opd C.gl tm)) := by
  simp only [opK, fnK]; split <;> rfl
end
end
@[simp] theorem opd_tmp (gl : Nat → A) (tm : List (Nat × A)) (t : Nat) : opd gl tm (.tmp t) = lk t tm := _root_.id rfl
@[simp] theorem opd_func (gl : Nat → A) (tm : List (Nat × A)) (t : Nat) : opd gl tm (.func t) = .fn t [] := _root_.id rfl
@[simp] theorem opd_global (gl : Nat → A) (tm : List (Nat × A)) (t : Nat) : opd gl tm (.global t) = gl t := _root_.id rfl
@[simp] theorem opd_int (gl : Nat → A) (tm : List (Nat × A)) (k : IntKind) (n : Int) : opd gl tm (.const (.int k n)) = .int k n := _root_.id rfl
@[simp] theorem opd_bool (gl : Nat → A) (tm : List (Nat × A)) (b : Bool) : opd gl tm (.const (.bool b)) = .bool b := _root_.id rfl
@[simp] theorem opd_string (gl : Nat → A) (tm : List (Nat × A)) (s : ByteArray) : opd gl tm (.const (.string s)) = .str s.data.toList := _root_.id rfl
@[simp] theorem opd_nils (gl : Nat → A) (tm : List (Nat × A)) : opd gl tm (.const (.slice none 0 0)) = .nils := _root_.id rfl
@[simp] theorem opd_nili (gl : Nat → A) (tm : List (Nat × A)) : opd gl tm (.const .nilIface) = .nili := _root_.id rfl
@[simp] theorem opd_nilp (gl : Nat → A) (tm : List (Nat × A)) : opd gl tm (.const (.pointer none)) = .nilp := _root_.id rfl
@[simp] theorem opd_agg (gl : Nat → A) (tm : List (Nat × A)) (l : List Value) : opd gl tm (.const (.agg ⟨l⟩)) = .agg (l.map A.ofCell) := _root_.id rfl
@[simp] theorem ofCell_int (k : IntKind) (n : Int) : A.ofCell (.int k n) = .int k n := _root_.id rfl
@[simp] theorem ofCell_bool (b : Bool) : A.ofCell (.bool b) = .bool b := _root_.id rfl
@[simp] theorem ofCell_string (s : ByteArray) : A.ofCell (.string s) = .str s.data.toList := _root_.id rfl
@[simp] theorem ofCell_nils : A.ofCell (.slice none 0 0) = .nils := _root_.id rfl
@[simp] theorem ofCell_nilp : A.ofCell (.pointer none) = .nilp := _root_.id rfl
@[simp] theorem ofCell_nili : A.ofCell .nilIface = .nili := _root_.id rfl
@[simp] theorem ofCell_nilf : A.ofCell .nilFunc = .nilf := _root_.id rfl
@[simp] theorem put_some (d : Nat) (a : A) (tm : List (Nat × A)) : put (some d) a tm = (d, a) :: tm := _root_.id rfl
@[simp] theorem put_none (a : A) (tm : List (Nat × A)) : put none a tm = tm := _root_.id rfl
@[simp] theorem lk_hd (t : Nat) (a : A) (tm : List (Nat × A)) : lk t ((t, a) :: tm) = a := by simp [lk]
theorem lk_ne {t u : Nat} (a : A) (tm : List (Nat × A)) (h : u ≠ t) : lk t ((u, a) :: tm) = lk t tm := by simp [lk, h]
@[simp] theorem lk_nil (t : Nat) : lk t [] = .undef := _root_.id rfl
@[simp] theorem lk_cons (t u : Nat) (a : A) (tm : List (Nat × A)) : lk t ((u, a) :: tm) = if u = t then a else lk t tm := _root_.id rfl
@[simp] theorem prune_some (l : List Nat) (tm : List (Nat × A)) : prune (some l) tm = l.map fun t => (t, lk t tm) := _root_.id rfl
@[simp] theorem prune_none (tm : List (Nat × A)) : prune none tm = tm := _root_.id rfl
@[simp] theorem cells_agg (cs : List A) : (A.agg cs).cells = cs := _root_.id rfl
@[simp] theorem cells_int (k : IntKind) (n : Int) : (A.int k n).cells = [.int k n] := _root_.id rfl
@[simp] theorem cells_bool (b : Bool) : (A.bool b).cells = [.bool b] := _root_.id rfl
@[simp] theorem cells_str (b : List UInt8) : (A.str b).cells = [.str b] := _root_.id rfl
@[simp] theorem cells_isl (f : Bool) (n : Nat) (b : List A) : (A.isl f n b).cells = [.isl f n b] := _root_.id rfl
@[simp] theorem cells_sl (i v o n : Nat) : (A.sl i v o n).cells = [.sl i v o n] := _root_.id rfl
@[simp] theorem cells_nils : A.nils.cells = [.nils] := _root_.id rfl
@[simp] theorem cells_nili : A.nili.cells = [.nili] := _root_.id rfl
@[simp] theorem cells_ifc (t : TypeId) (x : A) : (A.ifc t x).cells = [.ifc t x] := _root_.id rfl
@[simp] theorem cells_ptr (i o : Nat) : (A.ptr i o).cells = [.ptr i o] := _root_.id rfl
@[simp] theorem cells_fn (i : FuncId) (o : List A) : (A.fn i o).cells = [.fn i o] := _root_.id rfl
@[simp] theorem asVar_true (cs : List A) : asVar true cs = some (.agg cs) := _root_.id rfl
@[simp] theorem asVar_one (a : A) : asVar false [a] = some a := _root_.id rfl
section
variable (P : Program) (t : TypeId) (bx : List (List A)) (rw_ : List Row)
@[simp] theorem loadA_ptr (id off : Nat) (m : Mem) : loadA P t (.ptr id off) m = (aggT P t).bind fun g => (m.bx[id]?).bind fun cs => if off + (if g then szOf P t else 1) ≤ cs.length then asVar g ((cs.drop off).take (if g then szOf P t else 1)) else none := _root_.id rfl
@[simp] theorem loadA_rptr (id ver off : Nat) (m : Mem) : loadA P t (.rptr id ver off) m = (aggT P t).bind fun g => (m.rw[id]?).bind fun r => if r.cs.length = ver ∧ off + (if g then szOf P t else 1) ≤ r.cs.length then asVar g ((r.cs.drop off).take (if g then szOf P t else 1)) else none := _root_.id rfl
@[simp] theorem loadA_rp (cs : List A) (m : Mem) : loadA P t (.rp cs) m = (aggT P t).bind fun g => if (if g then szOf P t else 1) ≤ cs.length then asVar g (cs.take (if g then szOf P t else 1)) else none := _root_.id rfl
@[simp] theorem storeA_ptr (id off : Nat) (x : A) (m : Mem) : storeA P t (.ptr id off) x m = if szOf P t = 0 then (if x.cells.length = 0 ∧ (aggT P t).isSome ∧ x.cells.all flat then some m else none) else if x.cells.length = szOf P t ∧ 0 < szOf P t ∧ x.cells.all flat then (m.bx[id]?).bind fun cs => if off + x.cells.length ≤ cs.length then some ⟨m.bx.set id (setCells cs off x.cells), m.rw⟩ else none else none := _root_.id rfl
@[simp] theorem storeA_rptr (id ver off : Nat) (x : A) (m : Mem) : storeA P t (.rptr id ver off) x m = if szOf P t = 0 then (if x.cells.length = 0 ∧ (aggT P t).isSome ∧ x.cells.all flat then some m else none) else if x.cells.length = szOf P t ∧ 0 < szOf P t ∧ x.cells.all flat then (m.rw[id]?).bind fun r => if r.cs.length = ver ∧ off + x.cells.length ≤ r.cs.length then some ⟨m.bx, m.rw.set id ⟨r.el, setCells r.cs off x.cells⟩⟩ else none else none := _root_.id rfl
@[simp] theorem fieldAddrA_ptr (id off i : Nat) : fieldAddrA P t (.ptr id off) i = (fieldT P t i).bind fun p => if 0 < szOf P p.2 then some (.ptr id (off + p.1)) else none := _root_.id rfl
@[simp] theorem fieldAddrA_rptr (id v off i : Nat) : fieldAddrA P t (.rptr id v off) i = (fieldT P t i).bind fun p => if 0 < szOf P p.2 then some (.rptr id v (off + p.1)) else none := _root_.id rfl
@[simp] theorem fieldAddrA_rp (cs : List A) (i : Nat) : fieldAddrA P t (.rp cs) i = (fieldT P t i).bind fun p => if 0 < szOf P p.2 then some (.rp (cs.drop p.1)) else none := _root_.id rfl
@[simp] theorem at_top0 {α : Type} (l r : List α) : (l ++ r)[l.length]? = r[0]? := by rw [List.getElem?_append_right (Nat.le_refl _), Nat.sub_self]
@[simp] theorem at_topk {α : Type} (l r : List α) (k : Nat) : (l ++ r)[l.length + k]? = r[k]? := by rw [List.getElem?_append_right (by omega), Nat.add_sub_cancel_left]
@[simp] theorem set_topk {α : Type} (l r : List α) (x : α) (k : Nat) : (l ++ r).set (l.length + k) x = l ++ r.set k x := by rw [List.set_append_right _ _ (by omega), Nat.add_sub_cancel_left]
theorem at_lt {α : Type} {l : List α} {i : Nat} (r : List α) (h : i < l.length) : (l ++ r)[i]? = l[i]? := List.getElem?_append_left h
theorem set_lt {α : Type} {l : List α} {i : Nat} (r : List α) (x : α) (h : i < l.length) : (l ++ r).set i x = l.set i x ++ r := List.set_append_left _ _ h
@[simp] theorem at_sets {α : Type} (l r : List α) (i : Nat) (x : α) (k : Nat) : (l.set i x ++ r)[l.length + k]? = r[k]? := by
  have := at_topk (l.set i x) r k
  rwa [List.length_set] at this
@[simp] theorem at_sets0 {α : Type} (l r : List α) (i : Nat) (x : α) : (l.set i x ++ r)[l.length]? = r[0]? := at_sets l r i x 0
@[simp] theorem set_sets {α : Type} (l r : List α) (i : Nat) (x y : α) (k : Nat) : (l.set i x ++ r).set (l.length + k) y = l.set i x ++ r.set k y := by
  have := set_topk (l.set i x) r y k
  rwa [List.length_set] at this
@[simp] theorem set_sets0 {α : Type} (l r : List α) (i : Nat) (x y : α) : (l.set i x ++ r).set l.length y = l.set i x ++ r.set 0 y := set_sets l r i x y 0
@[simp] theorem set_top0 {α : Type} (l r : List α) (x : α) : (l ++ r).set l.length x = l ++ r.set 0 x := by rw [List.set_append_right _ _ (Nat.le_refl _), Nat.sub_self]
end
@[simp] theorem flat_int (k : IntKind) (n : Int) : flat (.int k n) = true := _root_.id rfl
@[simp] theorem flat_bool (b : Bool) : flat (.bool b) = true := _root_.id rfl
@[simp] theorem flat_str (b : List UInt8) : flat (.str b) = true := _root_.id rfl
@[simp] theorem flat_isl (f : Bool) (n : Nat) (cs : List A) : flat (.isl f n cs) = true := _root_.id rfl
@[simp] theorem flat_sl (i v o n : Nat) : flat (.sl i v o n) = true := _root_.id rfl
@[simp] theorem flat_nils : flat .nils = true := _root_.id rfl
@[simp] theorem flat_nili : flat .nili = true := _root_.id rfl
@[simp] theorem flat_nilp : flat .nilp = true := _root_.id rfl
@[simp] theorem flat_nilf : flat .nilf = true := _root_.id rfl
@[simp] theorem flat_ifc (t : TypeId) (x : A) : flat (.ifc t x) = true := _root_.id rfl
@[simp] theorem flat_ptr (i o : Nat) : flat (.ptr i o) = true := _root_.id rfl
@[simp] theorem flat_fn (i : FuncId) (o : List A) : flat (.fn i o) = true := _root_.id rfl
@[simp] theorem closed_undef (nb nr : Nat) : closed nb nr .undef = true := _root_.id rfl
@[simp] theorem closed_int (nb nr : Nat) (k : IntKind) (n : Int) : closed nb nr (.int k n) = true := _root_.id rfl
@[simp] theorem closed_bool (nb nr : Nat) (b : Bool) : closed nb nr (.bool b) = true := _root_.id rfl
@[simp] theorem closed_str (nb nr : Nat) (b : List UInt8) : closed nb nr (.str b) = true := _root_.id rfl
@[simp] theorem closed_nils (nb nr : Nat) : closed nb nr .nils = true := _root_.id rfl
@[simp] theorem closed_nili (nb nr : Nat) : closed nb nr .nili = true := _root_.id rfl
@[simp] theorem closed_nilp (nb nr : Nat) : closed nb nr .nilp = true := _root_.id rfl
@[simp] theorem closed_nilf (nb nr : Nat) : closed nb nr .nilf = true := _root_.id rfl
theorem closedL_eq (nb nr : Nat) : ∀ cs : List A, closed.closedL nb nr cs = cs.all (closed nb nr)
  | [] => rfl
  | a :: r => by rw [closed.closedL, closedL_eq nb nr r, List.all_cons]
@[simp] theorem closed_isl (nb nr : Nat) (f : Bool) (n : Nat) (cs : List A) : closed nb nr (.isl f n cs) = cs.all (closed nb nr) := by rw [closed, closedL_eq]
@[simp] theorem closed_agg (nb nr : Nat) (cs : List A) : closed nb nr (.agg cs) = cs.all (closed nb nr) := by rw [closed, closedL_eq]
@[simp] theorem closed_tup (nb nr : Nat) (cs : List A) : closed nb nr (.tup cs) = cs.all (closed nb nr) := by rw [closed, closedL_eq]
@[simp] theorem closed_rp (nb nr : Nat) (cs : List A) : closed nb nr (.rp cs) = cs.all (closed nb nr) := by rw [closed, closedL_eq]
@[simp] theorem closed_fn (nb nr : Nat) (f : FuncId) (cs : List A) : closed nb nr (.fn f cs) = cs.all (closed nb nr) := by rw [closed, closedL_eq]
@[simp] theorem closed_ifc (nb nr : Nat) (t : TypeId) (x : A) : closed nb nr (.ifc t x) = closed nb nr x := _root_.id rfl
@[simp] theorem closed_ptr (nb nr i o : Nat) : closed nb nr (.ptr i o) = decide (i < nb) := _root_.id rfl
@[simp] theorem closed_sl (nb nr i v o n : Nat) : closed nb nr (.sl i v o n) = decide (i < nr) := _root_.id rfl
@[simp] theorem closed_rptr (nb nr i v o : Nat) : closed nb nr (.rptr i v o) = decide (i < nr) := _root_.id rfl
theorem er1L_eq (nb nr : Nat) (g) : ∀ cs : List A, er1.er1L nb nr g cs = cs.map (er1 nb nr g)
  | [] => rfl
  | a :: r => by rw [er1.er1L, er1L_eq nb nr g r, List.map_cons]
section
variable (nb nr : Nat) (g : Nat → Nat → Nat → Nat → A)
@[simp] theorem er1_undef : er1 nb nr g .undef = .undef := _root_.id rfl
@[simp] theorem er1_int (k : IntKind) (n : Int) : er1 nb nr g (.int k n) = .int k n := _root_.id rfl
@[simp] theorem er1_bool (b : Bool) : er1 nb nr g (.bool b) = .bool b := _root_.id rfl
@[simp] theorem er1_str (b : List UInt8) : er1 nb nr g (.str b) = .str b := _root_.id rfl
@[simp] theorem er1_nils : er1 nb nr g .nils = .isl false 0 [] := _root_.id rfl
@[simp] theorem er1_nili : er1 nb nr g .nili = .nili := _root_.id rfl
@[simp] theorem er1_nilp : er1 nb nr g .nilp = .nilp := _root_.id rfl
@[simp] theorem er1_nilf : er1 nb nr g .nilf = .nilf := _root_.id rfl
@[simp] theorem er1_ifc (t : TypeId) (x : A) : er1 nb nr g (.ifc t x) = .ifc t (er1 nb nr g x) := _root_.id rfl
@[simp] theorem er1_agg (cs : List A) : er1 nb nr g (.agg cs) = .agg (cs.map (er1 nb nr g)) := by rw [er1, er1L_eq]
@[simp] theorem er1_tup (cs : List A) : er1 nb nr g (.tup cs) = .tup (cs.map (er1 nb nr g)) := by rw [er1, er1L_eq]
@[simp] theorem er1_isl (f : Bool) (n : Nat) (cs : List A) : er1 nb nr g (.isl f n cs) = .isl false n (cs.map (er1 nb nr g)) := by rw [er1, er1L_eq]
@[simp] theorem er1_rp (cs : List A) : er1 nb nr g (.rp cs) = .rp (cs.map (er1 nb nr g)) := by rw [er1, er1L_eq]
@[simp] theorem er1_fn (f : FuncId) (cs : List A) : er1 nb nr g (.fn f cs) = .fn f (cs.map (er1 nb nr g)) := by rw [er1, er1L_eq]
@[simp] theorem er1_ptr (i o : Nat) : er1 nb nr g (.ptr i o) = if i < nb then .ptr i o else .undef := _root_.id rfl
@[simp] theorem er1_rptr (i v o : Nat) : er1 nb nr g (.rptr i v o) = if i < nr then .rptr i v o else .undef := _root_.id rfl
@[simp] theorem er1_sl (i v o n : Nat) : er1 nb nr g (.sl i v o n) = if i < nr then .sl i v o n else g i v o n := _root_.id rfl
end
@[simp] theorem er_eq (P : Program) (nb nr : Nat) (rw_ : List Row) (k : Nat) (a : A) : er P nb nr rw_ k a = er1 nb nr (erG P nb nr rw_ k) a := _root_.id rfl
section
variable (k : IntKind) (a b : Int) (s t : List UInt8)
@[simp] theorem intOp_add : intOp .add k a b = some (.int k (k.wrap (a + b))) := _root_.id rfl
@[simp] theorem intOp_sub : intOp .sub k a b = some (.int k (k.wrap (a - b))) := _root_.id rfl
@[simp] theorem intOp_mul : intOp .mul k a b = some (.int k (k.wrap (a * b))) := _root_.id rfl
@[simp] theorem intOp_quo : intOp .quo k a b = if b = 0 then none else some (.int k (k.wrap (a.tdiv b))) := _root_.id rfl
@[simp] theorem intOp_rem : intOp .rem k a b = if b = 0 then none else some (.int k (a.tmod b)) := _root_.id rfl
@[simp] theorem intOp_eql : intOp .eql k a b = some (.bool (decide (a = b))) := by
  simp only [intOp]; congr 2
@[simp] theorem intOp_neq : intOp .neq k a b = some (.bool (!decide (a = b))) := by
  simp only [intOp]; congr 2
@[simp] theorem intOp_lss : intOp .lss k a b = some (.bool (a < b)) := _root_.id rfl
@[simp] theorem intOp_leq : intOp .leq k a b = some (.bool (a ≤ b)) := _root_.id rfl
@[simp] theorem intOp_gtr : intOp .gtr k a b = some (.bool (b < a)) := _root_.id rfl
@[simp] theorem intOp_geq : intOp .geq k a b = some (.bool (b ≤ a)) := _root_.id rfl
@[simp] theorem maxA_int : maxA (.int k a) (.int k b) = some (.int k (max a b)) := by
  simp only [maxA, if_true]; congr 2; omega
@[simp] theorem minA_int : minA (.int k a) (.int k b) = some (.int k (min a b)) := by
  simp only [minA, if_true]; congr 2; omega
@[simp] theorem strOp_add : strOp .add s t = if s.length + t.length ≤ 9223372036854775807 then some (.str (s ++ t)) else none := _root_.id rfl
@[simp] theorem strOp_eql : strOp .eql s t = some (.bool (decide (s = t))) := by
  simp only [strOp]; congr 2; by_cases h : s = t <;> simp [h]
@[simp] theorem strOp_neq : strOp .neq s t = some (.bool (!decide (s = t))) := by
  simp only [strOp]; congr 2; by_cases h : s = t <;> simp [h]
@[simp] theorem strOp_lss : strOp .lss s t = some (.bool (Op.bytesLess s t)) := _root_.id rfl
@[simp] theorem strOp_gtr : strOp .gtr s t = some (.bool (!(Op.bytesLess s t || s == t))) := _root_.id rfl
end
@[simp] theorem erG_4 (P : Program) (nb nr : Nat) (rw_ : List Row) (i v o n : Nat) : erG P nb nr rw_ 4 i v o n = match rw_[i]? with
    | some r => if r.cs.length = v ∧ o + n * szOf P r.el ≤ v then .isl false n (((r.cs.drop o).take (n * szOf P r.el)).map (er1 nb nr (erG P nb nr rw_ 3))) else .undef
    | none => .undef := _root_.id rfl
@[simp] theorem erG_3 (P : Program) (nb nr : Nat) (rw_ : List Row) (i v o n : Nat) : erG P nb nr rw_ 3 i v o n = match rw_[i]? with
    | some r => if r.cs.length = v ∧ o + n * szOf P r.el ≤ v then .isl false n (((r.cs.drop o).take (n * szOf P r.el)).map (er1 nb nr (erG P nb nr rw_ 2))) else .undef
    | none => .undef := _root_.id rfl
def appK (e : TypeId) (sz : Nat) (s : A) (n : Nat) (cs : List A) (m : Mem) : Option (A × Mem) :=
    match s with
    | .nils => if n = 0 then some (s, m) else some (.sl m.rw.length (n * sz) 0 n, { m with rw := m.rw ++ [⟨e, cs⟩] })
    | .isl true l os => if os.length = l * sz then (if n = 0 then some (s, m) else some (.sl m.rw.length ((l + n) * sz) 0 (l + n), { m with rw := m.rw ++ [⟨e, os ++ cs⟩] })) else none
    | .sl id ver off l => do
      let r ← m.rw[id]?
      if r.cs.length = ver ∧ r.el = e ∧ ver = off + l * sz ∧ (off = 0 ∨ sz = 1) then some (.sl id (off + (l + n) * sz) off (l + n), { m with rw := m.rw.set id ⟨e, r.cs ++ cs⟩ })
      else if off = 0 ∧ r.cs.length = ver ∧ r.el = e ∧ l * sz ≤ ver then some (.sl id (max ver ((l + n) * sz)) 0 (l + n), { m with rw := m.rw.set id ⟨e, r.cs.take (l * sz) ++ cs ++ r.cs.drop ((l + n) * sz)⟩ }) else none
    | _ => none
@[simp] theorem appK_nils (e : TypeId) (sz n : Nat) (cs : List A) (m : Mem) : appK e sz .nils n cs m = if n = 0 then some (.nils, m) else some (.sl m.rw.length (n * sz) 0 n, ⟨m.bx, m.rw ++ [⟨e, cs⟩]⟩) := _root_.id rfl
@[simp] theorem appK_isl (e : TypeId) (sz n l : Nat) (cs os : List A) (m : Mem) : appK e sz (.isl true l os) n cs m = if os.length = l * sz then (if n = 0 then some (.isl true l os, m) else some (.sl m.rw.length ((l + n) * sz) 0 (l + n), ⟨m.bx, m.rw ++ [⟨e, os ++ cs⟩]⟩)) else none := _root_.id rfl
@[simp] theorem appK_slo (e : TypeId) (sz n l id ver off : Nat) (cs : List A) (m : Mem) : appK e sz (.sl id ver off l) n cs m = (m.rw[id]?).bind fun r => if r.cs.length = ver ∧ r.el = e ∧ ver = off + l * sz ∧ (off = 0 ∨ sz = 1) then some (.sl id (off + (l + n) * sz) off (l + n), ⟨m.bx, m.rw.set id ⟨e, r.cs ++ cs⟩⟩) else if off = 0 ∧ r.cs.length = ver ∧ r.el = e ∧ l * sz ≤ ver then some (.sl id (max ver ((l + n) * sz)) 0 (l + n), ⟨m.bx, m.rw.set id ⟨e, r.cs.take (l * sz) ++ cs ++ r.cs.drop ((l + n) * sz)⟩⟩) else none := _root_.id rfl
@[simp high] theorem appK_sl (e : TypeId) (sz n l id ver : Nat) (cs : List A) (m : Mem) : appK e sz (.sl id ver 0 l) n cs m = (m.rw[id]?).bind fun r => if r.cs.length = ver ∧ r.el = e ∧ ver = l * sz then some (.sl id ((l + n) * sz) 0 (l + n), ⟨m.bx, m.rw.set id ⟨e, r.cs ++ cs⟩⟩) else if r.cs.length = ver ∧ r.el = e ∧ l * sz ≤ ver then some (.sl id (max ver ((l + n) * sz)) 0 (l + n), ⟨m.bx, m.rw.set id ⟨e, r.cs.take (l * sz) ++ cs ++ r.cs.drop ((l + n) * sz)⟩⟩) else none := by
  rw [appK_slo]; simp only [Nat.zero_add, true_or, true_and, and_true]
@[simp] theorem appendA_eq (P : Program) (ts tx : TypeId) (s x : A) (m : Mem) : appendA P ts tx s x m = (elemT P ts).bind fun e => (zeroOf P e).bind fun z => (bytesOf P e).bind fun by_ => (lenA x).bind fun n => (lenA s).bind fun l => (cellsA (szOf P e) n x m).bind fun cs =>
    if z.length = szOf P e ∧ 0 < szOf P e ∧ 0 < by_ ∧ by_ ≤ 1024 ∧ (l + n) * by_ ≤ 70368744177664 ∧ (l + n) ≤ 70368744177664 ∧ cs.length = n * szOf P e ∧ cs.all flat ∧ seqT P tx then appK e (szOf P e) s n cs m else none := by
  rfl
attribute [simp] isConst assertA bytesA builtinA lenB binA unA convA pickA nilA extractA indexAddrA indexA sliceA slarrA bnd okPart buildA buildSliceA fillA part fieldA setCells lenA cellsA
@[simp] theorem erR_ret (e : A → A) (a : A) : erR e (.ret a) = .ret (e a) := _root_.id rfl
@[simp] theorem erR_pan (e : A → A) (a : A) : erR e (.pan a) = .pan (e a) := _root_.id rfl
theorem Kept.pure (m : Mem) (b : List (List A)) (r : List Row) : Kept m ⟨m.bx ++ b, m.rw ++ r⟩ :=
  ⟨by simp, by simp, fun i hi => .inl (by simp [List.getElem?_append_left hi]), fun i hi => .inl (by simp [List.getElem?_append_left hi])⟩
section
variable (P : Program) (m : Mem) (b : List (List A)) (r : List Row) (x : Res)
@[simp] theorem leave_rw : leave P false m x ⟨m.bx ++ b, m.rw ++ r⟩ = some (erR (er P m.bx.length m.rw.length (m.rw ++ r) 4) x, m) := by
  simp only [leave, if_pos (Kept.pure m b r), cutM, Bool.false_eq_true, if_false]
  cases x <;> simp
@[simp] theorem leave_bx : leave P false m x ⟨m.bx ++ b, m.rw⟩ = some (erR (er P m.bx.length m.rw.length m.rw 4) x, m) := by
  have := leave_rw P m b [] x
  simpa using this
@[simp] theorem leave_rw0 : leave P false m x ⟨m.bx, m.rw ++ r⟩ = some (erR (er P m.bx.length m.rw.length (m.rw ++ r) 4) x, m) := by
  have := leave_rw P m [] r x
  simpa using this
@[simp] theorem leave_same : leave P false m x m = some (erR (er P m.bx.length m.rw.length m.rw 4) x, m) := by
  have := leave_rw P m [] [] x
  simpa using this
end
section
variable (P : Program) (m : Mem) (b : List (List A)) (r : List Row) (x : Res)
theorem leave_set (i : Nat) (cs : List A) (hcs : cs.all (closed m.bx.length m.rw.length) = true) : leave P false m x ⟨m.bx.set i cs ++ b, m.rw ++ r⟩ = some (erR (er P m.bx.length m.rw.length (m.rw ++ r) 4) x, ⟨m.bx.set i cs, m.rw⟩) := by
  have hk : Kept m ⟨m.bx.set i cs ++ b, m.rw ++ r⟩ := by
    refine ⟨by simp, by simp, fun j hj => ?_, fun j hj => .inl (by simp [List.getElem?_append_left hj])⟩
    rw [List.getElem?_append_left (by simpa using hj), List.getElem?_set]
    by_cases h : i = j
    · subst h; exact .inr ⟨cs, by simp [hj], hcs⟩
    · exact .inl (by simp [h])
  simp only [leave, if_pos hk, cutM, Bool.false_eq_true, if_false]
  have e1 : (m.bx.set i cs ++ b).take m.bx.length = m.bx.set i cs := by rw [← List.length_set (i := i) (a := cs), List.take_left]
  have e2 : (m.rw ++ r).take m.rw.length = m.rw := List.take_left
  rw [e1, e2]
theorem leave_set0 (i : Nat) (cs : List A) (hcs : cs.all (closed m.bx.length m.rw.length) = true) : leave P false m x ⟨m.bx.set i cs, m.rw⟩ = some (erR (er P m.bx.length m.rw.length m.rw 4) x, ⟨m.bx.set i cs, m.rw⟩) := by
  have := leave_set P m [] [] x i cs hcs
  simpa using this
theorem leave_setb (i : Nat) (cs : List A) (hcs : cs.all (closed m.bx.length m.rw.length) = true) : leave P false m x ⟨m.bx.set i cs ++ b, m.rw⟩ = some (erR (er P m.bx.length m.rw.length m.rw 4) x, ⟨m.bx.set i cs, m.rw⟩) := by
  have := leave_set P m b [] x i cs hcs
  simpa using this
theorem leave_setr (i : Nat) (cs : List A) (hcs : cs.all (closed m.bx.length m.rw.length) = true) : leave P false m x ⟨m.bx.set i cs, m.rw ++ r⟩ = some (erR (er P m.bx.length m.rw.length (m.rw ++ r) 4) x, ⟨m.bx.set i cs, m.rw⟩) := by
  have := leave_set P m [] r x i cs hcs
  simpa using this
end
theorem endRound_eq {l : List Nat} {m0 : Mem} {s : St} {B J : List (List A)} (hs : s.m.bx = B ++ J) (hB : B.length = m0.bx.length) (hl : ∀ t ∈ l, closed m0.bx.length s.m.rw.length (lk t s.tm) = true)
    (hb : ∀ i, i < m0.bx.length → B[i]? = m0.bx[i]? ∨ ∃ cs, B[i]? = some cs ∧ cs.all (closed m0.bx.length s.m.rw.length) = true)
    (hr : ∀ i, i < s.m.rw.length → s.m.rw[i]? = m0.rw[i]? ∨ ∃ r, s.m.rw[i]? = some r ∧ r.cs.all (closed m0.bx.length s.m.rw.length) = true) :
    endRound (some l) m0 s = some ⟨prune (some l) s.tm, ⟨B, s.m.rw⟩⟩ := by
  have h1 : s.m.bx.take m0.bx.length = B := by rw [hs, ← hB, List.take_left]
  simp only [endRound]
  rw [if_pos, h1]
  refine ⟨hl, by rw [hs, List.length_append]; omega, fun i hi => ?_, hr⟩
  rw [hs, List.getElem?_append_left (by omega)]
  exact hb i hi
theorem all_take {L' : List (List A)} {n nb nr : Nat} (hc : (L'.take n).all (fun cs => cs.all (closed nb nr)) = true) {B : List (List A)} {i : Nat} (h : ¬ i < B.length) (hi : i < B.length + n) (hn : n ≤ L'.length) :
    ∃ cs, (B ++ L'.take n)[i]? = some cs ∧ cs.all (closed nb nr) = true := by
  have hlt : i - B.length < (L'.take n).length := by rw [List.length_take]; omega
  refine ⟨(L'.take n)[i - B.length], ?_, ?_⟩
  · rw [List.getElem?_append_right (by omega)]; exact List.getElem?_eq_getElem hlt
  · exact List.all_eq_true.1 hc _ (List.getElem_mem hlt)
theorem endRound_L {l : List Nat} {B L L' : List (List A)} {R : List Row} {tm : List (Nat × A)} (hL : L.length ≤ L'.length) (hl : l.all (fun t => closed (B.length + L.length) R.length (lk t tm)) = true) (hc : (L'.take L.length).all (fun cs => cs.all (closed (B.length + L.length) R.length)) = true) :
    endRound (some l) ⟨B ++ L, R⟩ ⟨tm, ⟨B ++ L', R⟩⟩ = some ⟨prune (some l) tm, ⟨B ++ L'.take L.length, R⟩⟩ := by
  refine endRound_eq (B := B ++ L'.take L.length) (J := L'.drop L.length) (by simp) (by simp; omega) (by simpa using List.all_eq_true.1 hl) (fun i hi => ?_) (fun i hi => .inl rfl)
  by_cases h : i < B.length
  · left; rw [List.getElem?_append_left h, List.getElem?_append_left h]
  · right
    rw [List.length_append] at hi ⊢
    exact all_take hc h hi hL
theorem endRound_M {l : List Nat} {J : List (List A)} {m : Mem} {tm : List (Nat × A)} (hl : l.all (fun t => closed m.bx.length m.rw.length (lk t tm)) = true) : endRound (some l) m ⟨tm, ⟨m.bx ++ J, m.rw⟩⟩ = some ⟨prune (some l) tm, m⟩ :=
  endRound_eq (B := m.bx) (J := J) rfl rfl (by simpa using List.all_eq_true.1 hl) (fun i _ => .inl rfl) (fun i _ => .inl rfl)
theorem endRound_M0 {l : List Nat} {m : Mem} {tm : List (Nat × A)} (hl : l.all (fun t => closed m.bx.length m.rw.length (lk t tm)) = true) : endRound (some l) m ⟨tm, m⟩ = some ⟨prune (some l) tm, m⟩ :=
  endRound_eq (B := m.bx) (J := []) (by simp) rfl (by simpa using List.all_eq_true.1 hl) (fun i _ => .inl rfl) (fun i _ => .inl rfl)
theorem endRound_R {l : List Nat} {B L L' : List (List A)} {R R0 R' : List Row} {tm : List (Nat × A)} (hL : L.length ≤ L'.length) (hl : l.all (fun t => closed (B.length + L.length) (R.length + R'.length) (lk t tm)) = true) (hc : (L'.take L.length).all (fun cs => cs.all (closed (B.length + L.length) (R.length + R'.length))) = true)
    (hr : R'.all (fun r => r.cs.all (closed (B.length + L.length) (R.length + R'.length))) = true) :
    endRound (some l) ⟨B ++ L, R ++ R0⟩ ⟨tm, ⟨B ++ L', R ++ R'⟩⟩ = some ⟨prune (some l) tm, ⟨B ++ L'.take L.length, R ++ R'⟩⟩ := by
  refine endRound_eq (B := B ++ L'.take L.length) (J := L'.drop L.length) (by simp) (by simp; omega) (by simpa using List.all_eq_true.1 hl) (fun i hi => ?_) (fun i hi => ?_)
  · by_cases h : i < B.length
    · left; rw [List.getElem?_append_left h, List.getElem?_append_left h]
    · right
      rw [List.length_append] at hi ⊢
      rw [List.length_append]
      exact all_take hc h hi hL
  · by_cases h : i < R.length
    · left; rw [List.getElem?_append_left h, List.getElem?_append_left h]
    · right
      have hi' : i < (R ++ R').length := hi
      simp only [List.length_append] at hi
      refine ⟨(R ++ R')[i], List.getElem?_eq_getElem hi', ?_⟩
      rw [List.getElem_append_right (by omega)]
      have := List.all_eq_true.1 hr _ (List.getElem_mem (l := R') (n := i - R.length) (by omega))
      simpa using this
theorem endRound_R0 {l : List Nat} {B L L' : List (List A)} {R R' : List Row} {tm : List (Nat × A)} (hL : L.length ≤ L'.length) (hl : l.all (fun t => closed (B.length + L.length) (R.length + R'.length) (lk t tm)) = true) (hc : (L'.take L.length).all (fun cs => cs.all (closed (B.length + L.length) (R.length + R'.length))) = true)
    (hr : R'.all (fun r => r.cs.all (closed (B.length + L.length) (R.length + R'.length))) = true) :
    endRound (some l) ⟨B ++ L, R⟩ ⟨tm, ⟨B ++ L', R ++ R'⟩⟩ = some ⟨prune (some l) tm, ⟨B ++ L'.take L.length, R ++ R'⟩⟩ := by
  have := endRound_R (R0 := []) hL hl hc hr
  simpa using this
@[simp] theorem wrap_1 : IntKind.i64.wrap 1 = 1 := by decide
@[simp] theorem wrap_0 : IntKind.i64.wrap 0 = 0 := by decide
theorem endRound_S {l : List Nat} {M L L' : List (List A)} {k : Nat} {x x' : List A} {R : List Row} {tm : List (Nat × A)} (hx : x'.all (closed (M.length + L.length) R.length) = true) (hL : L.length ≤ L'.length) (hl : l.all (fun t => closed (M.length + L.length) R.length (lk t tm)) = true) (hc : (L'.take L.length).all (fun cs => cs.all (closed (M.length + L.length) R.length)) = true) :
    endRound (some l) ⟨M.set k x ++ L, R⟩ ⟨tm, ⟨M.set k x' ++ L', R⟩⟩ = some ⟨prune (some l) tm, ⟨M.set k x' ++ L'.take L.length, R⟩⟩ := by
  refine endRound_eq (B := M.set k x' ++ L'.take L.length) (J := L'.drop L.length) (by simp) (by simp; omega) (by simpa using List.all_eq_true.1 hl) (fun i hi => ?_) (fun i hi => .inl rfl)
  simp only [List.length_append, List.length_set] at hi ⊢
  by_cases h : i < M.length
  · rw [List.getElem?_append_left (by simpa using h), List.getElem?_append_left (by simpa using h)]
    by_cases hk : k = i
    · subst hk; right; exact ⟨x', by simp [h], hx⟩
    · left; simp [hk]
  · right
    have := all_take (B := M.set k x') hc (by simpa using h) (by simpa using hi) hL
    simpa using this
@[simp] theorem take_topk {α : Type} (l r : List α) (k : Nat) : (l ++ r).take (l.length + k) = l ++ r.take k := by rw [List.take_append, List.take_of_length_le (by omega), Nat.add_sub_cancel_left]
noncomputable def finish (P : Program) (keep : Bool) (rs : List ResultVar) (m : Mem) (x : Option (Ex × St)) : Option (Res × Mem) :=
  x.bind fun x =>
          match x.1 with
          | .normal | .ret => (resultsA P rs x.2.tm x.2.m).bind fun a => leave P keep m (.ret a) x.2.m
          | .pan a => leave P keep m (.pan a) x.2.m
          | .exit _ => none
@[simp ↓] theorem finish_normal (P : Program) (keep : Bool) (rs : List ResultVar) (m : Mem) (s : St) : finish P keep rs m (some (.normal, s)) = (resultsA P rs s.tm s.m).bind fun a => leave P keep m (.ret a) s.m := _root_.id rfl
@[simp ↓] theorem finish_ret (P : Program) (keep : Bool) (rs : List ResultVar) (m : Mem) (s : St) : finish P keep rs m (some (.ret, s)) = (resultsA P rs s.tm s.m).bind fun a => leave P keep m (.ret a) s.m := _root_.id rfl
@[simp ↓] theorem finish_pan (P : Program) (keep : Bool) (rs : List ResultVar) (m : Mem) (a : A) (s : St) : finish P keep rs m (some (.pan a, s)) = leave P keep m (.pan a) s.m := _root_.id rfl
@[simp] theorem resultsA_one (P : Program) (r : ResultVar) (tm : List (Nat × A)) (m : Mem) : resultsA P [r] tm m = resA P tm m r := _root_.id rfl
@[simp] theorem resultsA_none (P : Program) (tm : List (Nat × A)) (m : Mem) : resultsA P [] tm m = some (.tup []) := _root_.id rfl
@[simp] theorem resultsA_more (P : Program) (r q : ResultVar) (l : List ResultVar) (tm : List (Nat × A)) (m : Mem) : resultsA P (r :: q :: l) tm m = (resL P tm m (r :: q :: l)).map .tup := _root_.id rfl
attribute [simp] resL resA
theorem loop_in {C : Cfg} {f nt : Nat} {σ : Type} (S : σ → St) (G : σ → Option (Res × Mem)) (meas : σ → Nat) (I : σ → Prop) (x : σ) {b : Code} {P : Program} {kp : Bool} {rs : List ResultVar} {m0 : Mem} {id : Nat} {K : St → Option (Ex × St)} {s0 : St} {r : Option (Res × Mem)}
    (hs : s0 = S x) (hr : G x = r) (hI : I x) (hp : ∀ x, prune (C.ann.loop f (headId b)) (S x).tm = (S x).tm)
    (h : ∀ x, I x → (∀ y s r, meas y < meas x → I y → s = S y → G y = r → finish P kp rs m0 (andThen (ofBlock id (evCode C f nt (.loop b) s)) K) = r) → finish P kp rs m0 (andThen (ofBlock id (andThen (round C f nt b (S x)) (evCode C f nt (.loop b)))) K) = G x) :
    finish P kp rs m0 (andThen (ofBlock id (evCode C f nt (.loop b) s0)) K) = r := by
  subst hs hr
  exact loop_fin C f nt (fun z => finish P kp rs m0 (andThen (ofBlock id z) K)) S G meas I hp (fun x hx hr => h x hx fun y s r h1 h2 h3 h4 => by subst h3 h4; exact hr y h1 h2) x hI
theorem loop_mid {C : Cfg} {f nt : Nat} {σ : Type} (S : σ → St) (G : σ → Option (Ex × St)) (meas : σ → Nat) (I : σ → Prop) (x : σ) {b : Code} {id : Nat} {s0 : St} {r : Option (Ex × St)}
    (hs : s0 = S x) (hr : G x = r) (hI : I x) (hp : ∀ x, prune (C.ann.loop f (headId b)) (S x).tm = (S x).tm)
    (h : ∀ x, I x → (∀ y s r, meas y < meas x → I y → s = S y → G y = r → ofBlock id (evCode C f nt (.loop b) s) = r) → ofBlock id (andThen (round C f nt b (S x)) (evCode C f nt (.loop b))) = G x) :
    ofBlock id (evCode C f nt (.loop b) s0) = r := by
  subst hs hr
  exact loop_fin C f nt (fun z => ofBlock id z) S G meas I hp (fun x hx hr => h x hx fun y s r h1 h2 h3 h4 => by subst h3 h4; exact hr y h1 h2) x hI
theorem evCall_body (C : Cfg) {f : FuncId} {fn : Func} {c : Code} (hx : C.ext f = none) (hf : C.P.funcs[f]? = some fn) (hb : fn.body = some c) (hr : C.ann.recov f = false) (hal : C.ann.all f = false) (hn : fn.name ≠ "runtime.NumGoroutine") {args : List A} (ha : args.length ≤ fn.ntmps) (m : Mem) :
    evCall C f args m = finish C.P (C.ann.keep f) fn.results.toList m (evCode C f fn.ntmps c ⟨argsTm 0 args, m⟩) := by
  rw [evCall]
  simp only [hx, hf, hb, hr, leaveF, hal]
  rw [if_neg (by simp; exact ⟨hn, ha⟩)]
  rfl
theorem evCall_rec (C : Cfg) {f : FuncId} {fn : Func} {c : Code} (hx : C.ext f = none) (hf : C.P.funcs[f]? = some fn) (hb : fn.body = some c) (hr : C.ann.recov f = true) (hal : C.ann.all f = false) (hn : fn.name ≠ "runtime.NumGoroutine") {args : List A} (ha : args.length ≤ fn.ntmps) (m : Mem) :
    evCall C f args m = finish C.P (C.ann.keep f) fn.results.toList m (evRec C f fn.ntmps c ⟨argsTm 0 args, m⟩) := by
  rw [evCall]
  simp only [hx, hf, hb, hr, leaveF, hal]
  rw [if_neg (by simp; exact ⟨hn, ha⟩)]
  rfl
noncomputable def finishA (P : Program) (rs : List ResultVar) (x : Option (Ex × St)) : Option (Res × Mem) :=
  x.bind fun x =>
          match x.1 with
          | .normal | .ret => (resultsA P rs x.2.tm x.2.m).bind fun a => some (.ret a, x.2.m)
          | .pan a => some (.pan a, x.2.m)
          | .exit _ => none
@[simp ↓] theorem finishA_normal (P : Program) (rs : List ResultVar) (s : St) : finishA P rs (some (.normal, s)) = (resultsA P rs s.tm s.m).bind fun a => some (.ret a, s.m) := _root_.id rfl
@[simp ↓] theorem finishA_ret (P : Program) (rs : List ResultVar) (s : St) : finishA P rs (some (.ret, s)) = (resultsA P rs s.tm s.m).bind fun a => some (.ret a, s.m) := _root_.id rfl
theorem evCall_all (C : Cfg) {f : FuncId} {fn : Func} {c : Code} (hx : C.ext f = none) (hf : C.P.funcs[f]? = some fn) (hb : fn.body = some c) (hr : C.ann.recov f = false) (hal : C.ann.all f = true) (hn : fn.name ≠ "runtime.NumGoroutine") {args : List A} (ha : args.length ≤ fn.ntmps) (m : Mem) :
    evCall C f args m = finishA C.P fn.results.toList (evCode C f fn.ntmps c ⟨argsTm 0 args, m⟩) := by
  rw [evCall]
  simp only [hx, hf, hb, hr, leaveF, hal]
  rw [if_neg (by simp; exact ⟨hn, ha⟩)]
  rfl
theorem evRec_seq (C : Cfg) (f nt : Nat) (a b : Code) (s : St) (h : deferAt a = none) : evRec C f nt (.seq a b) s = andThen (evCode C f nt a s) (evRec C f nt b) := by
  rw [evRec]
  simp only [h]
  show Option.bind _ _ = Option.bind _ _
  congr
noncomputable def afterDefer (C : Cfg) (g : FuncId) (caps : List A) (x : Option (Ex × St)) : Option (Ex × St) :=
  x.bind fun x =>
    match endVal x.1, recBody C.P g with
    | some v, some r =>
      if caps.length ≤ r.1 then
        (evCode C g r.1 r.2.2.2 ⟨put (some r.2.2.1) v (put (some r.2.1) v (argsTm 0 caps)), x.2.m⟩).bind fun y =>
          match y.1 with
          | .normal | .ret => some (.ret, ⟨x.2.tm, y.2.m⟩)
          | _ => none
      else none
    | _, _ => none
theorem evRec_defer (C : Cfg) (f nt : Nat) (a b : Code) (s : St) {d : Nat × FuncId × List Operand} (h : deferAt a = some d) (hd : d.1 < nt) :
    evRec C f nt (.seq a b) s = afterDefer C d.2.1 (d.2.2.map (opd C.gl s.tm)) (evCode C f nt b ⟨put (some d.1) (.fn d.2.1 (d.2.2.map (opd C.gl s.tm))) s.tm, s.m⟩) := by
  rw [evRec]
  simp only [h, if_pos hd]
  show Option.bind _ _ = Option.bind _ _
  simp only [List.length_map]
  rfl
noncomputable def deferred (C : Cfg) (g : FuncId) (r : Nat × Nat × Nat × Code) (caps : List A) (v : A) (s : St) : Option (Ex × St) :=
  (evCode C g r.1 r.2.2.2 ⟨put (some r.2.2.1) v (put (some r.2.1) v (argsTm 0 caps)), s.m⟩).bind fun y =>
    match y.1 with
    | .normal | .ret => some (.ret, ⟨s.tm, y.2.m⟩)
    | _ => none
theorem afterDefer_ret (C : Cfg) (g : FuncId) (caps : List A) {r : Nat × Nat × Nat × Code} (hr : recBody C.P g = some r) (hc : caps.length ≤ r.1) (s : St) : afterDefer C g caps (some (.ret, s)) = deferred C g r caps .nili s := by
  simp only [afterDefer, Option.bind_some, endVal, hr, if_pos hc]; rfl
theorem afterDefer_normal (C : Cfg) (g : FuncId) (caps : List A) {r : Nat × Nat × Nat × Code} (hr : recBody C.P g = some r) (hc : caps.length ≤ r.1) (s : St) : afterDefer C g caps (some (.normal, s)) = deferred C g r caps .nili s := by
  simp only [afterDefer, Option.bind_some, endVal, hr, if_pos hc]; rfl
theorem afterDefer_pan (C : Cfg) (g : FuncId) (caps : List A) {r : Nat × Nat × Nat × Code} (hr : recBody C.P g = some r) (hc : caps.length ≤ r.1) (a : A) (s : St) : afterDefer C g caps (some (.pan a, s)) = deferred C g r caps a s := by
  simp only [afterDefer, Option.bind_some, endVal, hr, if_pos hc]; rfl
noncomputable def consD (e : Ent) (x : Option (List Ent × Option (A × Mem) × St)) : Option (List Ent × Option (A × Mem) × St) := x.map fun y => (e :: y.1, y.2)
@[simp ↓] theorem consD_some (e : Ent) (l : List Ent) (s : Option (A × Mem) × St) : consD e (some (l, s)) = some (e :: l, s) := _root_.id rfl
@[simp ↓] theorem consD_none (e : Ent) : consD e none = none := _root_.id rfl
section
variable (C : Cfg) (f nt : Nat) (all rest : List Oper) (d : Option Tmp) (tm : List (Nat × A)) (m : Mem)
@[simp] theorem evDraw_nil (s : St) : evDraw C f nt all [] s = some ([], none, s) := by rw [evDraw]
def wantD (w : Option Bool) (x y : Option (List Ent × Option (A × Mem) × St)) : Option (List Ent × Option (A × Mem) × St) :=
  match w with
  | some true => x
  | some false => y
  | none => none
@[congr] theorem wantD_congr {a a' : Option Bool} (x y : Option (List Ent × Option (A × Mem) × St)) (h : a = a') : wantD a x y = wantD a' x y := by rw [h]
@[simp ↓] theorem wantD_true (x y : Option (List Ent × Option (A × Mem) × St)) : wantD (some true) x y = x := _root_.id rfl
@[simp ↓] theorem wantD_false (x y : Option (List Ent × Option (A × Mem) × St)) : wantD (some false) x y = y := _root_.id rfl
noncomputable def opD (f nt : Nat) (all rest : List Oper) (d : Option Tmp) (op : Op) (s : St) : Option (List Ent × Option (A × Mem) × St) :=
  match op with
  | .call { callee := .value g, args, argTypes } =>
    match opd C.gl s.tm g with
    | .fn h caps =>
      (evCall C h (args.toList.map (opd C.gl s.tm) ++ caps) s.m).bind fun x =>
        match x.1 with
        | .ret a => consD ⟨.eff, a, s.m⟩ (evDraw C f nt all rest ⟨put d a s.tm, x.2⟩)
        | .pan a => some ([⟨.eff, .undef, s.m⟩], some (a, x.2), ⟨put d .undef s.tm, s.m⟩)
    | _ => none
  | op => (opA C.P op (opd C.gl s.tm) s.m).bind fun x => consD ⟨kindA op (opd C.gl s.tm), x.1, s.m⟩ (evDraw C f nt all rest ⟨put d x.1 s.tm, x.2⟩)
theorem bind_consD (x : Option (List Ent × Option (A × Mem) × St)) (e : Ent) : (x.bind fun y => some (e :: y.1, y.2)) = consD e x := by cases x <;> rfl
theorem evDraw_cons (op : Op) (ty : TypeId) (pos : String) (af : Array Edge) (g : Option (Nat × Bool)) (s : St) (hd : d.all (· < nt) = true) :
    evDraw C f nt all (⟨d, op, ty, pos, af, g⟩ :: rest) s = wantD (wantA ⟨d, op, ty, pos, af, g⟩ all s.tm) (opD C f nt all rest d op s) (consD ⟨kindS op, .tup [], s.m⟩ (evDraw C f nt all rest ⟨put d (.tup []) s.tm, s.m⟩)) := by
  rw [evDraw]
  simp only [hd]
  cases h : wantA ⟨d, op, ty, pos, af, g⟩ all s.tm with
  | none => rfl
  | some b =>
    cases b
    · simp only [wantD]
      exact bind_consD _ _
    · simp only [wantD, opD, ← bind_consD]
      rfl
noncomputable def stepD (f nt : Nat) (all rest : List Oper) (d : Option Tmp) (k : EKind) (m : Mem) (tm : List (Nat × A)) (x : Option (A × Mem)) : Option (List Ent × Option (A × Mem) × St) :=
  x.bind fun x => consD ⟨k, x.1, m⟩ (evDraw C f nt all rest ⟨put d x.1 tm, x.2⟩)
@[congr] theorem stepD_congr (k : EKind) {x x' : Option (A × Mem)} (h : x = x') : stepD C f nt all rest d k m tm x = stepD C f nt all rest d k m tm x' := by rw [h]
@[simp ↓] theorem stepD_some (k : EKind) (m' : Mem) (a : A) : stepD C f nt all rest d k m tm (some (a, m')) = consD ⟨k, a, m⟩ (evDraw C f nt all rest ⟨put d a tm, m'⟩) := _root_.id rfl
@[simp ↓] theorem stepD_none (k : EKind) : stepD C f nt all rest d k m tm none = none := _root_.id rfl
noncomputable def callD (f nt : Nat) (all rest : List Oper) (d : Option Tmp) (m : Mem) (tm : List (Nat × A)) (x : Option (Res × Mem)) : Option (List Ent × Option (A × Mem) × St) :=
  x.bind fun x =>
        match x.1 with
        | .ret a => consD ⟨.eff, a, m⟩ (evDraw C f nt all rest ⟨put d a tm, x.2⟩)
        | .pan a => some ([⟨.eff, .undef, m⟩], some (a, x.2), ⟨put d .undef tm, m⟩)
@[simp ↓] theorem callD_pan (a : A) (m' : Mem) : callD C f nt all rest d m tm (some (.pan a, m')) = some ([⟨.eff, .undef, m⟩], some (a, m'), ⟨put d .undef tm, m⟩) := _root_.id rfl
@[simp ↓] theorem callD_ret (a : A) (m' : Mem) : callD C f nt all rest d m tm (some (.ret a, m')) = consD ⟨.eff, a, m⟩ (evDraw C f nt all rest ⟨put d a tm, m'⟩) := _root_.id rfl
noncomputable def fnD (f nt : Nat) (all rest : List Oper) (d : Option Tmp) (m : Mem) (tm : List (Nat × A)) (g : A) (args : List A) : Option (List Ent × Option (A × Mem) × St) :=
  match g with
  | .fn h caps => callD C f nt all rest d m tm (evCall C h (args ++ caps) m)
  | _ => none
@[simp ↓] theorem fnD_fn (h : FuncId) (caps args : List A) : fnD C f nt all rest d m tm (.fn h caps) args = callD C f nt all rest d m tm (evCall C h (args ++ caps) m) := _root_.id rfl
@[simp] theorem opD_call (g : Operand) (args : Array Operand) (tys : Array TypeId) : opD C f nt all rest d (.call { callee := .value g, args := args, argTypes := tys }) ⟨tm, m⟩ = fnD C f nt all rest d m tm (opd C.gl tm g) (args.toList.map (opd C.gl tm)) := by
  simp only [opD, fnD]
  cases opd C.gl tm g <;> rfl
@[simp] theorem opD_move (x : Operand) : opD C f nt all rest d (.move x) ⟨tm, m⟩ = consD ⟨.pure, opd C.gl tm x, m⟩ (evDraw C f nt all rest ⟨put d (opd C.gl tm x) tm, m⟩) := _root_.id rfl
@[simp] theorem opD_assign (x : Operand) : opD C f nt all rest d (.assign x) ⟨tm, m⟩ = consD ⟨.pure, opd C.gl tm x, m⟩ (evDraw C f nt all rest ⟨put d (opd C.gl tm x) tm, m⟩) := _root_.id rfl
@[simp] theorem opD_pick (c a b : Operand) : opD C f nt all rest d (.pick c a b) ⟨tm, m⟩ = stepD C f nt all rest d .pure m tm ((pickA (opd C.gl tm c) (opd C.gl tm a) (opd C.gl tm b)).map (·, m)) := _root_.id rfl
@[simp] theorem opD_alloc (e : TypeId) : opD C f nt all rest d (.alloc e) ⟨tm, m⟩ = stepD C f nt all rest d .eff m tm ((zeroOf C.P e).bind fun z => some (.ptr m.bx.length 0, ⟨m.bx ++ [z], m.rw⟩)) := _root_.id rfl
@[simp] theorem opD_box (e : TypeId) (x : Operand) : opD C f nt all rest d (.box e x) ⟨tm, m⟩ = stepD C f nt all rest d .eff m tm (if okPart (opd C.gl tm x) then some (.ptr m.bx.length 0, ⟨m.bx ++ [(opd C.gl tm x).cells], m.rw⟩) else none) := _root_.id rfl
@[simp] theorem opD_build (t : TypeId) (ps : Array (Nat × Operand)) : opD C f nt all rest d (.build t ps) ⟨tm, m⟩ = stepD C f nt all rest d .pure m tm ((buildA C.P t (ps.toList.map fun p => (p.1, opd C.gl tm p.2))).map (·, m)) := _root_.id rfl
@[simp] theorem opD_buildSlice (t : TypeId) (n : Nat) (ps : Array (Nat × Operand)) : opD C f nt all rest d (.buildSlice t n ps) ⟨tm, m⟩ = stepD C f nt all rest d .pure m tm ((buildSliceA C.P t n (ps.toList.map fun p => (p.1, opd C.gl tm p.2))).map (·, m)) := _root_.id rfl
@[simp] theorem opD_load (t : TypeId) (a : Operand) : opD C f nt all rest d (.load t a) ⟨tm, m⟩ = stepD C f nt all rest d (.load t (opd C.gl tm a)) m tm ((loadA C.P t (opd C.gl tm a) m).map (·, m)) := _root_.id rfl
@[simp] theorem opD_store (t : TypeId) (a x : Operand) : opD C f nt all rest d (.store t a x) ⟨tm, m⟩ = stepD C f nt all rest d .eff m tm ((storeA C.P t (opd C.gl tm a) (opd C.gl tm x) m).map (.tup [], ·)) := _root_.id rfl
@[simp] theorem opD_nilCheck (x : Operand) : opD C f nt all rest d (.nilCheck x) ⟨tm, m⟩ = stepD C f nt all rest d .pure m tm ((nilA (opd C.gl tm x)).map (·, m)) := _root_.id rfl
@[simp] theorem opD_binOp (o : BinOp) (t u : TypeId) (x y : Operand) : opD C f nt all rest d (.binOp o t x y u) ⟨tm, m⟩ = stepD C f nt all rest d .pure m tm ((binA C.P o t (isConst x || isConst y) (opd C.gl tm x) (opd C.gl tm y)).map (·, m)) := _root_.id rfl
@[simp] theorem opD_unOp (o : UnOp) (t : TypeId) (x : Operand) : opD C f nt all rest d (.unOp o t x) ⟨tm, m⟩ = stepD C f nt all rest d .pure m tm ((unA o (opd C.gl tm x)).map (·, m)) := _root_.id rfl
@[simp] theorem opD_convert (t u : TypeId) (x : Operand) : opD C f nt all rest d (.convert t u x) ⟨tm, m⟩ = stepD C f nt all rest d .pure m tm ((match convA C.P t u (opd C.gl tm x) with | some a => some a | none => bytesA C.P t u (opd C.gl tm x)).map (·, m)) := _root_.id rfl
@[simp] theorem opD_fieldAddr (t : TypeId) (x : Operand) (i : Nat) : opD C f nt all rest d (.fieldAddr t x i) ⟨tm, m⟩ = stepD C f nt all rest d .pure m tm ((fieldAddrA C.P t (opd C.gl tm x) i).map (·, m)) := _root_.id rfl
@[simp] theorem opD_field (t : TypeId) (x : Operand) (i : Nat) : opD C f nt all rest d (.field t x i) ⟨tm, m⟩ = stepD C f nt all rest d .pure m tm ((fieldA C.P t (opd C.gl tm x) i).map (·, m)) := _root_.id rfl
@[simp] theorem opD_indexAddr (t : TypeId) (x i : Operand) : opD C f nt all rest d (.indexAddr t x i) ⟨tm, m⟩ = stepD C f nt all rest d .pure m tm ((indexAddrA C.P t (opd C.gl tm x) (opd C.gl tm i)).map (·, m)) := _root_.id rfl
@[simp] theorem opD_index (t : TypeId) (x i : Operand) : opD C f nt all rest d (.index t x i) ⟨tm, m⟩ = stepD C f nt all rest d .pure m tm ((indexA C.P t (opd C.gl tm x) (opd C.gl tm i)).map (·, m)) := _root_.id rfl
@[simp] theorem opD_extract (x : Operand) (i : Nat) : opD C f nt all rest d (.extract x i) ⟨tm, m⟩ = stepD C f nt all rest d .pure m tm ((extractA (opd C.gl tm x) i).map (·, m)) := _root_.id rfl
@[simp] theorem opD_makeInterface (t : TypeId) (x : Operand) : opD C f nt all rest d (.makeInterface t x) ⟨tm, m⟩ = stepD C f nt all rest d .pure m tm (if ifcT C.P t then none else some (.ifc t (opd C.gl tm x), m)) := by
  simp only [opD, opA, stepD, kindA, isEff]
  rfl
@[simp] theorem opD_slice (t : TypeId) (x : Operand) (lo hi mx : Option Operand) : opD C f nt all rest d (.slice t x lo hi mx) ⟨tm, m⟩ = stepD C f nt all rest d .pure m tm ((if sliceable C.P t then sliceA C.P t (opd C.gl tm x) (lo.map (opd C.gl tm)) (hi.map (opd C.gl tm)) (mx.map (opd C.gl tm)) else if lo.isNone && hi.isNone && mx.isNone then slarrA C.P t (opd C.gl tm x) else none).map (·, m)) := _root_.id rfl
@[simp] theorem opD_append (xs : Array Operand) (ts : Array TypeId) : opD C f nt all rest d (.call { callee := .builtin .append, args := xs, argTypes := ts }) ⟨tm, m⟩ = stepD C f nt all rest d .eff m tm (builtinA C.P .append ts.toList (xs.toList.map (opd C.gl tm)) m) := _root_.id rfl
@[simp] theorem opD_len (xs : Array Operand) (ts : Array TypeId) : opD C f nt all rest d (.call { callee := .builtin .len, args := xs, argTypes := ts }) ⟨tm, m⟩ = stepD C f nt all rest d .pure m tm (builtinA C.P .len ts.toList (xs.toList.map (opd C.gl tm)) m) := _root_.id rfl
end
@[simp] theorem disjA_pr (n k i o j v q : Nat) : disjA n k (.ptr i o) (.rptr j v q) = True := _root_.id rfl
@[simp] theorem disjA_rp (n k i o j v q : Nat) : disjA n k (.rptr j v q) (.ptr i o) = True := _root_.id rfl
@[simp] theorem disjA_pp (n k i o j q : Nat) : disjA n k (.ptr i o) (.ptr j q) = (i ≠ j ∨ o + n ≤ q ∨ q + k ≤ o) := _root_.id rfl
@[simp] theorem disjA_rr (n k i v o j u q : Nat) : disjA n k (.rptr i v o) (.rptr j u q) = (i ≠ j ∨ o + n ≤ q ∨ q + k ≤ o) := _root_.id rfl
attribute [simp] evOps_cons wantA_some argsTm headId endRound_L endRound_S evDraw_cons drawEnd chkNeed kindS isEff lateNeed lateAddr
end AE
end Go.Proofs.YtmfdpijmholedaaGreatDoor
