/- Functors as trees. -/
import Derived.Test.YthoomlenmgdebaaGreatDoorAE4
set_option linter.unusedVariables false
set_option linter.unusedSimpArgs false
namespace Go.Proofs.YthoomlenmgdebaaGreatDoor
namespace AE
open Go

/-- Numbers as cells. -/
def ints (ks : List Int) : List A := ks.map (.int .i64)
@[simp] theorem ints_length (ks : List Int) : (ints ks).length = ks.length := by simp [ints]
theorem ints_at {ks : List Int} {i : Nat} (h : i < ks.length) : ((ints ks).drop i).take 1 = [.int .i64 ks[i]] := by
  unfold ints
  rw [List.drop_eq_getElem_cons (by simpa using h)]
  simp
@[simp] theorem closed_ints (nb nr : Nat) (ks : List Int) : (ints ks).all (closed nb nr) = true := by simp [ints]
@[simp] theorem er_ints (nb nr : Nat) (g) (ks : List Int) : (ints ks).map (er1 nb nr g) = ints ks := by
  unfold ints
  rw [List.map_map]
  exact List.map_congr_left fun x _ => rfl
@[simp] theorem flat_ints (ks : List Int) : (ints ks).all flat = true := by simp [ints, flat]
theorem ints_append (a b : List Int) : ints (a ++ b) = ints a ++ ints b := by simp [ints]
@[simp] theorem ints_nil : ints [] = [] := rfl
@[simp] theorem take_ints (ks : List Int) : (ints ks).take ks.length = ints ks := List.take_of_length_le (by simp)
theorem flat_mem_ints (ks : List Int) : (∀ x, x ∈ ints ks → flat x = true) = True := eq_true (List.all_eq_true.1 (flat_ints ks))

/-- A functor. -/
inductive Fun where
  | mk (kind n : Int) (args : List Fun)

namespace Fun
def kind : Fun → Int | .mk k _ _ => k
def num : Fun → Int | .mk _ n _ => n
def args : Fun → List Fun | .mk _ _ l => l
@[simp] theorem kind_mk (k n : Int) (l : List Fun) : (Fun.mk k n l).kind = k := rfl
@[simp] theorem num_mk (k n : Int) (l : List Fun) : (Fun.mk k n l).num = n := rfl
@[simp] theorem args_mk (k n : Int) (l : List Fun) : (Fun.mk k n l).args = l := rfl
theorem eta (f : Fun) : f = .mk f.kind f.num f.args := by cases f; rfl

mutual
/-- How many nodes. -/
def nodes : Fun → Nat
  | .mk _ _ l => 1 + nodesL l
def nodesL : List Fun → Nat
  | [] => 0
  | f :: r => f.nodes + nodesL r
end
theorem nodes_eq (f : Fun) : f.nodes = 1 + nodesL f.args := by cases f; rw [nodes]; rfl
theorem nodes_pos (f : Fun) : 0 < f.nodes := by rw [nodes_eq]; omega
theorem nodes_mem : ∀ {l : List Fun} {f : Fun}, f ∈ l → f.nodes ≤ nodesL l
  | g :: r, f, h => by
    rw [nodesL]
    rcases List.mem_cons.1 h with rfl | h
    · omega
    · have := nodes_mem h; omega
theorem nodes_arg {f g : Fun} (h : g ∈ f.args) : g.nodes < f.nodes := by
  have := nodes_mem h
  rw [nodes_eq f]
  omega
theorem length_nodesL : ∀ l : List Fun, l.length ≤ nodesL l
  | [] => Nat.le_refl _
  | f :: r => by rw [nodesL]; have := length_nodesL r; have := nodes_pos f; simp; omega
theorem length_args (f : Fun) : f.args.length < f.nodes := by rw [nodes_eq]; have := length_nodesL f.args; omega

mutual
def cells : Fun → List A
  | .mk k n l => [.int .i64 k, .int .i64 n, .isl false l.length (cellsL l)]
def cellsL : List Fun → List A
  | [] => []
  | f :: r => f.cells ++ cellsL r
end
theorem cells_eq (f : Fun) : f.cells = [.int .i64 f.kind, .int .i64 f.num, .isl false f.args.length (cellsL f.args)] := by cases f; rw [cells]; rfl
@[simp] theorem cells_length (f : Fun) : f.cells.length = 3 := by rw [cells_eq]; rfl
@[simp] theorem cellsL_nil : cellsL [] = [] := by rw [cellsL]
@[simp] theorem cellsL_length : ∀ l : List Fun, (cellsL l).length = l.length * 3
  | [] => rfl
  | f :: r => by rw [cellsL, List.length_append, cellsL_length r, cells_length, List.length_cons]; omega
theorem cellsL_append : ∀ l r : List Fun, cellsL (l ++ r) = cellsL l ++ cellsL r
  | [], r => by simp
  | f :: l, r => by rw [List.cons_append, cellsL, cellsL, cellsL_append l r, List.append_assoc]
theorem at_cellsL : ∀ (l : List Fun) (i : Nat) (h : i < l.length), ((cellsL l).drop (i * 3)).take 3 = (l[i]).cells
  | f :: r, 0, _ => by rw [cellsL]; simp [List.take_append]
  | f :: r, i + 1, h => by
    rw [cellsL]
    have := at_cellsL r i (by simpa using h)
    rw [show (i + 1) * 3 = f.cells.length + i * 3 by simp; omega, ← List.drop_drop, List.drop_left]
    simpa using this
mutual
theorem er_cells (nb nr : Nat) (g) : ∀ f : Fun, f.cells.map (er1 nb nr g) = f.cells
  | .mk k n l => by rw [cells]; simp [er_cellsL nb nr g l]
theorem er_cellsL (nb nr : Nat) (g) : ∀ l : List Fun, (cellsL l).map (er1 nb nr g) = cellsL l
  | [] => by rw [cellsL]; rfl
  | f :: r => by rw [cellsL, List.map_append, er_cells nb nr g f, er_cellsL nb nr g r]
end
mutual
theorem closed_cells (nb nr : Nat) : ∀ f : Fun, f.cells.all (closed nb nr) = true
  | .mk k n l => by rw [cells]; simp [closed_cellsL nb nr l]
theorem closed_cellsL (nb nr : Nat) : ∀ l : List Fun, (cellsL l).all (closed nb nr) = true
  | [] => by rw [cellsL]; rfl
  | f :: r => by rw [cellsL, List.all_append, closed_cells nb nr f, closed_cellsL nb nr r]; rfl
end
theorem flat_cellsL : ∀ l : List Fun, (cellsL l).all flat = true
  | [] => by rw [cellsL]; rfl
  | f :: r => by rw [cellsL, List.all_append, cells_eq, flat_cellsL r]; rfl
end Fun
attribute [simp] Fun.cells_eq Fun.er_cellsL Fun.closed_cellsL Fun.flat_cellsL
@[simp] theorem Fun.at_cellsL' (l : List Fun) (i : Nat) (h : i < l.length) : ((Fun.cellsL l).drop (i * 3)).take 3 = (l[i]).cells := Fun.at_cellsL l i h

theorem wrap_id (n : Int) (h : -9223372036854775808 ≤ n ∧ n ≤ 9223372036854775807) : IntKind.i64.wrap n = n := IntWalk.i64_in n h
end AE
end Go.Proofs.YthoomlenmgdebaaGreatDoor
