/- Values of functors as trees. -/
import Derived.Test.YthoomlenmgdebaaGreatDoorATF
set_option linter.unusedVariables false
set_option linter.unusedSimpArgs false
namespace Go.Proofs.YthoomlenmgdebaaGreatDoor
namespace AE
open Go

/-- A value. -/
inductive Val where
  | mk (n : Int) (args : List Val) (ws : List Int)

namespace Val
def num : Val → Int | .mk n _ _ => n
def args : Val → List Val | .mk _ l _ => l
def ws : Val → List Int | .mk _ _ w => w
@[simp] theorem num_mk (n : Int) (l : List Val) (w : List Int) : (Val.mk n l w).num = n := rfl
@[simp] theorem args_mk (n : Int) (l : List Val) (w : List Int) : (Val.mk n l w).args = l := rfl
@[simp] theorem ws_mk (n : Int) (l : List Val) (w : List Int) : (Val.mk n l w).ws = w := rfl
theorem eta (f : Val) : f = .mk f.num f.args f.ws := by cases f; rfl

mutual
/-- How many nodes. -/
def nodes : Val → Nat
  | .mk _ l _ => 1 + nodesL l
def nodesL : List Val → Nat
  | [] => 0
  | f :: r => f.nodes + nodesL r
end
theorem nodes_eq (f : Val) : f.nodes = 1 + nodesL f.args := by cases f; rw [nodes]; rfl
theorem nodes_pos (f : Val) : 0 < f.nodes := by rw [nodes_eq]; omega
theorem nodes_mem : ∀ {l : List Val} {f : Val}, f ∈ l → f.nodes ≤ nodesL l
  | g :: r, f, h => by
    rw [nodesL]
    rcases List.mem_cons.1 h with rfl | h
    · omega
    · have := nodes_mem h; omega
theorem nodes_arg {f g : Val} (h : g ∈ f.args) : g.nodes < f.nodes := by
  have := nodes_mem h
  rw [nodes_eq f]
  omega
theorem length_nodesL : ∀ l : List Val, l.length ≤ nodesL l
  | [] => Nat.le_refl _
  | f :: r => by rw [nodesL]; have := length_nodesL r; have := nodes_pos f; simp; omega
theorem length_args (f : Val) : f.args.length < f.nodes := by rw [nodes_eq]; have := length_nodesL f.args; omega
theorem nodesL_drop {l : List Val} {i : Nat} (h : i < l.length) : nodesL (l.drop i) = l[i].nodes + nodesL (l.drop (i + 1)) := by rw [List.drop_eq_getElem_cons h, nodesL]

mutual
def cells : Val → List A
  | .mk n l w => [.int .i64 n, .isl false l.length (cellsL l), .isl false w.length (ints w)]
def cellsL : List Val → List A
  | [] => []
  | f :: r => f.cells ++ cellsL r
end
theorem cells_eq (f : Val) : f.cells = [.int .i64 f.num, .isl false f.args.length (cellsL f.args), .isl false f.ws.length (ints f.ws)] := by cases f; rw [cells]; rfl
@[simp] theorem cells_length (f : Val) : f.cells.length = 3 := by rw [cells_eq]; rfl
@[simp] theorem cellsL_nil : cellsL [] = [] := by rw [cellsL]
@[simp] theorem cellsL_length : ∀ l : List Val, (cellsL l).length = l.length * 3
  | [] => rfl
  | f :: r => by rw [cellsL, List.length_append, cellsL_length r, cells_length, List.length_cons]; omega
theorem cellsL_append : ∀ l r : List Val, cellsL (l ++ r) = cellsL l ++ cellsL r
  | [], r => by simp
  | f :: l, r => by rw [List.cons_append, cellsL, cellsL, cellsL_append l r, List.append_assoc]
theorem at_cellsL : ∀ (l : List Val) (i : Nat) (h : i < l.length), ((cellsL l).drop (i * 3)).take 3 = (l[i]).cells
  | f :: r, 0, _ => by rw [cellsL]; simp [List.take_append]
  | f :: r, i + 1, h => by
    rw [cellsL]
    have := at_cellsL r i (by simpa using h)
    rw [show (i + 1) * 3 = f.cells.length + i * 3 by simp; omega, ← List.drop_drop, List.drop_left]
    simpa using this
mutual
theorem er_cells (nb nr : Nat) (g) : ∀ f : Val, f.cells.map (er1 nb nr g) = f.cells
  | .mk n l w => by rw [cells]; simp [er_cellsL nb nr g l]
theorem er_cellsL (nb nr : Nat) (g) : ∀ l : List Val, (cellsL l).map (er1 nb nr g) = cellsL l
  | [] => by rw [cellsL]; rfl
  | f :: r => by rw [cellsL, List.map_append, er_cells nb nr g f, er_cellsL nb nr g r]
end
mutual
theorem closed_cells (nb nr : Nat) : ∀ f : Val, f.cells.all (closed nb nr) = true
  | .mk n l w => by rw [cells]; simp [closed_cellsL nb nr l]
theorem closed_cellsL (nb nr : Nat) : ∀ l : List Val, (cellsL l).all (closed nb nr) = true
  | [] => by rw [cellsL]; rfl
  | f :: r => by rw [cellsL, List.all_append, closed_cells nb nr f, closed_cellsL nb nr r]; rfl
end
theorem flat_cellsL : ∀ l : List Val, (cellsL l).all flat = true
  | [] => by rw [cellsL]; rfl
  | f :: r => by rw [cellsL, List.all_append, cells_eq, flat_cellsL r]; rfl
theorem cellsL_snoc {l : List Val} {i : Nat} (h : i < l.length) : cellsL (l.take (i + 1)) = cellsL (l.take i) ++ (l[i]).cells := by
  rw [List.take_succ_eq_append_getElem h, cellsL_append, cellsL, cellsL_nil, List.append_nil]
end Val
attribute [simp] Val.cells_eq Val.er_cellsL Val.closed_cellsL Val.flat_cellsL
@[simp] theorem Val.at_cellsL' (l : List Val) (i : Nat) (h : i < l.length) : ((Val.cellsL l).drop (i * 3)).take 3 = (l[i]).cells := Val.at_cellsL l i h
end AE
end Go.Proofs.YthoomlenmgdebaaGreatDoor
