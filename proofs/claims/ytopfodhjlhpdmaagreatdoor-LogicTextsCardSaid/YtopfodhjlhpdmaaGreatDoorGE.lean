/- Functors as trees. -/
import Derived.Test.YtopfodhjlhpdmaaGreatDoorAE4
import Derived.Test.YtopfodhjlhpdmaaGreatDoorGC
import Derived.Sort.Grow
import Derived.Lib.SlicesCompact
import Derived.Shelf.SlSortCmp.WholeK
import Derived.Lib.AtoiAll
import Derived.Lib.ItoaNum
import Derived.Lib.Bytealg
import Derived.Test.YtopfodhjlhpdmaaGreatDoorTY
import Derived.Test.YtopfodhjlhpdmaaGreatDoorGD
set_option linter.unusedVariables false
set_option linter.unusedSimpArgs false
namespace Go.Proofs.YtopfodhjlhpdmaaGreatDoor
namespace AE
open Go
def ints (ks : List Int) : List A := ks.map (.int .i64)
@[simp] theorem ints_length (ks : List Int) : (ints ks).length = ks.length := by simp [ints]
theorem ints_at {ks : List Int} {i : Nat} (h : i < ks.length) : ((ints ks).drop i).take 1 = [.int .i64 ks[i]] := by
  unfold ints
  rw [List.drop_eq_getElem_cons (by simpa using h)]
  simp
@[simp] theorem closed_ints (nb nr : Nat) (ks : List Int) : (ints ks).all (closed nb nr) = true := by simp [ints]
@[simp] theorem er_ints (nb nr : Nat) (g) (ks : List Int) : (ints ks).map (er1 nb nr g) = ints ks := by
  unfold ints
  rw [List.map_map]
  exact List.map_congr_left fun x _ => rfl
@[simp] theorem flat_ints (ks : List Int) : (ints ks).all flat = true := by simp [ints, flat]
@[simp] theorem ints_nil : ints [] = [] := rfl
@[simp] theorem take_ints (ks : List Int) : (ints ks).take ks.length = ints ks := List.take_of_length_le (by simp)
inductive Fun where
  | mk (kind n : Int) (args : List Fun)
namespace Fun
def kind : Fun → Int | .mk k _ _ => k
def num : Fun → Int | .mk _ n _ => n
def args : Fun → List Fun | .mk _ _ l => l
@[simp] theorem kind_mk (k n : Int) (l : List Fun) : (Fun.mk k n l).kind = k := rfl
@[simp] theorem num_mk (k n : Int) (l : List Fun) : (Fun.mk k n l).num = n := rfl
@[simp] theorem args_mk (k n : Int) (l : List Fun) : (Fun.mk k n l).args = l := rfl
mutual
def nodes : Fun → Nat
  | .mk _ _ l => 1 + nodesL l
def nodesL : List Fun → Nat
  | [] => 0
  | f :: r => f.nodes + nodesL r
end
theorem nodes_eq (f : Fun) : f.nodes = 1 + nodesL f.args := by cases f; rw [nodes]; rfl
theorem nodes_pos (f : Fun) : 0 < f.nodes := by rw [nodes_eq]; omega
theorem nodes_mem : ∀ {l : List Fun} {f : Fun}, f ∈ l → f.nodes ≤ nodesL l
  | g :: r, f, h => by
    rw [nodesL]
    rcases List.mem_cons.1 h with rfl | h
    · omega
    · have := nodes_mem h; omega
theorem nodes_arg {f g : Fun} (h : g ∈ f.args) : g.nodes < f.nodes := by
  have := nodes_mem h
  rw [nodes_eq f]
  omega
theorem length_nodesL : ∀ l : List Fun, l.length ≤ nodesL l
  | [] => Nat.le_refl _
  | f :: r => by rw [nodesL]; have := length_nodesL r; have := nodes_pos f; simp; omega
theorem length_args (f : Fun) : f.args.length < f.nodes := by rw [nodes_eq]; have := length_nodesL f.args; omega
mutual
def cells : Fun → List A
  | .mk k n l => [.int .i64 k, .int .i64 n, .isl false l.length (cellsL l)]
def cellsL : List Fun → List A
  | [] => []
  | f :: r => f.cells ++ cellsL r
end
theorem cells_eq (f : Fun) : f.cells = [.int .i64 f.kind, .int .i64 f.num, .isl false f.args.length (cellsL f.args)] := by cases f; rw [cells]; rfl
@[simp] theorem cells_length (f : Fun) : f.cells.length = 3 := by rw [cells_eq]; rfl
@[simp] theorem cellsL_nil : cellsL [] = [] := by rw [cellsL]
@[simp] theorem cellsL_length : ∀ l : List Fun, (cellsL l).length = l.length * 3
  | [] => rfl
  | f :: r => by rw [cellsL, List.length_append, cellsL_length r, cells_length, List.length_cons]; omega
theorem at_cellsL : ∀ (l : List Fun) (i : Nat) (h : i < l.length), ((cellsL l).drop (i * 3)).take 3 = (l[i]).cells
  | f :: r, 0, _ => by rw [cellsL]; simp [List.take_append]
  | f :: r, i + 1, h => by
    rw [cellsL]
    have := at_cellsL r i (by simpa using h)
    rw [show (i + 1) * 3 = f.cells.length + i * 3 by simp; omega, ← List.drop_drop, List.drop_left]
    simpa using this
mutual
theorem er_cells (nb nr : Nat) (g) : ∀ f : Fun, f.cells.map (er1 nb nr g) = f.cells
  | .mk k n l => by rw [cells]; simp [er_cellsL nb nr g l]
theorem er_cellsL (nb nr : Nat) (g) : ∀ l : List Fun, (cellsL l).map (er1 nb nr g) = cellsL l
  | [] => by rw [cellsL]; rfl
  | f :: r => by rw [cellsL, List.map_append, er_cells nb nr g f, er_cellsL nb nr g r]
end
mutual
theorem closed_cells (nb nr : Nat) : ∀ f : Fun, f.cells.all (closed nb nr) = true
  | .mk k n l => by rw [cells]; simp [closed_cellsL nb nr l]
theorem closed_cellsL (nb nr : Nat) : ∀ l : List Fun, (cellsL l).all (closed nb nr) = true
  | [] => by rw [cellsL]; rfl
  | f :: r => by rw [cellsL, List.all_append, closed_cells nb nr f, closed_cellsL nb nr r]; rfl
end
theorem flat_cellsL : ∀ l : List Fun, (cellsL l).all flat = true
  | [] => by rw [cellsL]; rfl
  | f :: r => by rw [cellsL, List.all_append, cells_eq, flat_cellsL r]; rfl
end Fun
attribute [simp] Fun.cells_eq Fun.er_cellsL Fun.closed_cellsL Fun.flat_cellsL
@[simp] theorem Fun.at_cellsL' (l : List Fun) (i : Nat) (h : i < l.length) : ((Fun.cellsL l).drop (i * 3)).take 3 = (l[i]).cells := Fun.at_cellsL l i h
theorem wrap_id (n : Int) (h : -9223372036854775808 ≤ n ∧ n ≤ 9223372036854775807) : IntKind.i64.wrap n = n := IntWalk.i64_in n h
inductive Val where
  | mk (n : Int) (args : List Val) (ws : List Int)
namespace Val
def num : Val → Int | .mk n _ _ => n
def args : Val → List Val | .mk _ l _ => l
def ws : Val → List Int | .mk _ _ w => w
@[simp] theorem num_mk (n : Int) (l : List Val) (w : List Int) : (Val.mk n l w).num = n := rfl
@[simp] theorem args_mk (n : Int) (l : List Val) (w : List Int) : (Val.mk n l w).args = l := rfl
@[simp] theorem ws_mk (n : Int) (l : List Val) (w : List Int) : (Val.mk n l w).ws = w := rfl
mutual
def nodes : Val → Nat
  | .mk _ l _ => 1 + nodesL l
def nodesL : List Val → Nat
  | [] => 0
  | f :: r => f.nodes + nodesL r
end
theorem nodes_eq (f : Val) : f.nodes = 1 + nodesL f.args := by cases f; rw [nodes]; rfl
theorem nodes_pos (f : Val) : 0 < f.nodes := by rw [nodes_eq]; omega
theorem nodes_mem : ∀ {l : List Val} {f : Val}, f ∈ l → f.nodes ≤ nodesL l
  | g :: r, f, h => by
    rw [nodesL]
    rcases List.mem_cons.1 h with rfl | h
    · omega
    · have := nodes_mem h; omega
theorem nodes_arg {f g : Val} (h : g ∈ f.args) : g.nodes < f.nodes := by
  have := nodes_mem h
  rw [nodes_eq f]
  omega
theorem length_nodesL : ∀ l : List Val, l.length ≤ nodesL l
  | [] => Nat.le_refl _
  | f :: r => by rw [nodesL]; have := length_nodesL r; have := nodes_pos f; simp; omega
theorem length_args (f : Val) : f.args.length < f.nodes := by rw [nodes_eq]; have := length_nodesL f.args; omega
theorem nodesL_drop {l : List Val} {i : Nat} (h : i < l.length) : nodesL (l.drop i) = l[i].nodes + nodesL (l.drop (i + 1)) := by rw [List.drop_eq_getElem_cons h, nodesL]
mutual
def cells : Val → List A
  | .mk n l w => [.int .i64 n, .isl false l.length (cellsL l), .isl false w.length (ints w)]
def cellsL : List Val → List A
  | [] => []
  | f :: r => f.cells ++ cellsL r
end
theorem cells_eq (f : Val) : f.cells = [.int .i64 f.num, .isl false f.args.length (cellsL f.args), .isl false f.ws.length (ints f.ws)] := by cases f; rw [cells]; rfl
@[simp] theorem cells_length (f : Val) : f.cells.length = 3 := by rw [cells_eq]; rfl
@[simp] theorem cellsL_nil : cellsL [] = [] := by rw [cellsL]
@[simp] theorem cellsL_length : ∀ l : List Val, (cellsL l).length = l.length * 3
  | [] => rfl
  | f :: r => by rw [cellsL, List.length_append, cellsL_length r, cells_length, List.length_cons]; omega
theorem at_cellsL : ∀ (l : List Val) (i : Nat) (h : i < l.length), ((cellsL l).drop (i * 3)).take 3 = (l[i]).cells
  | f :: r, 0, _ => by rw [cellsL]; simp [List.take_append]
  | f :: r, i + 1, h => by
    rw [cellsL]
    have := at_cellsL r i (by simpa using h)
    rw [show (i + 1) * 3 = f.cells.length + i * 3 by simp; omega, ← List.drop_drop, List.drop_left]
    simpa using this
mutual
theorem er_cells (nb nr : Nat) (g) : ∀ f : Val, f.cells.map (er1 nb nr g) = f.cells
  | .mk n l w => by rw [cells]; simp [er_cellsL nb nr g l]
theorem er_cellsL (nb nr : Nat) (g) : ∀ l : List Val, (cellsL l).map (er1 nb nr g) = cellsL l
  | [] => by rw [cellsL]; rfl
  | f :: r => by rw [cellsL, List.map_append, er_cells nb nr g f, er_cellsL nb nr g r]
end
mutual
theorem closed_cells (nb nr : Nat) : ∀ f : Val, f.cells.all (closed nb nr) = true
  | .mk n l w => by rw [cells]; simp [closed_cellsL nb nr l]
theorem closed_cellsL (nb nr : Nat) : ∀ l : List Val, (cellsL l).all (closed nb nr) = true
  | [] => by rw [cellsL]; rfl
  | f :: r => by rw [cellsL, List.all_append, closed_cells nb nr f, closed_cellsL nb nr r]; rfl
end
theorem flat_cellsL : ∀ l : List Val, (cellsL l).all flat = true
  | [] => by rw [cellsL]; rfl
  | f :: r => by rw [cellsL, List.all_append, cells_eq, flat_cellsL r]; rfl
end Val
attribute [simp] Val.cells_eq Val.er_cellsL Val.closed_cellsL Val.flat_cellsL
@[simp] theorem Val.at_cellsL' (l : List Val) (i : Nat) (h : i < l.length) : ((Val.cellsL l).drop (i * 3)).take 3 = (l[i]).cells := Val.at_cellsL l i h
end AE
end Go.Proofs.YtopfodhjlhpdmaaGreatDoor
/- A row of numbers that the library writes anew. -/
set_option linter.unusedVariables false
set_option linter.unusedSimpArgs false
namespace Go.Proofs.YtopfodhjlhpdmaaGreatDoor
namespace AE
open Go Go.RowKit Go.Sort
section
variable {P : Program} {gl : Nat → A} {w0 : World} {g : Gh} {m : Mem} {w w' : World}
theorem sr_above (hs : SR P gl w0 g m w) (hbel : Below w.heap.size w w') (hd : w.drawn ≤ w'.drawn) : SR P gl w0 g m w' ∧ Ext w g w' g := by
  have hcell : ∀ k o, k < w.heap.size → w'.cell? ⟨k, o, none⟩ = w.cell? ⟨k, o, none⟩ := fun k o hk => hbel.cell (p := ⟨k, o, none⟩) hk
  have hext : Ext w g w' g := ⟨⟨fun k o hF => ⟨hF, hcell k o (hs.lim k o hF)⟩, Nat.le_refl _, fun _ _ => rfl, fun i L h => ⟨L, h, Nat.le_refl _, fun _ => ⟨rfl, rfl, rfl⟩, rfl⟩⟩, fun b hb hl => ⟨hbel.block b hb, hl⟩, hbel.size⟩
  refine ⟨?_, hext⟩
  exact {
    below := hs.below.trans (hbel.mono hs.szB)
    nb := hs.nb
    rl := hs.rl
    es := hs.es
    bx := fun i cs hi => by
      obtain ⟨us, t, h1, h2⟩ := hs.bx i cs hi
      refine ⟨us, t, ?_, h2.mono hext⟩
      rw [hbel.block _ (Array.getElem?_eq_some_iff.1 h1).1]
      exact h1
    rw := fun i r hi => by
      obtain ⟨us, ss, rest, h1, h2, h3, h4⟩ := hs.rw i r hi
      refine ⟨us, ss, rest, ?_, h2, h3, h4.mono hext⟩
      rw [hbel.block _ (Array.getElem?_eq_some_iff.1 h1).1]
      exact h1
    ownb := hs.ownb
    ownr := hs.ownr
    injb := hs.injb
    injr := hs.injr
    dis := hs.dis
    lim := fun b o hF => Nat.lt_of_lt_of_le (hs.lim b o hF) hbel.size
    gl := fun n => (hs.gl n).mono hext
    dr := fun hf => Nat.le_trans (hs.dr hf) hd
    tb := hs.tb }
theorem mapBlock_setRow {blk : Nat} {c : Array Value} {e : TypeId} {fr : Nat × Nat} (h : w.heap[blk]? = some (.cells c e fr)) (f : Array Value → Array Value) : mapBlock w blk f = w.setRow blk (f c) := by
  rw [mapBlock_congr w blk f (fun _ => f c) fun c' e' fr' h' => by rw [h] at h'; cases h'; rfl]
  unfold mapBlock World.setRow
  congr 1
end
def unInts : List A → Option (List Int)
  | [] => some []
  | .int .i64 n :: r => (unInts r).map (n :: ·)
  | _ => none
@[simp] theorem unInts_ints : ∀ zs : List Int, unInts (ints zs) = some zs
  | [] => rfl
  | z :: r => by
    show (unInts (ints r)).map (z :: ·) = _
    rw [unInts_ints r]
    rfl
end AE
end Go.Proofs.YtopfodhjlhpdmaaGreatDoor
/- A row of elements that the library sorts by a function of the program. -/
set_option linter.unusedVariables false
set_option linter.unusedSimpArgs false
namespace Go.Proofs.YtopfodhjlhpdmaaGreatDoor
namespace AE
open Go Go.RowKit Go.Sort Go.Shelf Go.Lib
section
variable {P : Program} {gl : Nat → A} {w0 : World} {g : Gh} {m : Mem} {w w' : World}
theorem putCells_id {vs : List Value} {us : Array Value} {ss rest : List Value} (h : us.toList = ss ++ rest) (hl : ss.length = vs.length) : (putCells id 0 vs.toArray us).toList = vs ++ rest := by
  apply List.ext_getElem?
  intro k
  have hk : us[k]? = (ss ++ rest)[k]? := by rw [← h, Array.getElem?_toList]
  unfold putCells
  rw [Array.getElem?_toList, Array.getElem?_mapIdx, hk]
  simp only [List.size_toArray, Nat.zero_add, Nat.zero_le, true_and, Nat.sub_zero]
  rw [List.getElem?_append, List.getElem?_append, hl]
  by_cases h1 : k < vs.length
  · rw [if_pos h1, if_pos h1, List.getElem?_eq_getElem (by omega), List.getElem?_eq_getElem h1]
    simp [h1]
  · rw [if_neg h1, if_neg h1]
    simp [h1]
theorem put_cells (hs : SR P gl w0 g m w) {i : Nat} {t : TypeId} {cs cs' : List A} {vs : List Value} (hi : m.rw[i]? = some ⟨t, cs⟩) (h0 : g.sh i = 0) (hl : cs'.length = cs.length) (hv : VRs w g cs' vs) (n : Nat) (os : Array Obj) :
    ∃ g', SR P gl w0 g' ⟨m.bx, m.rw.set i ⟨t, cs'⟩⟩ (grow (putRow id (Sort.ahead w n) (g.br i) 0 vs.toArray) os) ∧ Ext w g (grow (putRow id (Sort.ahead w n) (g.br i) 0 vs.toArray) os) g' ∧ g'.br = g.br ∧ g'.cz = g.cz ∧ g'.es = g.es ∧ g'.rl[i]? = some cs'.length ∧ g'.sh i = 0 := by
  obtain ⟨us, ss, rest, h1, h2, h3, h4⟩ := hs.rw i _ hi
  rw [h0, List.drop_zero] at h3
  have e1 : RowKit.Below w.heap.size w (Sort.ahead w n) := ⟨rfl, rfl, rfl, Nat.le_refl _, fun _ _ => rfl⟩
  obtain ⟨s1, x1⟩ := sr_above hs e1 (Nat.le_add_right _ _)
  have h1' : (Sort.ahead w n).heap[g.br i]? = some (.cells us t (0, 0)) := h1
  have hput : putRow id (Sort.ahead w n) (g.br i) 0 vs.toArray = (Sort.ahead w n).setRow (g.br i) (putCells id 0 vs.toArray us) := mapBlock_setRow h1' _
  have hvl := hv.length
  have hsl := h4.length
  obtain ⟨g', s2, x2, hb, hc, he, hr, hsh⟩ := s1.setRow (cs := cs') (us := putCells id 0 vs.toArray us) (ss := vs) (rest := rest) hi (by simp only; omega) (by rw [← h2]; simp [putCells]) (by rw [h0, List.drop_zero]; exact putCells_id h3 (by simp only at hsl; omega)) (hv.mono x1)
  rw [← hput] at s2 x2
  have e3 : RowKit.Below (putRow id (Sort.ahead w n) (g.br i) 0 vs.toArray).heap.size (putRow id (Sort.ahead w n) (g.br i) 0 vs.toArray) (grow (putRow id (Sort.ahead w n) (g.br i) 0 vs.toArray) os) :=
    ⟨rfl, rfl, rfl, by rw [size_grow]; omega, fun k hk => heap_grow_old _ _ hk⟩
  obtain ⟨s3, x3⟩ := sr_above s2 e3 (Nat.le_refl _)
  exact ⟨g', s3, (x1.trans x2).trans x3, hb, hc, he, hr, by rw [hsh]; exact h0⟩
def chunk {β : Type} (k n : Nat) (cs : List β) (i : Nat) : List β := (cs.drop (k * min i (n - 1))).take k
theorem chunk_length {β : Type} {k n : Nat} {cs : List β} (hl : cs.length = n * k) (hn : 0 < n) (i : Nat) : (chunk k n cs i).length = k := by
  unfold chunk
  rw [List.length_take, List.length_drop, hl]
  have h1 : min i (n - 1) + 1 ≤ n := by omega
  have h2 := Nat.mul_le_mul_right k h1
  rw [Nat.add_mul, Nat.mul_comm (min i (n - 1)) k] at h2
  omega
theorem flat_at {α β : Type} {k : Nat} (hk : 0 < k) {f : α → List β} (hf : ∀ x, (f x).length = k) : ∀ (l : List α) (j : Nat), (l.map f).flatten[j]? = (l[j / k]?).bind fun x => (f x)[j % k]?
  | [], j => by simp
  | x :: r, j => by
    rw [List.map_cons, List.flatten_cons, List.getElem?_append, hf x]
    by_cases h : j < k
    · rw [if_pos h, Nat.div_eq_of_lt h, Nat.mod_eq_of_lt h]
      rfl
    · rw [if_neg h, flat_at hk hf r (j - k)]
      have h1 : j / k = (j - k) / k + 1 := by rw [← Nat.add_div_right _ hk]; congr 1; omega
      have h2 : j % k = (j - k) % k := by rw [← Nat.add_mod_right (j - k) k]; congr 1; omega
      rw [h1, h2]
      rfl
theorem VRs_chunk {k n : Nat} {cs : List A} {us : List Value} (h : VRs w g cs us) (i : Nat) : VRs w g (chunk k n cs i) (chunk k n us i) := (h.drop _).take _
theorem VRs_flatten {cs us : Nat → List _} (h : ∀ i, VRs w g (cs i) (us i)) : ∀ l : List Nat, VRs w g (l.map cs).flatten (l.map us).flatten
  | [] => VRs.mk_nil
  | x :: r => by
    rw [List.map_cons, List.map_cons, List.flatten_cons, List.flatten_cons]
    exact VRs.append (h x) (VRs_flatten h r)
theorem flatK_list {enc : Nat → List Value} {k : Nat} (hk : 0 < k) (he : ∀ x, (enc x).length = k) (d : Array Nat) : (flatK enc k d).toList = (d.toList.map enc).flatten := by
  apply List.ext_getElem?
  intro t
  rw [flat_at hk he, Array.getElem?_toList]
  by_cases ht : t < d.size * k
  · have h1 : t / k < d.size := by
      rw [Nat.div_lt_iff_lt_mul hk]
      exact ht
    have ht' : t < (flatK enc k d).size := by simpa using ht
    have e0 : d.toList[t / k]? = some d[t / k] := by rw [Array.getElem?_toList]; exact getElem?_pos d (t / k) h1
    have e1 : (flatK enc k d)[t]? = some (flatK enc k d)[t]! := by rw [Array.getElem?_eq_getElem ht', getElem!_pos (flatK enc k d) t ht']
    have e2 : t % k < (enc d[t / k]).length := by rw [he]; exact Nat.mod_lt _ hk
    rw [e0, Option.bind_some, e1, get_flatK _ _ _ _ ht, show d[t / k]! = d[t / k] from getElem!_pos d (t / k) h1, List.getElem?_eq_getElem e2, getElem!_pos (enc d[t / k]) (t % k) e2]
  · have h1 : ¬ t / k < d.size := by
      rw [Nat.div_lt_iff_lt_mul hk]
      exact ht
    have e0 : d.toList[t / k]? = none := by rw [Array.getElem?_toList]; exact Array.getElem?_eq_none (by omega)
    have e1 : (flatK enc k d)[t]? = none := Array.getElem?_eq_none (by rw [size_flatK]; omega)
    rw [e0, e1]
    rfl
theorem flat_id {β : Type} {k : Nat} : ∀ (n : Nat) (cs : List β), cs.length = n * k → ((List.range n).map fun i => (cs.drop (k * i)).take k).flatten = cs
  | 0, cs, h => by
    have : cs = [] := List.eq_nil_of_length_eq_zero (by omega)
    subst this
    rfl
  | n + 1, cs, h => by
    rw [List.range_succ, List.map_append, List.flatten_append]
    have h1 : (cs.take (n * k)).length = n * k := by rw [List.length_take, h, Nat.add_mul]; omega
    have h2 := flat_id n (cs.take (n * k)) h1
    have h3 : ((List.range n).map fun i => (cs.drop (k * i)).take k) = ((List.range n).map fun i => ((cs.take (n * k)).drop (k * i)).take k) := by
      apply List.map_congr_left
      intro i hi
      have hi'' : i < n := by simpa using hi
      have hi' : i + 1 ≤ n := hi''
      have h4 := Nat.mul_le_mul_right k hi'
      rw [Nat.add_mul, Nat.mul_comm i k] at h4
      rw [List.drop_take, List.take_take, Nat.min_eq_left (by omega)]
    rw [h3, h2]
    simp only [List.map_cons, List.map_nil, List.flatten_cons, List.flatten_nil, List.append_nil]
    rw [Nat.mul_comm k n, List.take_of_length_le (i := k) (by rw [List.length_drop, h, Nat.add_mul]; omega), List.take_append_drop]
theorem chunks_id {β : Type} {k n : Nat} {cs : List β} (h : cs.length = n * k) : ((List.range n).map (chunk k n cs)).flatten = cs := by
  rw [← flat_id n cs h]
  congr 1
  apply List.map_congr_left
  intro i hi
  have hi' : i < n := by simpa using hi
  unfold chunk
  rw [Nat.min_eq_left (by omega), flat_id n cs h]
end
noncomputable def sortN (n : Nat) (cf : Nat → Nat → Int) : List Nat := (pdq (ltOf cf) (Array.range n) 0 n (Lib.bitLen n) true true).toList
section
variable {P : Program} {gl : Nat → A} {w0 : World} {g : Gh} {m : Mem} {w w' : World}
theorem world_grown {W w' : World} (h : RowKit.Below W.heap.size W w') (hd : W.drawn ≤ w'.drawn) : ∃ q os', w' = grow (W.drewN q) os' := by
  refine ⟨w'.drawn - W.drawn, w'.heap.extract W.heap.size w'.heap.size, ?_⟩
  have hh : w'.heap = W.heap ++ w'.heap.extract W.heap.size w'.heap.size := by
    apply Array.ext_getElem?
    intro i
    rw [Array.getElem?_append]
    by_cases hi : i < W.heap.size
    · rw [if_pos hi, h.block i hi]
    · rw [if_neg hi, Array.getElem?_extract]
      have := h.size
      by_cases hj : i < w'.heap.size
      · rw [if_pos (by omega)]
        congr 1
        omega
      · rw [if_neg (by omega), Array.getElem?_eq_none (by omega)]
  cases w' with
  | mk heap tape drawn os output =>
    unfold grow World.drewN
    simp only at hh hd ⊢
    have h1 : os = W.os := h.os
    have h2 : tape = W.tape := h.tape
    have h3 : output = W.output := h.output
    rw [← hh, h1, h2, h3]
    congr 1
    omega
def gTop (g : Gh) (w : World) : Gh := { g with F := fun k _ => k < w.heap.size, nb := 0, rl := [] }
theorem fresh_vr (hs : SR P gl w0 g m w) {a : A} {v : Value} (hc : closed 0 0 a = true) (hv : VR w g a v) : VR w (gTop g w) a v := by
  have h1 := VR.cut (nb := 0) (nr := 0) _ _ hc hv
  refine VR.monoB (⟨fun k o hF => ⟨?_, rfl⟩, Nat.zero_le _, fun i hi => ?_, fun i L hL => ?_⟩ : ExtB w (cutG g 0 0) w _) _ _ h1
  · rcases hF with hF | ⟨id, L, _, h2, rfl, _⟩
    · exact hs.lim k o hF
    · exact hs.br_lt (List.getElem?_eq_some_iff.1 h2).1
  · exact absurd hi (by simp [cutG])
  · simp [cutG] at hL
theorem fresh_sr (gl' : Nat → A) (hgl : ∀ n, VR w (gTop g w) (gl' n) (.pointer (some ⟨n, 0, none⟩))) (htb : gl' 1000000009 = .undef) : SR P gl' w (gTop g w) ⟨[], []⟩ w := {
  below := Below.refl _ _
  nb := rfl
  rl := rfl
  es := fun i r h => by simp at h
  bx := fun i r h => by simp at h
  rw := fun i r h => by simp at h
  ownb := fun i h => by simp [gTop] at h
  ownr := fun i h => by simp [gTop] at h
  injb := fun i j h => by simp [gTop] at h
  injr := fun i j h => by simp [gTop] at h
  dis := fun i j h => by simp [gTop] at h
  lim := fun b o h => h
  gl := hgl
  dr := fun _ => Nat.le_refl _
  tb := fun h => by rw [htb] at h; cases h }
def glD (n : Nat) : A := if n = 1000000007 then .rp [] else .undef
theorem glD_vr (n : Nat) : VR w g (glD n) (.pointer (some ⟨n, 0, none⟩)) := by
  unfold glD
  split
  · rw [VR]
    exact ⟨n, 0, [], rfl, VRs.mk_nil, fun j u hj => by simp at hj⟩
  · rw [VR]; trivial
end
end AE
end Go.Proofs.YtopfodhjlhpdmaaGreatDoor
/- The order of values: plain laws. -/
set_option linter.unusedVariables false
set_option linter.unusedSimpArgs false
namespace Go.Proofs.YtopfodhjlhpdmaaGreatDoor
namespace AE
open Go
def numC (a b : Int) : Int := if a < b then -1 else if b < a then 1 else 0
def lexI : List Int → List Int → Int
  | [], [] => 0
  | [], _ :: _ => -1
  | _ :: _, [] => 1
  | x :: r, y :: q => if numC x y = 0 then lexI r q else numC x y
mutual
def cmpV : Val → Val → Int
  | .mk n l w, .mk n' l' w' => if numC n n' = 0 then (if cmpL l l' = 0 then lexI w w' else cmpL l l') else numC n n'
def cmpL : List Val → List Val → Int
  | [], [] => 0
  | [], _ :: _ => -1
  | _ :: _, [] => 1
  | x :: r, y :: q => if cmpV x y = 0 then cmpL r q else cmpV x y
end
theorem cmpV_eq (u v : Val) : cmpV u v = if numC u.num v.num = 0 then (if cmpL u.args v.args = 0 then lexI u.ws v.ws else cmpL u.args v.args) else numC u.num v.num := by cases u; cases v; rw [cmpV]; rfl
theorem numC_range (a b : Int) : -1 ≤ numC a b ∧ numC a b ≤ 1 := by
  unfold numC
  repeat' split
  all_goals omega
theorem numC_zero {a b : Int} : numC a b = 0 ↔ a = b := by
  unfold numC
  repeat' split
  all_goals omega
theorem numC_anti (a b : Int) : numC b a = - numC a b := by
  unfold numC
  repeat' split
  all_goals omega
theorem numC_trans {a b c : Int} (h : numC a b ≤ 0) (k : numC b c ≤ 0) : numC a c ≤ 0 := by
  unfold numC at *
  repeat' split at h
  all_goals repeat' split at k
  all_goals repeat' split
  all_goals omega
theorem lexI_zero : ∀ l r : List Int, lexI l r = 0 ↔ l = r
  | [], [] => by simp [lexI]
  | [], _ :: _ => by simp [lexI]
  | _ :: _, [] => by simp [lexI]
  | x :: r, y :: q => by
    rw [lexI, List.cons.injEq]
    by_cases h : numC x y = 0
    · rw [if_pos h, lexI_zero r q]
      simp [numC_zero.1 h]
    · rw [if_neg h]
      exact ⟨fun e => absurd e h, fun e => absurd (numC_zero.2 e.1) h⟩
theorem lexI_anti : ∀ l r : List Int, lexI r l = - lexI l r
  | [], [] => by simp [lexI]
  | [], _ :: _ => by simp [lexI]
  | _ :: _, [] => by simp [lexI]
  | x :: r, y :: q => by
    rw [lexI, lexI, numC_anti x y, lexI_anti r q]
    by_cases h : numC x y = 0
    · rw [if_pos h, if_pos (by omega)]
    · rw [if_neg h, if_neg (by omega)]
theorem lexI_trans : ∀ {l r s : List Int}, lexI l r ≤ 0 → lexI r s ≤ 0 → lexI l s ≤ 0
  | [], _, [], _, _ => by rw [lexI]; omega
  | [], _, _ :: _, _, _ => by rw [lexI]; omega
  | _ :: _, [], s, h, _ => by rw [lexI] at h; omega
  | _ :: _, _ :: _, [], _, k => by rw [lexI] at k; omega
  | x :: r, y :: q, z :: s, h, k => by
    rw [lexI] at h k ⊢
    have a1 := numC_range x y
    have a2 := numC_range y z
    by_cases e1 : numC x y = 0
    · rw [if_pos e1] at h
      rw [numC_zero] at e1
      subst e1
      split
      · rename_i e2
        rw [if_pos e2] at k
        exact lexI_trans h k
      · rename_i e2
        rw [if_neg e2] at k
        exact k
    · rw [if_neg e1] at h
      by_cases e2 : numC y z = 0
      · rw [numC_zero] at e2
        subst e2
        rw [if_neg e1]
        exact h
      · rw [if_neg e2] at k
        have h3 := numC_trans h k
        by_cases e3 : numC x z = 0
        · exfalso
          rw [numC_zero] at e3
          subst e3
          have := numC_anti x y
          omega
        · rw [if_neg e3]
          exact h3
mutual
theorem cmpV_zero : ∀ u v : Val, cmpV u v = 0 ↔ u = v
  | .mk n l w, .mk n' l' w' => by
    rw [cmpV, Val.mk.injEq]
    by_cases h : numC n n' = 0
    · rw [if_pos h]
      by_cases h2 : cmpL l l' = 0
      · rw [if_pos h2, lexI_zero w w']
        simp [numC_zero.1 h, (cmpL_zero l l').1 h2]
      · rw [if_neg h2]
        exact ⟨fun e => absurd e h2, fun e => absurd ((cmpL_zero l l').2 e.2.1) h2⟩
    · rw [if_neg h]
      exact ⟨fun e => absurd e h, fun e => absurd (numC_zero.2 e.1) h⟩
theorem cmpL_zero : ∀ l r : List Val, cmpL l r = 0 ↔ l = r
  | [], [] => by simp [cmpL]
  | [], _ :: _ => by simp [cmpL]
  | _ :: _, [] => by simp [cmpL]
  | x :: r, y :: q => by
    rw [cmpL, List.cons.injEq]
    by_cases h : cmpV x y = 0
    · rw [if_pos h, cmpL_zero r q]
      simp [(cmpV_zero x y).1 h]
    · rw [if_neg h]
      exact ⟨fun e => absurd e h, fun e => absurd ((cmpV_zero x y).2 e.1) h⟩
end
mutual
theorem cmpV_anti : ∀ u v : Val, cmpV v u = - cmpV u v
  | .mk n l w, .mk n' l' w' => by
    rw [cmpV, cmpV, numC_anti n n', cmpL_anti l l', lexI_anti w w']
    by_cases h : numC n n' = 0
    · rw [if_pos h, if_pos (by omega)]
      by_cases h2 : cmpL l l' = 0
      · rw [if_pos h2, if_pos (by omega)]
      · rw [if_neg h2, if_neg (by omega)]
    · rw [if_neg h, if_neg (by omega)]
theorem cmpL_anti : ∀ l r : List Val, cmpL r l = - cmpL l r
  | [], [] => by simp [cmpL]
  | [], _ :: _ => by simp [cmpL]
  | _ :: _, [] => by simp [cmpL]
  | x :: r, y :: q => by
    rw [cmpL, cmpL, cmpV_anti x y, cmpL_anti r q]
    by_cases h : cmpV x y = 0
    · rw [if_pos h, if_pos (by omega)]
    · rw [if_neg h, if_neg (by omega)]
end
mutual
theorem cmpV_trans : ∀ {u v w : Val}, cmpV u v ≤ 0 → cmpV v w ≤ 0 → cmpV u w ≤ 0
  | .mk n l w, .mk n' l' w', .mk n'' l'' w'', h, k => by
    rw [cmpV] at h k ⊢
    by_cases e1 : numC n n' = 0
    · rw [if_pos e1] at h
      rw [numC_zero] at e1
      subst e1
      by_cases e2 : numC n n'' = 0
      · rw [if_pos e2] at k ⊢
        by_cases f1 : cmpL l l' = 0
        · rw [if_pos f1] at h
          rw [cmpL_zero] at f1
          subst f1
          by_cases f2 : cmpL l l'' = 0
          · rw [if_pos f2] at k ⊢
            exact lexI_trans h k
          · rw [if_neg f2] at k ⊢
            exact k
        · rw [if_neg f1] at h
          by_cases f2 : cmpL l' l'' = 0
          · rw [cmpL_zero] at f2
            subst f2
            rw [if_neg f1]
            exact h
          · rw [if_neg f2] at k
            have h3 := cmpL_trans h k
            by_cases f3 : cmpL l l'' = 0
            · exfalso
              rw [cmpL_zero] at f3
              subst f3
              have := cmpL_anti l l'
              omega
            · rw [if_neg f3]
              exact h3
      · rw [if_neg e2] at k ⊢
        exact k
    · rw [if_neg e1] at h
      by_cases e2 : numC n' n'' = 0
      · rw [numC_zero] at e2
        subst e2
        rw [if_neg e1]
        exact h
      · rw [if_neg e2] at k
        have h3 := numC_trans h k
        by_cases e3 : numC n n'' = 0
        · exfalso
          rw [numC_zero] at e3
          subst e3
          have := numC_anti n n'
          omega
        · rw [if_neg e3]
          exact h3
theorem cmpL_trans : ∀ {l r s : List Val}, cmpL l r ≤ 0 → cmpL r s ≤ 0 → cmpL l s ≤ 0
  | [], _, [], _, _ => by rw [cmpL]; omega
  | [], _, _ :: _, _, _ => by rw [cmpL]; omega
  | _ :: _, [], s, h, _ => by rw [cmpL] at h; omega
  | _ :: _, _ :: _, [], _, k => by rw [cmpL] at k; omega
  | x :: r, y :: q, z :: s, h, k => by
    rw [cmpL] at h k ⊢
    by_cases e1 : cmpV x y = 0
    · rw [if_pos e1] at h
      rw [cmpV_zero] at e1
      subst e1
      split
      · rename_i e2
        rw [if_pos e2] at k
        exact cmpL_trans h k
      · rename_i e2
        rw [if_neg e2] at k
        exact k
    · rw [if_neg e1] at h
      by_cases e2 : cmpV y z = 0
      · rw [cmpV_zero] at e2
        subst e2
        rw [if_neg e1]
        exact h
      · rw [if_neg e2] at k
        have h3 := cmpV_trans h k
        by_cases e3 : cmpV x z = 0
        · exfalso
          rw [cmpV_zero] at e3
          subst e3
          have := cmpV_anti x y
          omega
        · rw [if_neg e3]
          exact h3
end
theorem cmpV_self (u : Val) : cmpV u u = 0 := (cmpV_zero u u).2 rfl
theorem cmpL_drop {l r : List Val} {i : Nat} (h : i < l.length) (h' : i < r.length) : cmpL (l.drop i) (r.drop i) = if cmpV l[i] r[i] = 0 then cmpL (l.drop (i + 1)) (r.drop (i + 1)) else cmpV l[i] r[i] := by
  rw [List.drop_eq_getElem_cons h, List.drop_eq_getElem_cons h', cmpL]
theorem cmpL_long {l r : List Val} {i : Nat} (h : i < l.length) (h' : ¬ i < r.length) : cmpL (l.drop i) (r.drop i) = 1 := by
  rw [List.drop_eq_getElem_cons h, List.drop_eq_nil_of_le (show r.length ≤ i by omega), cmpL]
theorem cmpL_short {l r : List Val} {i : Nat} (h : ¬ i < l.length) (h' : i < r.length) : cmpL (l.drop i) (r.drop i) = -1 := by
  rw [List.drop_eq_nil_of_le (show l.length ≤ i by omega), List.drop_eq_getElem_cons h', cmpL]
theorem cmpL_end {l r : List Val} {i : Nat} (h : ¬ i < l.length) (h' : ¬ i < r.length) : cmpL (l.drop i) (r.drop i) = 0 := by
  rw [List.drop_eq_nil_of_le (show l.length ≤ i by omega), List.drop_eq_nil_of_le (show r.length ≤ i by omega), cmpL]
theorem lexI_drop {l r : List Int} {i : Nat} (h : i < l.length) (h' : i < r.length) : lexI (l.drop i) (r.drop i) = if numC l[i] r[i] = 0 then lexI (l.drop (i + 1)) (r.drop (i + 1)) else numC l[i] r[i] := by
  rw [List.drop_eq_getElem_cons h, List.drop_eq_getElem_cons h', lexI]
theorem lexI_long {l r : List Int} {i : Nat} (h : i < l.length) (h' : ¬ i < r.length) : lexI (l.drop i) (r.drop i) = 1 := by
  rw [List.drop_eq_getElem_cons h, List.drop_eq_nil_of_le (show r.length ≤ i by omega), lexI]
theorem lexI_short {l r : List Int} {i : Nat} (h : ¬ i < l.length) (h' : i < r.length) : lexI (l.drop i) (r.drop i) = -1 := by
  rw [List.drop_eq_nil_of_le (show l.length ≤ i by omega), List.drop_eq_getElem_cons h', lexI]
theorem lexI_end {l r : List Int} {i : Nat} (h : ¬ i < l.length) (h' : ¬ i < r.length) : lexI (l.drop i) (r.drop i) = 0 := by
  rw [List.drop_eq_nil_of_le (show l.length ≤ i by omega), List.drop_eq_nil_of_le (show r.length ≤ i by omega), lexI]
theorem cmpV_lt_trans {u v w : Val} (h : cmpV u v < 0) (k : cmpV v w < 0) : cmpV u w < 0 := by
  have h1 := cmpV_trans (u := u) (v := v) (w := w) (by omega) (by omega)
  by_cases h2 : cmpV u w = 0
  · rw [cmpV_zero] at h2
    subst h2
    have := cmpV_anti u v
    omega
  · omega
end AE
end Go.Proofs.YtopfodhjlhpdmaaGreatDoor
/- Elements with weights that the library sorts. -/
set_option linter.unusedVariables false
set_option linter.unusedSimpArgs false
namespace Go.Proofs.YtopfodhjlhpdmaaGreatDoor
namespace AE
open Go Go.RowKit Go.Sort Go.Shelf Go.Lib
mutual
def slimV : Val → Prop
  | .mk _ l w => w.length ≤ 1000000000 ∧ slimL l
def slimL : List Val → Prop
  | [] => True
  | f :: r => slimV f ∧ slimL r
end
theorem slimV_eq (f : Val) : slimV f = (f.ws.length ≤ 1000000000 ∧ slimL f.args) := by cases f; rw [slimV]; rfl
theorem slimL_mem : ∀ {l : List Val} {f : Val}, slimL l → f ∈ l → slimV f
  | g :: r, f, h, hm => by
    rw [slimL] at h
    rcases List.mem_cons.1 hm with rfl | hm
    · exact h.1
    · exact slimL_mem h.2 hm
def elemC (p : Val × Int) : List A := p.1.cells ++ [.int .i64 p.2]
@[simp] theorem elemC_length (p : Val × Int) : (elemC p).length = 4 := by unfold elemC; rw [List.length_append, Val.cells_length]; rfl
def elemsC (l : List (Val × Int)) : List A := (l.map elemC).flatten
theorem elemsC_length : ∀ l : List (Val × Int), (elemsC l).length = l.length * 4
  | [] => rfl
  | p :: r => by
    show (elemC p ++ elemsC r).length = _
    rw [List.length_append, elemC_length, elemsC_length r, List.length_cons]
    omega
theorem elemC_closed (p : Val × Int) : closed 0 0 (.agg (elemC p)) = true := by
  rw [closed]
  have h : (elemC p).all (closed 0 0) = true := by unfold elemC; rw [List.all_append, Val.closed_cells]; rfl
  have : ∀ cs : List A, cs.all (closed 0 0) = true → closed.closedL 0 0 cs = true := by
    intro cs
    induction cs with
    | nil => intro _; rw [closed.closedL]
    | cons a r ih => intro h; rw [List.all_cons, Bool.and_eq_true] at h; rw [closed.closedL, h.1, ih h.2]; rfl
  exact this _ h
def elAt (ps : List (Val × Int)) (i : Nat) : Val × Int := ps.getD (min i (ps.length - 1)) (.mk 0 [] [], 0)
def elCmp (ps : List (Val × Int)) (i j : Nat) : Int := cmpV (elAt ps i).1 (elAt ps j).1
noncomputable def sortP (ps : List (Val × Int)) : List (Val × Int) := (sortN ps.length (elCmp ps)).map (elAt ps)
theorem chunk_elem {ps : List (Val × Int)} (h : 0 < ps.length) (i : Nat) : chunk 4 ps.length (elemsC ps) i = elemC (elAt ps i) := by
  apply List.ext_getElem?
  intro j
  have hlt : min i (ps.length - 1) < ps.length := by omega
  have he : elAt ps i = ps[min i (ps.length - 1)] := by unfold elAt; rw [List.getD_eq_getElem?_getD, List.getElem?_eq_getElem hlt]; rfl
  unfold chunk
  by_cases hj : j < 4
  · rw [List.getElem?_take_of_lt hj, List.getElem?_drop]
    unfold elemsC
    rw [flat_at (by omega) elemC_length, Nat.mul_add_div (by omega), Nat.div_eq_of_lt hj, Nat.mul_add_mod, Nat.mod_eq_of_lt hj, Nat.add_zero, List.getElem?_eq_getElem hlt, he]
    rfl
  · rw [List.getElem?_eq_none (by rw [List.length_take]; omega), List.getElem?_eq_none (by rw [elemC_length]; omega)]
theorem el_swo (ps : List (Val × Int)) : SWO (ltOf (elCmp ps)) where
  irrefl x := by unfold ltOf elCmp; rw [cmpV_self]; rfl
  trans x y z h1 h2 := by
    unfold ltOf elCmp at *
    rw [decide_eq_true_eq] at *
    exact cmpV_lt_trans h1 h2
  ntrans x y z h1 h2 := by
    unfold ltOf elCmp at *
    rw [decide_eq_false_iff_not, Int.not_lt] at *
    have a1 := cmpV_anti (elAt ps x).1 (elAt ps y).1
    have a2 := cmpV_anti (elAt ps y).1 (elAt ps z).1
    have a3 := cmpV_anti (elAt ps x).1 (elAt ps z).1
    have := cmpV_trans (u := (elAt ps z).1) (v := (elAt ps y).1) (w := (elAt ps x).1) (by omega) (by omega)
    omega
end AE
end Go.Proofs.YtopfodhjlhpdmaaGreatDoor
/- slices.SortFunc at elements with weights, as an answer from outside. -/
set_option linter.unusedVariables false
set_option linter.unusedSimpArgs false
namespace Go.Proofs.YtopfodhjlhpdmaaGreatDoor
namespace AE
open Go Go.RowKit Go.Sort Go.Shelf Go.Lib
theorem sortN_perm (n : Nat) {cf : Nat → Nat → Int} (hO : SWO (ltOf cf)) : PermIn 0 n (Array.range n) (pdq (ltOf cf) (Array.range n) 0 n (Lib.bitLen n) true true) ∧ SortedIn (ltOf cf) 0 n (pdq (ltOf cf) (Array.range n) 0 n (Lib.bitLen n) true true) :=
  pdq_sorts (ltOf cf) hO (Array.range n) 0 n (Lib.bitLen n) true true (Nat.zero_le _) (by simp) (Or.inl rfl)
theorem sortN_size (n : Nat) {cf : Nat → Nat → Int} (hO : SWO (ltOf cf)) : (pdq (ltOf cf) (Array.range n) 0 n (Lib.bitLen n) true true).size = n := by
  have := (sortN_perm n hO).1.1
  rw [this, Array.size_range]
structure ElP (g g' : FuncId) (ver n : Nat) (cs : List A) (ps : List (Val × Int)) : Prop where
  cs : cs = elemsC ps
  fn : g' = g
  ver : ver = ps.length * 4
  len : n = ps.length
  pos : 0 < n
  lt : n < 4611686018427387904
  small : ∀ p, p ∈ ps → p.1.nodes ≤ 1000000000 ∧ slimV p.1
open Classical in
noncomputable def elPick (g g' : FuncId) (ver n : Nat) (cs : List A) : Option (List (Val × Int)) := if h : ∃ ps, ElP g g' ver n cs ps then some (Classical.choose h) else none
theorem elPick_ok {g g' : FuncId} {ver n : Nat} {cs : List A} {ps : List (Val × Int)} (h : elPick g g' ver n cs = some ps) : ElP g g' ver n cs ps := by
  unfold elPick at h
  split at h
  · rename_i hx
    have := Classical.choose_spec hx
    rw [Option.some.inj h] at this
    exact this
  · cases h
noncomputable def sortFG (g : FuncId) : List A → Mem → Option (Res × Mem)
  | [.nils, _], m => some (.ret (.tup []), m)
  | [.sl id ver 0 n, .fn g' []], m =>
    match m.rw[id]? with
    | some r => match elPick g g' ver n r.cs with
      | some ps => some (.ret (.tup []), ⟨m.bx, m.rw.set id ⟨r.el, elemsC (sortP ps)⟩⟩)
      | none => none
    | none => none
  | _, _ => none
section
variable {P : Program} {gl : Nat → A} {w0 : World} {g : Gh} {m : Mem} {w w' : World}
theorem holds_rowK (hs : SR P gl w0 g m w) {i n : Nat} {t : TypeId} {cs : List A} (hi : m.rw[i]? = some ⟨t, cs⟩) (h0 : g.sh i = 0) (hn : 0 < n) (hl : cs.length = n * 4) :
    ∃ us : List Value, VRs w g cs us ∧ us.length = n * 4 ∧ HoldsK (chunk 4 n us) 4 w (g.br i) 0 (Array.range n) ∧ g.br i < w.heap.size := by
  obtain ⟨us, ss, rest, h1, h2, h3, h4⟩ := hs.rw i _ hi
  rw [h0, List.drop_zero] at h3
  have hsl := h4.length
  have hss : ss.length = n * 4 := by rw [hsl]; exact hl
  refine ⟨ss, h4, hss, ?_, (Array.getElem?_eq_some_iff.1 h1).1⟩
  have hf : (flatK (chunk 4 n ss) 4 (Array.range n)).toList = ss := by
    rw [flatK_list (by omega) (fun x => chunk_length hss hn x), Array.toList_range, chunks_id hss]
  have hz : (flatK (chunk 4 n ss) 4 (Array.range n)).size = ss.length := by rw [size_flatK, Array.size_range, hss]
  intro j hj
  rw [hz] at hj
  constructor
  · have h5 : us[0 + j]? = some ss[j] := by
      rw [Nat.zero_add, ← Array.getElem?_toList, h3, List.getElem?_append_left hj, List.getElem?_eq_getElem hj]
    simp only [World.cell?, h1, h5]
    rw [getElem!_pos _ j (by omega), ← Array.getElem_toList]
    simp only [hf]
    rfl
  · simp [World.frozen?, h1]
theorem sortF_call {C C' : Cfg} {f gF : FuncId} (hP : C'.P = C.P) (hgl : C'.gl = glD) (hf : callable C.P f)
    (h0 : ∀ fv w, Calls C.P f #[.slice none 0 0, fv] w fun e w' => e = .returned (.tuple #[]) ∧ w' = w)
    (h1 : ∀ (enc : Nat → List Value) (cf : Nat → Nat → Int) (blk cap : Nat) (d : Array Nat) (w : World), (∀ x, (enc x).length = 4) → (∀ x, ∀ v ∈ enc x, v.oneCell' = true) → SWO (ltOf cf) → CmpLays C.P gF #[] enc 4 cf blk 0 d.size w → HoldsK enc 4 w blk 0 d → blk < w.heap.size → d.size < 4611686018427387904 →
      Calls C.P f #[.slice (some ⟨blk, 0, none⟩) d.size cap, .func (.func gF) #[] #[]] w fun e w' => e = .returned (.tuple #[]) ∧ ∃ n os, w' = sortWorldK enc 4 w blk 0 n (pdq (ltOf cf) d 0 d.size (Lib.bitLen d.size) true true) os)
    (hc : ∀ p q : Val × Int, p.1.nodes ≤ 1000000000 → slimV p.1 → CallOk C' gF [.agg (elemC p), .agg (elemC q)] ⟨[], []⟩ (.ret (.int .i64 (cmpV p.1 q.1)), ⟨[], []⟩))
    {args : List A} {m : Mem} {r : Res × Mem} (h : sortFG gF args m = some r) : CallOk C f args m r := by
  refine ⟨hf, fun w0 g w vals hs hv => ?_⟩
  unfold sortFG at h
  split at h
  · cases h
    rw [VRs] at hv
    obtain ⟨u, t, rfl, hu, ht⟩ := hv
    rw [VRs] at ht
    obtain ⟨u2, t2, rfl, hu2, ht2⟩ := ht
    rw [VRs] at ht2
    subst ht2
    rw [VR] at hu
    subst hu
    refine Calls.mono (h0 u2 w) ?_
    rintro e w' ⟨rfl, rfl⟩
    refine ⟨g, hs, Ext.refl _ _, ?_⟩
    show VR _ _ _ _
    rw [VR]
    exact ⟨[], rfl, VRs.mk_nil⟩
  · rename_i _ id ver n g'
    cases hr : m.rw[id]? with
    | none => rw [hr] at h; cases h
    | some row =>
      rw [hr] at h
      obtain ⟨el, cs⟩ := row
      simp only at h
      cases hpk : elPick gF g' ver n cs with
      | none => rw [hpk] at h; cases h
      | some ps =>
      rw [hpk] at h
      obtain ⟨rfl, rfl, rfl, rfl, hpos, hlt, hb⟩ := elPick_ok hpk
      cases h
      have hlen : (elemsC ps).length = ps.length * 4 := elemsC_length ps
      rw [VRs] at hv
      obtain ⟨u, t, rfl, hu, ht⟩ := hv
      rw [VRs] at ht
      obtain ⟨u2, t2, rfl, hu2, ht2⟩ := ht
      rw [VRs] at ht2
      subst ht2
      have hu' : VR w g (.sl id (elemsC ps).length 0 ps.length) u := by rw [hlen]; exact hu
      rw [VR] at hu2
      obtain ⟨bs, rfl, hbs⟩ := hu2
      rw [VRs] at hbs
      subst hbs
      have hL2 : g.rl[id]? = some (elemsC ps).length := by rw [hs.rl, List.getElem?_map, hr]; rfl
      obtain ⟨hsh, c, rfl, hc1, hc2⟩ := hu'.sl_zero hL2
      obtain ⟨us, hvs, hul, hH, hbr⟩ := holds_rowK hs hr hsh hpos hlen
      have hch : ∀ i, VRs w g (chunk 4 ps.length (elemsC ps) i) (chunk 4 ps.length us i) := fun i => VRs_chunk hvs i
      have hflat : ∀ (dk : Array Nat), (flatK (chunk 4 ps.length us) 4 dk) = ((dk.toList.map (chunk 4 ps.length us)).flatten).toArray := fun dk => by
        rw [← flatK_list (by omega) (fun x => chunk_length hul hpos x)]
      have hput : ∀ (dk : Array Nat) (k : Nat) (os : Array Obj), dk.size = ps.length → ∃ g', SR C.P C.gl w0 g' ⟨m.bx, m.rw.set id ⟨el, (dk.toList.map (chunk 4 ps.length (elemsC ps))).flatten⟩⟩ (sortWorldK (chunk 4 ps.length us) 4 w (g.br id) 0 k dk os) ∧ Ext w g (sortWorldK (chunk 4 ps.length us) 4 w (g.br id) 0 k dk os) g' := fun dk k os hd => by
        have hcl : (dk.toList.map (chunk 4 ps.length (elemsC ps))).flatten.length = (elemsC ps).length := by
          have : ∀ l : List Nat, (l.map (chunk 4 ps.length (elemsC ps))).flatten.length = l.length * 4 := by
            intro l
            induction l with
            | nil => rfl
            | cons x r ih => rw [List.map_cons, List.flatten_cons, List.length_append, ih, chunk_length hlen hpos, List.length_cons]; omega
          rw [this, Array.length_toList, hlen, hd]
        obtain ⟨g', s', x', _⟩ := put_cells hs hr hsh hcl (VRs_flatten hch dk.toList) k os
        refine ⟨g', ?_, ?_⟩
        · unfold sortWorldK putRowK
          rw [hflat dk]
          exact s'
        · unfold sortWorldK putRowK
          rw [hflat dk]
          exact x'
      have hone : ∀ x, ∀ v ∈ chunk 4 ps.length us x, v.oneCell' = true := fun x => by
        have h2 := hch x
        rw [chunk_elem hpos] at h2
        refine VRs.flats h2 ?_
        unfold elemC
        rw [Val.cells_eq]
        rfl
      have hcmp : CmpLays C.P g' #[] (chunk 4 ps.length us) 4 (elCmp ps) (g.br id) 0 (Array.range ps.length).size w := by
        intro k os dk hdk x y
        rw [Array.size_range] at hdk
        obtain ⟨g1, s1, x1⟩ := hput dk k os hdk
        generalize sortWorldK (chunk 4 ps.length us) 4 w (g.br id) 0 k dk os = W at s1 x1 ⊢
        have hel : ∀ z, VR W (gTop g1 W) (.agg (elemC (elAt ps z))) (.agg (chunk 4 ps.length us z).toArray) := fun z => by
          refine fresh_vr s1 (elemC_closed _) ?_
          rw [VR]
          refine ⟨_, rfl, ?_⟩
          have h2 := (hch z).mono x1
          rw [chunk_elem hpos] at h2
          exact h2
        have hmem : ∀ z, elAt ps z ∈ ps := fun z => by
          unfold elAt
          rw [List.getD_eq_getElem?_getD, List.getElem?_eq_getElem (by omega)]
          exact List.getElem_mem _
        have h3 := (hc (elAt ps x) (elAt ps y) (hb _ (hmem x)).1 (hb _ (hmem x)).2).2 W (gTop g1 W) W [.agg (chunk 4 ps.length us x).toArray, .agg (chunk 4 ps.length us y).toArray] (by
          rw [hgl]
          exact fresh_sr glD (fun n => glD_vr n) (if_neg (by decide))) (.mk_cons (hel x) (.mk_cons (hel y) VRs.mk_nil))
        rw [hP] at h3
        refine Calls.mono h3 ?_
        rintro e w' ⟨g2, s2, x2, hres⟩
        refine ⟨?_, ?_⟩
        · cases e with
          | returned v =>
            have h4 : VR w' g2 (.int .i64 (cmpV (elAt ps x).1 (elAt ps y).1)) v := hres
            rw [VR] at h4
            rw [h4]
            rfl
          | panicked c => exact absurd hres (by simp [ResR])
          | _ => exact absurd hres (by simp [ResR])
        · exact world_grown s2.below (s2.dr (by rw [hgl]; rfl))
      refine Calls.mono (h1 (chunk 4 ps.length us) (elCmp ps) (g.br id) c (Array.range ps.length) w (fun x => chunk_length hul hpos x) hone (el_swo ps) hcmp hH hbr (by rw [Array.size_range]; exact hlt) |> fun z => by simpa using z) ?_
      rintro e w' ⟨rfl, k, os, rfl⟩
      obtain ⟨g', s', x'⟩ := hput (pdq (ltOf (elCmp ps)) (Array.range ps.length) 0 ps.length (Lib.bitLen ps.length) true true) k os (sortN_size ps.length (el_swo ps))
      have hrow : ((pdq (ltOf (elCmp ps)) (Array.range ps.length) 0 ps.length (Lib.bitLen ps.length) true true).toList.map (chunk 4 ps.length (elemsC ps))).flatten = elemsC (sortP ps) := by
        have e1 : chunk 4 ps.length (elemsC ps) = fun i => elemC (elAt ps i) := funext fun i => chunk_elem hpos i
        rw [e1]
        unfold elemsC sortP sortN
        rw [List.map_map]
        rfl
      rw [hrow] at s'
      refine ⟨g', s', x', ?_⟩
      show VR _ _ _ _
      rw [VR]
      exact ⟨[], rfl, VRs.mk_nil⟩
  · cases h
end
end AE
end Go.Proofs.YtopfodhjlhpdmaaGreatDoor
/- The evaluator's configuration; the fixed calls are answered by their own proof. -/
set_option linter.unusedVariables false
set_option linter.unusedSimpArgs false
namespace Go.Proofs.YtopfodhjlhpdmaaGreatDoor
namespace AE
open Go
def formsT : List A := [(0, 0), (16, 0), (0, 2), (0, 2), (4, 1), (0, 1), (0, 1), (0, 1)].flatMap fun p : Int × Int => [.int .i64 p.1, .int .i64 p.2]
def rulesL : List (List UInt8 × Int × Int) := [([116, 111, 112], -1, 0), ([110, 111, 116], -1, 1), ([97, 110, 100], -1, 2), ([115, 116, 101, 112], -1, 1), ([97, 116], 0, 1), ([105, 115], 1, 0), ([102, 105, 114, 115, 116], 2, 1), ([115, 101, 99, 111, 110, 100], 2, 1), ([108, 101, 102, 116], 3, 1), ([114, 105, 103, 104, 116], 3, 1), ([105, 110, 112, 117, 116], 4, 1), ([115, 111, 109, 101], 5, 1), ([109, 97, 110, 121], 6, 1), ([115, 104, 97, 114, 101], 7, 1)]
def rulesT : List A := rulesL.flatMap fun p => [.str p.1, .int .i64 p.2.1, .int .i64 p.2.2]
def gl0 (n : Nat) : A := if n = 1 then .rp formsT else if n = 0 then .rp rulesT else if n = 5 then .rp [.ifc 265 .undef] else if n = 1000000009 then .rp [] else .undef
def awakeG : List A → Mem → Option (Res × Mem)
  | [], m => some (.ret (.bool true), m)
  | _, _ => none
def awakeF : FuncId := 9
def atoiG : List A → Mem → Option (Res × Mem)
  | [.str s], m => if s.length ≤ 1000000 then (match Lib.atoiAll s with
    | .ok v => some (.ret (.tup [.int .i64 v, .nili]), m)
    | .range => some (.ret (.tup [.int .i64 (Lib.atoiSat s), .ifc 227 .undef]), m)
    | _ => none) else none
  | _, _ => none
def itoaG : List A → Mem → Option (Res × Mem)
  | [.int .i64 n], m => if -9223372036854775808 ≤ n ∧ n ≤ 9223372036854775807 then some (.ret (.str (Lib.itoa n)), m) else none
  | _, _ => none
def itoaId : FuncId := 63
def atoiId : FuncId := 112
def sortFF : FuncId := 174
def cmpFF : FuncId := 175
def indexId : FuncId := 111
def indexG : List A → Mem → Option (Res × Mem)
  | [.str s, .int .u8 c], m => some (.ret (.int .i64 (Lib.indexByte s c.toNat.toUInt8)), m)
  | _, _ => none
noncomputable def ext0 (f : FuncId) : Option (List A → Mem → Option (Res × Mem)) :=
  if f = awakeF then some awakeG else if f = atoiId then some atoiG else if f = sortFF then some (sortFG cmpFF) else if f = itoaId then some itoaG else if f = indexId then some indexG else none
noncomputable def C0 : Cfg := { P := Tryz.prog, gl := gl0, ann := ann, ext := ext0 }
@[simp] theorem C0_P : C0.P = Tryz.prog := _root_.id rfl
@[simp] theorem C0_ann : C0.ann = ann := _root_.id rfl
@[simp] theorem C0_gl : C0.gl = gl0 := _root_.id rfl
theorem C0_ext (f : FuncId) (h : (f == awakeF || f == atoiId || f == sortFF || f == itoaId || f == indexId) = false) : C0.ext f = none := by
  simp only [Bool.or_eq_false_iff, beq_eq_false_iff_ne, ne_eq] at h
  show ext0 f = none
  unfold ext0
  rw [if_neg h.1.1.1.1, if_neg h.1.1.1.2, if_neg h.1.1.2, if_neg h.1.2, if_neg h.2]
theorem C0_awake : C0.ext awakeF = some awakeG := by
  show ext0 awakeF = _
  unfold ext0
  rw [if_pos rfl]
theorem C0_atoi : C0.ext atoiId = some atoiG := by
  show ext0 atoiId = _
  unfold ext0
  rw [if_neg (by decide), if_pos rfl]
theorem C0_sortF : C0.ext sortFF = some (sortFG cmpFF) := by
  show ext0 sortFF = _
  unfold ext0
  rw [if_neg (by decide), if_neg (by decide), if_pos rfl]
theorem C0_itoa : C0.ext itoaId = some itoaG := by
  show ext0 itoaId = _
  unfold ext0
  rw [if_neg (by decide), if_neg (by decide), if_neg (by decide), if_pos rfl]
theorem C0_index : C0.ext indexId = some indexG := by
  show ext0 indexId = _
  unfold ext0
  rw [if_neg (by decide), if_neg (by decide), if_neg (by decide), if_neg (by decide), if_pos rfl]
attribute [irreducible] C0
@[simp] theorem gl0_0 : gl0 1 = .rp formsT := rfl
@[simp] theorem gl0_1 : gl0 0 = .rp rulesT := rfl
theorem ev_awake (m : Mem) : evCall C0 9 [] m = some (.ret (.bool true), m) := by
  have h : C0.ext 9 = some awakeG := C0_awake
  rw [evCall, h]
  rfl
theorem ev_Itoa (n : Int) (h0 : -9223372036854775808 ≤ n) (h1 : n ≤ 9223372036854775807) (m : Mem) : evCall C0 63 [.int .i64 n] m = some (.ret (.str (Lib.itoa n)), m) := by
  have h : C0.ext 63 = some itoaG := C0_itoa
  rw [evCall, h]
  simp only [itoaG]
  rw [if_pos ⟨h0, h1⟩]
theorem ev_SLIndex (s : List UInt8) (c : UInt8) (m : Mem) : evCall C0 111 [.str s, .int .u8 c.toNat] m = some (.ret (.int .i64 (Lib.indexByte s c)), m) := by
  have h : C0.ext 111 = some indexG := C0_index
  rw [evCall, h]
  show indexG _ _ = _
  simp only [indexG]
  rw [show (c.toNat : Int).toNat.toUInt8 = c by rw [Int.toNat_natCast]; exact UInt8.ofNat_toNat]
end AE
end Go.Proofs.YtopfodhjlhpdmaaGreatDoor
/- IndexByte by contract: an answer of the evaluator. -/
set_option linter.unusedVariables false
set_option linter.unusedSimpArgs false
namespace Go.Proofs.YtopfodhjlhpdmaaGreatDoor
namespace AE
open Go Go.RowKit Go.Lib Go.Shelf
theorem index_ok {C : Cfg} (hP : C.P = Tryz.prog) {args : List A} {m : Mem} {r : Res × Mem} (h : indexG args m = some r) : CallOk C indexId args m r := by
  unfold CallOk
  rw [hP]
  refine ⟨⟨_, _, Tryz.func111, rfl, by decide⟩, fun w0 g w vals hs hv => ?_⟩
  unfold indexG at h
  split at h
  case h_2 => cases h
  case h_1 s c =>
  simp only [Option.some.injEq] at h
  subst h
  rw [VRs.cons_iff] at hv
  obtain ⟨u, t, rfl, h1, h2⟩ := hv
  rw [VRs.cons_iff] at h2
  obtain ⟨u2, t2, rfl, h3, h4⟩ := h2
  rw [VRs.nil_iff] at h4
  subst h4
  rw [VR] at h1
  rw [VR] at h3
  subst h1
  subst h3
  refine (Any.stringslite_IndexByte Tryz.lays217 ⟨s.toArray⟩ c w).mono ?_
  rintro e w' ⟨rfl, rfl⟩
  exact ⟨g, hs, Ext.refl _ _, by show VR w' g (.int .i64 _) _; rw [VR]⟩
end AE
end Go.Proofs.YtopfodhjlhpdmaaGreatDoor
/- The fixed calls, run by the kernel: system.Parse and system.String by their own runs. -/
set_option linter.unusedVariables false
set_option linter.unusedSimpArgs false
namespace Go.Proofs.YtopfodhjlhpdmaaGreatDoor
namespace AE
open Go Go.RowKit
def draws : Code → List (Nat × Array Oper)
  | .region id ops true => [(id, ops)]
  | .seq a b => draws a ++ draws b
  | .cond _ a b => draws a ++ draws b
  | .block _ b => draws b
  | .loop b => draws b
  | .rangeFunc _ _ a b => draws a ++ draws b
  | .scope b => draws b
  | _ => []
theorem draws_sub {id : Nat} {ops : Array Oper} : ∀ {c : Code}, Sub c (.region id ops true) → (id, ops) ∈ draws c
  | .seq a b, h => by
    rw [Sub] at h
    rcases h with h | h | h
    · cases h
    · rw [draws]; exact List.mem_append_left _ (draws_sub h)
    · rw [draws]; exact List.mem_append_right _ (draws_sub h)
  | .cond _ a b, h => by
    rw [Sub] at h
    rcases h with h | h | h
    · cases h
    · rw [draws]; exact List.mem_append_left _ (draws_sub h)
    · rw [draws]; exact List.mem_append_right _ (draws_sub h)
  | .block _ b, h => by
    rw [Sub] at h
    rcases h with h | h
    · cases h
    · rw [draws]; exact draws_sub h
  | .loop b, h => by
    rw [Sub] at h
    rcases h with h | h
    · cases h
    · rw [draws]; exact draws_sub h
  | .region i o d, h => by
    simp only [Sub] at h
    cases h
    rw [draws]
    exact List.mem_cons_self
  | .skip, h => by simp only [Sub] at h; cases h
  | .rangeFunc _ _ a b, h => by
    rw [Sub] at h
    rcases h with h | h | h
    · cases h
    · rw [draws]; exact List.mem_append_left _ (draws_sub h)
    · rw [draws]; exact List.mem_append_right _ (draws_sub h)
  | .exit _, h => by simp only [Sub] at h; cases h
  | .scope b, h => by
    rw [Sub] at h
    rcases h with h | h
    · cases h
    · rw [draws]; exact draws_sub h
  | .label _, h => by simp only [Sub] at h; cases h
  | .goto _, h => by simp only [Sub] at h; cases h
  | .ret, h => by simp only [Sub] at h; cases h
  | .refuse _, h => by simp only [Sub] at h; cases h
def dokFn (f : FuncId) (fn : Func) : Bool := match fn.body with
  | some b => (draws b).all fun p => !ann.dok f p.1 || drawOk p.2 (ann.draw f p.1)
  | none => true
def dokAll : Nat → List Func → Bool
  | _, [] => true
  | n, fn :: r => dokFn n fn && dokAll (n + 1) r
theorem dokAll_at : ∀ (l : List Func) (n i : Nat) (fn : Func), dokAll n l = true → l[i]? = some fn → dokFn (n + i) fn = true
  | fn :: r, n, 0, fn', h, hi => by
    rw [dokAll, Bool.and_eq_true] at h
    simp at hi
    subst hi
    exact h.1
  | fn :: r, n, i + 1, fn', h, hi => by
    rw [dokAll, Bool.and_eq_true] at h
    have := dokAll_at r (n + 1) i fn' h.2 (by simpa using hi)
    rwa [show n + 1 + i = n + (i + 1) by omega] at this
  | [], n, i, fn', h, hi => by simp at hi
theorem dok_prog : dokAll 0 Tryz.prog.funcs.toList = true := by kernel_rfl
theorem mixed_prog : Tryz.prog.follows .mixedOrders = true := by kernel_rfl
def extb (f : FuncId) : Option (List A → Mem → Option (Res × Mem)) := if f = indexId then some indexG else none
noncomputable def Cb : Cfg := { P := Tryz.prog, gl := gl0, ann := ann, ext := extb }
theorem okb : CfgOk Cb where
  gl := fun n => by
    show closed 0 0 (gl0 n) = true
    unfold gl0
    split
    · decide
    split
    · decide
    split
    · rfl
    split
    · rfl
    · rfl
  mixed := mixed_prog
  dok := by
    rintro f id ops ⟨fn, b, h1, h2, h3⟩ hd
    have h4 : Tryz.prog.funcs.toList[f]? = some fn := by rw [Array.getElem?_toList]; exact h1
    have h5 := dokAll_at _ 0 f fn dok_prog h4
    rw [Nat.zero_add, dokFn, h2] at h5
    have h6 := List.all_eq_true.1 h5 _ (draws_sub h3)
    have hd' : ann.dok f id = true := hd
    simp only [hd', Bool.not_true, Bool.false_or] at h6
    exact h6
  ext := fun f h he args m r hr => by
    have he' : extb f = some h := he
    unfold extb at he'
    split at he'
    · rename_i hf; cases he'; subst hf; exact index_ok rfl hr
    · cases he'
def bodyOf (f : Func) : Code := f.body.getD .skip
def sq1 : Code → Code | .seq a _ => a | c => c
def sq2 : Code → Code | .seq _ b => b | c => c
def inner : Code → Code | .block _ b => b | .loop b => b | c => c
def regOps : Code → Array Oper | .region _ ops _ => ops | _ => #[]
def regId : Code → Nat | .region id _ _ => id | _ => 0
def rfPs : Code → Array Tmp | .rangeFunc _ ps _ _ => ps | _ => #[]
def rfAssign : Code → Code | .rangeFunc _ _ a _ => a | c => c
def rfBody : Code → Code | .rangeFunc _ _ _ b => b | c => c
def parseF : FuncId := 34
def linesF : FuncId := 60
def iterF : FuncId := 97
noncomputable def pB : Code := bodyOf Tryz.f34
noncomputable def pB5 : Code := sq2 (sq2 (sq2 (sq2 (sq2 pB))))
noncomputable def pRF : Code := inner (sq2 (sq1 pB5))
noncomputable def lB : Code := bodyOf Tryz.f97
noncomputable def lL : Code := inner (inner (sq2 lB))
noncomputable def lIn : Code := inner (sq1 (sq2 lL))
noncomputable def pP : RF where
  R0 := sq1 pB
  c1 := sq1 (sq2 pB)
  R3 := sq1 (sq2 (sq2 pB))
  R4 := sq1 (sq2 (sq2 (sq2 pB)))
  R5 := sq1 (sq2 (sq2 (sq2 (sq2 pB))))
  post := sq2 pB5
  assign := rfAssign pRF
  body := rfBody pRF
  id6 := regId (sq1 (sq1 pB5))
  ops6 := regOps (sq1 (sq1 pB5))
  ps := rfPs pRF
  gf := linesF
  h := iterF
  hd := sq1 lL
  I0 := sq1 lB
  I3 := sq1 lIn
  I5 := sq2 (sq2 lIn)
  I2 := sq2 (sq2 lL)
  id4 := regId (sq1 (sq1 (sq2 lIn)))
  ops4 := regOps (sq1 (sq1 (sq2 lIn)))
theorem pP_code : Tryz.f34.body = some pP.code := by kernel_rfl
theorem pP_iter : Tryz.f97.body = some (.seq pP.I0 (.block 0 (.loop (.seq pP.hd (.seq (.block 1 (.seq pP.I3 (.seq (.seq (.region pP.id4 pP.ops4 false) (.cond (.tmp 25) .ret .skip)) pP.I5))) pP.I2))))) := by kernel_rfl
noncomputable def NN : Nat := 1000000
def exText : List UInt8 := [116, 121, 112, 101, 32, 50, 32, 42, 32, 68, 40, 88, 41, 10, 48, 32, 61, 32, 40, 48, 44, 32, 123, 49, 32, 58, 32, 49, 44, 32, 50, 32, 58, 32, 50, 125, 41, 10, 49, 32, 61, 32, 40, 49, 44, 32, 123, 49, 32, 58, 32, 49, 125, 41, 10, 50, 32, 61, 32, 40, 49, 44, 32, 123, 50, 32, 58, 32, 49, 125, 41, 10]
noncomputable def parseR (l : Nat) : Option (List Nat × (Ex × Mem) × A × Mem) := rangeA Tryz.prog ((evR Cb NN).code parseF 140) ((evR Cb NN).code iterF 27) ((evR Cb NN).call linesF) Tryz.f34.results.toList pP 1000 [.str exText] ⟨[], []⟩ l
def mkv (n : Int) (args : List (List A)) (ws : List Int) : List A := [.int .i64 n, .isl false args.length args.flatten, .isl false ws.length (ints ws)]
def mkf (k n : Int) (args : List (List A)) : List A := [.int .i64 k, .int .i64 n, .isl false args.length args.flatten]
def pV : A := .tup [.agg (mkf 2 0 [mkf 1 2 [], mkf 7 0 [mkf 0 0 []]] ++ [.isl false 3 (mkv 0 [mkv 0 [] [], mkv 0 [mkv 1 [] [], mkv 2 [] []] [1, 2]] [] ++ mkv 0 [mkv 1 [] [], mkv 0 [mkv 1 [] []] [1]] [] ++ mkv 0 [mkv 1 [] [], mkv 0 [mkv 2 [] []] [1]] [])]), .int .i64 0]
def isRes : Option (Res × Mem) → A → Bool
  | some (.ret a, ⟨[], []⟩), v => eqA a v
  | _, _ => false
theorem isRes_eq {x : Option (Res × Mem)} {v : A} (h : isRes x v = true) : x = some (.ret v, ⟨[], []⟩) := by
  unfold isRes at h
  split at h
  · rw [eqA_eq _ _ h]
  · cases h
set_option maxRecDepth 1000000 in
theorem parse_chk (l : Nat) : isRes ((parseR l).bind fun y => leaveB Tryz.prog ⟨[], []⟩ (.ret y.2.2.1) y.2.2.2) pV = true := by kernel_rfl
set_option maxRecDepth 1000000 in
theorem parse_ls (l : Nat) : (parseR l).map (·.1) = some [l, l, l, l] := by kernel_rfl
theorem parse_run : ∃ (x : Nat → Ex × Mem) (b : Nat → A) (m8 : Nat → Mem), (∀ l, parseR l = some ([l, l, l, l], x l, b l, m8 l)) ∧ ∀ l, leaveB Tryz.prog ⟨[], []⟩ (.ret (b l)) (m8 l) = some (.ret pV, ⟨[], []⟩) := by
  have h : ∀ l, ∃ y : (Ex × Mem) × A × Mem, parseR l = some ([l, l, l, l], y) ∧ leaveB Tryz.prog ⟨[], []⟩ (.ret y.2.1) y.2.2 = some (.ret pV, ⟨[], []⟩) := fun l => by
    have h1 := isRes_eq (parse_chk l)
    have h2 := parse_ls l
    obtain ⟨y, h3, h4⟩ := Option.bind_eq_some_iff.1 h1
    rw [h3] at h2
    simp only [Option.map_some, Option.some.injEq] at h2
    obtain ⟨y1, y2⟩ := y
    simp only at h2
    subst h2
    exact ⟨y2, h3, h4⟩
  obtain ⟨y, hy⟩ := Classical.axiomOfChoice h
  exact ⟨fun l => (y l).1, fun l => (y l).2.1, fun l => (y l).2.2, fun l => (hy l).1, fun l => (hy l).2⟩
set_option maxRecDepth 1000000 in
theorem pV_closed : closed 0 0 pV = true := by kernel_rfl
theorem yield4 : yieldOps pP.ops4 := ⟨_, _, _, _, _, _, _, _, _, _, _, _, _, _, _, _, _, rfl⟩
theorem call6 : ops6 pP.gf pP.ops6 := ⟨_, _, _, _, _, _, _, rfl⟩
theorem parse_ok (m : Mem) : CallOk Cb parseF [.str exText] m (.ret pV, m) := by
  obtain ⟨x, b, m8, h1, h2⟩ := parse_run
  exact frame_call okb.gl rfl pV_closed (rangeA_ok okb (f := parseF) (nt := 140) (nth := 27) (p := pP) (fun c s x h => (evR_ok okb NN).code _ _ _ _ _ h) (fun c s x h => (evR_ok okb NN).code _ _ _ _ _ h) (fun args m r h => (evR_ok okb NN).call _ _ _ _ h)
    Tryz.func34 pP_code rfl (by decide) (by decide) Tryz.func97 pP_iter rfl (by decide) rfl (by decide) yield4 call6 (by decide) rfl (args := [.str exText]) (by decide) (ls := fun l => [l, l, l, l]) h1 (fun l z hz => by simpa using hz) (fun l => leaveB_ok (h2 l))) m
def tblG (tbl : List (List A × A)) (args : List A) (m : Mem) : Option (Res × Mem) := (tbl.find? fun p => eqA (.tup args) (.tup p.1)).map fun p => (.ret p.2, m)
theorem tbl_ok {C : Cfg} {f : FuncId} {tbl : List (List A × A)} (ht : ∀ p ∈ tbl, ∀ m, CallOk C f p.1 m (.ret p.2, m)) {args : List A} {m : Mem} {r : Res × Mem} (h : tblG tbl args m = some r) : CallOk C f args m r := by
  obtain ⟨p, h1, rfl⟩ := Option.map_eq_some_iff.1 h
  have h2 := List.find?_some h1
  have h3 := eqA_eq _ _ h2
  simp only [A.tup.injEq] at h3
  rw [h3]
  exact ht p (List.mem_of_find?_eq_some h1) m
def parseT : List (List A × A) := [([.str exText], pV)]
noncomputable def extw (f : FuncId) : Option (List A → Mem → Option (Res × Mem)) :=
  if f = parseF then some (tblG parseT) else if f = indexId then some indexG else none
noncomputable def Cw : Cfg := { P := Tryz.prog, gl := gl0, ann := ann, ext := extw }
theorem okw : CfgOk Cw where
  gl := okb.gl
  mixed := mixed_prog
  dok := okb.dok
  ext := fun f h he args m r hr => by
    have he' : extw f = some h := he
    unfold extw at he'
    split at he'
    · rename_i hf
      cases he'
      subst hf
      refine tbl_ok (fun p hp m => ?_) hr
      simp only [parseT, List.mem_singleton] at hp
      subst hp
      exact parse_ok m
    split at he'
    · rename_i hf; cases he'; subst hf; exact index_ok rfl hr
    · cases he'
end AE
end Go.Proofs.YtopfodhjlhpdmaaGreatDoor
/- The fixed calls answer true: each inner call by its own run. -/
set_option linter.unusedVariables false
namespace Go.Proofs.YtopfodhjlhpdmaaGreatDoor
namespace AE
open Go Go.RowKit
def fA : A := .agg (mkf 2 0 [mkf 1 2 [], mkf 7 0 [mkf 0 0 []]])
def sA : A := .agg (mkf 2 0 [mkf 1 2 [], mkf 7 0 [mkf 0 0 []]] ++ [.isl false 3 (mkv 0 [mkv 0 [] [], mkv 0 [mkv 1 [] [], mkv 2 [] []] [1, 2]] [] ++ mkv 0 [mkv 1 [] [], mkv 0 [mkv 1 [] []] [1]] [] ++ mkv 0 [mkv 1 [] [], mkv 0 [mkv 2 [] []] [1]] [])])
def aA : A := .agg [.int .i64 3, .int .i64 0, .int .i64 0, .isl false 1 ([.int .i64 7, .int .i64 0, .int .i64 0, .isl false 1 ([.int .i64 13, .int .i64 2, .int .i64 3, .isl false 1 ([.int .i64 4, .int .i64 0, .int .i64 0, .isl false 1 ([.int .i64 3, .int .i64 0, .int .i64 0, .isl false 1 ([.int .i64 6, .int .i64 0, .int .i64 0, .isl false 1 ([.int .i64 5, .int .i64 1, .int .i64 0, .isl false 0 ([])])])])])])])]
def bA : A := .agg [.int .i64 3, .int .i64 0, .int .i64 0, .isl false 1 ([.int .i64 7, .int .i64 0, .int .i64 0, .isl false 1 ([.int .i64 13, .int .i64 1, .int .i64 2, .isl false 1 ([.int .i64 4, .int .i64 0, .int .i64 0, .isl false 1 ([.int .i64 1, .int .i64 0, .int .i64 0, .isl false 1 ([.int .i64 3, .int .i64 0, .int .i64 0, .isl false 1 ([.int .i64 6, .int .i64 0, .int .i64 0, .isl false 1 ([.int .i64 5, .int .i64 1, .int .i64 0, .isl false 0 ([])])])])])])])])]
def zA : A := .agg [.int .i64 0, .int .i64 0, .int .i64 0, .isl false 0 []]
def text0 : List UInt8 := [115, 116, 101, 112, 32, 115, 101, 99, 111, 110, 100, 32, 115, 104, 97, 114, 101, 32, 50, 32, 47, 32, 51, 32, 97, 116, 32, 115, 116, 101, 112, 32, 102, 105, 114, 115, 116, 32, 105, 115, 32, 49]
def text1 : List UInt8 := [115, 116, 101, 112, 32, 115, 101, 99, 111, 110, 100, 32, 115, 104, 97, 114, 101, 32, 49, 32, 47, 32, 50, 32, 97, 116, 32, 110, 111, 116, 32, 115, 116, 101, 112, 32, 102, 105, 114, 115, 116, 32, 105, 115, 32, 49]
def text2 : List UInt8 := [115, 116, 101, 112, 32, 116, 104, 105, 114, 100, 32, 116, 111, 112]
def text3 : List UInt8 := [115, 116, 101, 112, 32, 115, 111, 109, 101, 32, 116, 111, 112]
def lparseF : FuncId := 13
def lstringF : FuncId := 10
def ltrueF : FuncId := 18
def ans0 : A := .tup [aA, .int .i64 0]
def ans1 : A := .tup [bA, .int .i64 0]
def ans2 : A := .tup [zA, .int .i64 11]
def ans3 : A := .tup [zA, .int .i64 70]
def ans4 : A := .tup [.str text0, .int .i64 0]
def ans5 : A := .tup [.isl false 3 [.int .i64 0, .int .i64 1, .int .i64 2], .int .i64 0]
def ans6 : A := .tup [.isl false 0 [], .int .i64 0]
set_option maxRecDepth 1000000 in
theorem chk0 : isRes ((evR Cw NN).call lparseF [fA, .str text0] ⟨[], []⟩) ans0 = true := by kernel_rfl
set_option maxRecDepth 1000000 in
theorem chk1 : isRes ((evR Cw NN).call lparseF [fA, .str text1] ⟨[], []⟩) ans1 = true := by kernel_rfl
set_option maxRecDepth 1000000 in
theorem chk2 : isRes ((evR Cw NN).call lparseF [fA, .str text2] ⟨[], []⟩) ans2 = true := by kernel_rfl
set_option maxRecDepth 1000000 in
theorem chk3 : isRes ((evR Cw NN).call lparseF [fA, .str text3] ⟨[], []⟩) ans3 = true := by kernel_rfl
set_option maxRecDepth 1000000 in
theorem chk4 : isRes ((evR Cw NN).call lstringF [fA, aA] ⟨[], []⟩) ans4 = true := by kernel_rfl
set_option maxRecDepth 1000000 in
theorem chk5 : isRes ((evR Cw NN).call ltrueF [sA, aA] ⟨[], []⟩) ans5 = true := by kernel_rfl
set_option maxRecDepth 1000000 in
theorem chk6 : isRes ((evR Cw NN).call ltrueF [sA, bA] ⟨[], []⟩) ans6 = true := by kernel_rfl
def lparseT : List (List A × A) := [([fA, .str text0], ans0), ([fA, .str text1], ans1), ([fA, .str text2], ans2), ([fA, .str text3], ans3)]
def lstringT : List (List A × A) := [([fA, aA], ans4)]
def ltrueT : List (List A × A) := [([sA, aA], ans5), ([sA, bA], ans6)]
noncomputable def extv (f : FuncId) : Option (List A → Mem → Option (Res × Mem)) :=
  if f = parseF then some (tblG parseT) else if f = lparseF then some (tblG lparseT) else if f = lstringF then some (tblG lstringT) else if f = ltrueF then some (tblG ltrueT) else none
noncomputable def Cv : Cfg := { P := Tryz.prog, gl := gl0, ann := ann, ext := extv }
theorem run_ok {f : FuncId} {args : List A} {v : A} (ha : closed.closedL 0 0 args = true) (hv : closed 0 0 v = true) (h : isRes ((evR Cw NN).call f args ⟨[], []⟩) v = true) (m : Mem) : CallOk Cv f args m (.ret v, m) :=
  frame_call okw.gl ha hv ((evR_ok okw NN).call _ _ _ _ (isRes_eq h)) m
theorem okv : CfgOk Cv where
  gl := okb.gl
  mixed := mixed_prog
  dok := okb.dok
  ext := fun f h he args m r hr => by
    have he' : extv f = some h := he
    unfold extv at he'
    split at he'
    · rename_i hf
      cases he'
      subst hf
      refine tbl_ok (fun p hp m => ?_) hr
      simp only [parseT, List.mem_singleton] at hp
      subst hp
      exact parse_ok m
    split at he'
    · rename_i hf
      cases he'
      subst hf
      refine tbl_ok (fun p hp m => ?_) hr
      simp only [lparseT, List.mem_cons, List.not_mem_nil, or_false] at hp
      rcases hp with rfl | rfl | rfl | rfl
      · exact run_ok (by kernel_rfl) (by kernel_rfl) chk0 m
      · exact run_ok (by kernel_rfl) (by kernel_rfl) chk1 m
      · exact run_ok (by kernel_rfl) (by kernel_rfl) chk2 m
      · exact run_ok (by kernel_rfl) (by kernel_rfl) chk3 m
    split at he'
    · rename_i hf
      cases he'
      subst hf
      refine tbl_ok (fun p hp m => ?_) hr
      simp only [lstringT, List.mem_singleton] at hp
      subst hp
      exact run_ok (by kernel_rfl) (by kernel_rfl) chk4 m
    split at he'
    · rename_i hf
      cases he'
      subst hf
      refine tbl_ok (fun p hp m => ?_) hr
      simp only [ltrueT, List.mem_cons, List.not_mem_nil, or_false] at hp
      rcases hp with rfl | rfl
      · exact run_ok (by kernel_rfl) (by kernel_rfl) chk5 m
      · exact run_ok (by kernel_rfl) (by kernel_rfl) chk6 m
    · cases he'
set_option maxRecDepth 1000000 in
theorem awake_runs : saysTrue ((evR Cv NN).call awakeF [] ⟨[], []⟩) = true := by kernel_rfl
theorem awake_ok (m : Mem) : CallOk C0 awakeF [] m (.ret (.bool true), m) := by
  obtain ⟨m1, h⟩ := saysTrue_ok awake_runs
  have h1 := frame_call okv.gl rfl rfl ((evR_ok okv NN).call _ _ _ _ h) m
  unfold CallOk at h1 ⊢
  rw [C0_P, C0_gl]
  exact h1
end AE
end Go.Proofs.YtopfodhjlhpdmaaGreatDoor
/- Values: how many nodes, how they compare; evaluated. -/
set_option linter.unusedVariables false
set_option linter.unusedSimpArgs false
namespace Go.Proofs.YtopfodhjlhpdmaaGreatDoor
namespace AE
open Go
noncomputable def C1 : Cfg := { P := Tryz.prog, gl := glD, ann := ann, ext := fun _ => none }
@[simp] theorem C1_P : C1.P = Tryz.prog := _root_.id rfl
@[simp] theorem C1_ann : C1.ann = ann := _root_.id rfl
@[simp] theorem C1_gl : C1.gl = glD := _root_.id rfl
theorem C1_ext (f : FuncId) (h : True) : C1.ext f = none := rfl
attribute [irreducible] C1
theorem ev1_numC (a b : Int) (m : Mem) : evCall C1 130 [.int .i64 a, .int .i64 b] m = some (.ret (.int .i64 (numC a b)), m) := by
  rw [evCall_body C1 (C1_ext _ (by decide)) (by rw [C1_P]; exact Tryz.func130) rfl (by rw [C1_ann]; rfl) (by rw [C1_ann]; rfl) (by decide) (by simp [Tryz.f130])]
  unfold numC
  by_cases h1 : a < b
  · simp [Tryz.f130, a130, reg130, h1]
  by_cases h2 : b < a
  · simp [Tryz.f130, a130, reg130, h1, h2]
  simp [Tryz.f130, a130, reg130, h1, h2]
set_option maxHeartbeats 2000000 in
theorem ev1_CmpInts (f1 f2 : Bool) (a b : List Int) (ha : a.length ≤ 1000000000) (m : Mem) : evCall C1 173 [.isl f1 a.length (ints a), .isl f2 b.length (ints b), .fn 130 []] m = some (.ret (.int .i64 (lexI a b)), m) := by
  rw [evCall_body C1 (C1_ext _ (by decide)) (by rw [C1_P]; exact Tryz.func173) rfl (by rw [C1_ann]; rfl) (by rw [C1_ann]; rfl) (by decide) (by simp [Tryz.f173])]
  simp [Tryz.f173, a173, reg173, loop173]
  refine loop_in (fun i : Nat => ⟨[(0, .isl f1 a.length (ints a)), (1, .isl f2 b.length (ints b)), (2, .fn 130 []), (11, .isl f1 a.length (ints a)), (12, .int .i64 a.length), (13, .int .i64 i)], m⟩)
    (fun i => some (.ret (.int .i64 (lexI (a.drop i) (b.drop i))), m)) (fun i => a.length - i) (fun i => i ≤ a.length ∧ i ≤ b.length) 0 ?_ ?_ ?_ ?_ ?_
  · simp
  · simp
  · simp
  · intro x; simp [Tryz.f173, a173, reg173, loop173]
  · rintro i ⟨hi, hi'⟩ hrec
    by_cases hlt : i < a.length
    · have w2 : IntKind.i64.wrap (i + 1) = i + 1 := wrap_id _ (by omega)
      have h3 : i + 1 ≤ a.length := by omega
      by_cases hlt' : i < b.length
      · have h3' : i + 1 ≤ b.length := by omega
        have h4 : ¬ b.length ≤ i := by omega
        rw [lexI_drop hlt hlt']
        by_cases hc : numC a[i] b[i] = 0
        · simp [round, Tryz.f173, a173, reg173, loop173, hlt, hlt', w2, h3, h3', h4, ints_at hlt, ints_at hlt', ev1_numC, hc, endRound_M0]
          refine hrec (i + 1) _ _ ?_ ?_ ?_ ?_
          · omega
          · omega
          · simp
          · simp
        · simp [round, Tryz.f173, a173, reg173, loop173, hlt, hlt', w2, h3, h3', h4, ints_at hlt, ints_at hlt', ev1_numC, hc]
      · have h4 : b.length ≤ i := by omega
        rw [lexI_long hlt hlt']
        simp [round, Tryz.f173, a173, reg173, loop173, hlt, w2, h3, h4, ints_at hlt]
    · clear hrec
      by_cases hlt' : i < b.length
      · have h5 : a.length < b.length := by omega
        rw [lexI_short hlt hlt']
        simp [round, Tryz.f173, a173, reg173, loop173, hlt, h5]
      · have h5 : ¬ a.length < b.length := by omega
        rw [lexI_end hlt hlt']
        simp [round, Tryz.f173, a173, reg173, loop173, hlt, h5]
theorem ev1_orderInts (f1 f2 : Bool) (a b : List Int) (ha : a.length ≤ 1000000000) (m : Mem) : evCall C1 132 [.isl f1 a.length (ints a), .isl f2 b.length (ints b), .fn 130 []] m = some (.ret (.int .i64 (lexI a b)), m) := by
  rw [evCall_body C1 (C1_ext _ (by decide)) (by rw [C1_P]; exact Tryz.func132) rfl (by rw [C1_ann]; rfl) (by rw [C1_ann]; rfl) (by decide) (by simp [Tryz.f132])]
  simp [Tryz.f132, a132, reg132, ev1_CmpInts f1 f2 a b ha]
set_option maxHeartbeats 2000000 in
theorem ev1_CmpVals (a b : List Val) (f1 f2 : Bool) (ha : a.length ≤ 1000000000) (ih : ∀ u, u ∈ a → ∀ (v : Val) (m : Mem), evCall C1 94 [.agg u.cells, .agg v.cells] m = some (.ret (.int .i64 (cmpV u v)), m)) (m : Mem) :
    evCall C1 172 [.isl f1 a.length (Val.cellsL a), .isl f2 b.length (Val.cellsL b), .fn 94 []] m = some (.ret (.int .i64 (cmpL a b)), m) := by
  rw [evCall_body C1 (C1_ext _ (by decide)) (by rw [C1_P]; exact Tryz.func172) rfl (by rw [C1_ann]; rfl) (by rw [C1_ann]; rfl) (by decide) (by simp [Tryz.f172])]
  simp [Tryz.f172, a172, reg172, loop172]
  refine loop_in (fun i : Nat => ⟨[(0, .isl f1 a.length (Val.cellsL a)), (1, .isl f2 b.length (Val.cellsL b)), (2, .fn 94 []), (11, .isl f1 a.length (Val.cellsL a)), (12, .int .i64 a.length), (13, .int .i64 i)], m⟩)
    (fun i => some (.ret (.int .i64 (cmpL (a.drop i) (b.drop i))), m)) (fun i => a.length - i) (fun i => i ≤ a.length ∧ i ≤ b.length) 0 ?_ ?_ ?_ ?_ ?_
  · simp
  · simp
  · simp
  · intro x; simp [Tryz.f172, a172, reg172, loop172]
  · rintro i ⟨hi, hi'⟩ hrec
    by_cases hlt : i < a.length
    · have w2 : IntKind.i64.wrap (i + 1) = i + 1 := wrap_id _ (by omega)
      have h3 : (i + 1) * 3 ≤ a.length * 3 := by omega
      by_cases hlt' : i < b.length
      · have h3' : (i + 1) * 3 ≤ b.length * 3 := by omega
        have h4 : ¬ b.length ≤ i := by omega
        have he := ih a[i] (List.getElem_mem hlt) b[i]
        simp at he
        rw [cmpL_drop hlt hlt']
        by_cases hc : cmpV a[i] b[i] = 0
        · simp [hc] at he
          simp [round, Tryz.f172, a172, reg172, loop172, hlt, hlt', w2, h3, h3', h4, he, hc, endRound_M]
          refine hrec (i + 1) _ _ ?_ ?_ ?_ ?_
          · omega
          · omega
          · simp
          · simp
        · simp [round, Tryz.f172, a172, reg172, loop172, hlt, hlt', w2, h3, h3', h4, he, hc]
      · have h4 : b.length ≤ i := by omega
        rw [cmpL_long hlt hlt']
        simp [round, Tryz.f172, a172, reg172, loop172, hlt, w2, h3, h4]
    · clear hrec
      by_cases hlt' : i < b.length
      · have h5 : a.length < b.length := by omega
        rw [cmpL_short hlt hlt']
        simp [round, Tryz.f172, a172, reg172, loop172, hlt, h5]
      · have h5 : ¬ a.length < b.length := by omega
        rw [cmpL_end hlt hlt']
        simp [round, Tryz.f172, a172, reg172, loop172, hlt, h5]
theorem ev1_orderVals (a b : List Val) (f1 f2 : Bool) (ha : a.length ≤ 1000000000) (ih : ∀ u, u ∈ a → ∀ (v : Val) (m : Mem), evCall C1 94 [.agg u.cells, .agg v.cells] m = some (.ret (.int .i64 (cmpV u v)), m)) (m : Mem) :
    evCall C1 131 [.isl f1 a.length (Val.cellsL a), .isl f2 b.length (Val.cellsL b), .fn 94 []] m = some (.ret (.int .i64 (cmpL a b)), m) := by
  rw [evCall_body C1 (C1_ext _ (by decide)) (by rw [C1_P]; exact Tryz.func131) rfl (by rw [C1_ann]; rfl) (by rw [C1_ann]; rfl) (by decide) (by simp [Tryz.f131])]
  simp [Tryz.f131, a131, reg131, ev1_CmpVals a b f1 f2 ha ih]
set_option maxHeartbeats 2000000 in
theorem ev1_Compare (N : Nat) : ∀ (u : Val), u.nodes ≤ N → u.nodes ≤ 1000000000 → slimV u → ∀ (v : Val) (m : Mem), evCall C1 94 [.agg u.cells, .agg v.cells] m = some (.ret (.int .i64 (cmpV u v)), m) := by
  induction N with
  | zero => intro f hN; have := f.nodes_pos; omega
  | succ N ih =>
  intro u hN hb hs v m
  have hlen := u.length_args
  rw [slimV_eq] at hs
  have hargs := ev1_orderVals u.args v.args false false (by omega) (fun x hx w m => ih x (by have := Val.nodes_arg hx; omega) (by have := Val.nodes_arg hx; omega) (slimL_mem hs.2 hx) w m)
  have hws := ev1_orderInts false false u.ws v.ws hs.1
  clear ih
  rw [evCall_body C1 (C1_ext _ (by decide)) (by rw [C1_P]; exact Tryz.func94) rfl (by rw [C1_ann]; rfl) (by rw [C1_ann]; rfl) (by decide) (by simp [Tryz.f94])]
  rw [cmpV_eq]
  by_cases c1 : numC u.num v.num = 0
  · by_cases c2 : cmpL u.args v.args = 0
    · simp [c2] at hargs
      simp [Tryz.f94, a94, reg94, ev1_numC, c1, hargs, hws, c2]
    · simp [Tryz.f94, a94, reg94, ev1_numC, c1, hargs, c2]
  · simp [Tryz.f94, a94, reg94, ev1_numC, c1]
theorem ev1_elem (p q : Val × Int) (hb : p.1.nodes ≤ 1000000000) (hs : slimV p.1) (m : Mem) : evCall C1 175 [.agg (elemC p), .agg (elemC q)] m = some (.ret (.int .i64 (cmpV p.1 q.1)), m) := by
  rw [evCall_body C1 (C1_ext _ (by decide)) (by rw [C1_P]; exact Tryz.func175) rfl (by rw [C1_ann]; rfl) (by rw [C1_ann]; rfl) (by decide) (by simp [Tryz.f175])]
  have he := ev1_Compare p.1.nodes p.1 (Nat.le_refl _) hb hs q.1
  simp at he
  simp [Tryz.f175, a175, reg175, elemC, he]
end AE
end Go.Proofs.YtopfodhjlhpdmaaGreatDoor
/- All answers of the configuration hold. -/
set_option linter.unusedVariables false
set_option linter.unusedSimpArgs false
namespace Go.Proofs.YtopfodhjlhpdmaaGreatDoor
namespace AE
open Go Go.RowKit
theorem sr_below {P : Program} {gl : Nat → A} {w0 w w' : World} {g : Gh} {m : Mem} (hg : gl 1000000007 ≠ .rp []) (hs : SR P gl w0 g m w) (hbel : Below w.heap.size w w') : SR P gl w0 g m w' ∧ Ext w g w' g := by
  have hcell : ∀ k o, k < w.heap.size → w'.cell? ⟨k, o, none⟩ = w.cell? ⟨k, o, none⟩ := fun k o hk => hbel.cell (p := ⟨k, o, none⟩) hk
  have hext : Ext w g w' g := ⟨⟨fun k o hF => ⟨hF, hcell k o (hs.lim k o hF)⟩, Nat.le_refl _, fun _ _ => rfl, fun i L h => ⟨L, h, Nat.le_refl _, fun _ => ⟨rfl, rfl, rfl⟩, rfl⟩⟩, fun b hb hl => ⟨hbel.block b hb, hl⟩, hbel.size⟩
  refine ⟨?_, hext⟩
  exact {
    below := hs.below.trans (hbel.mono hs.szB)
    nb := hs.nb
    rl := hs.rl
    es := hs.es
    bx := fun i cs hi => by
      obtain ⟨us, t, h1, h2⟩ := hs.bx i cs hi
      refine ⟨us, t, ?_, h2.mono hext⟩
      rw [hbel.block _ (Array.getElem?_eq_some_iff.1 h1).1]
      exact h1
    rw := fun i r hi => by
      obtain ⟨us, ss, rest, h1, h2, h3, h4⟩ := hs.rw i r hi
      refine ⟨us, ss, rest, ?_, h2, h3, h4.mono hext⟩
      rw [hbel.block _ (Array.getElem?_eq_some_iff.1 h1).1]
      exact h1
    ownb := hs.ownb
    ownr := hs.ownr
    injb := hs.injb
    injr := hs.injr
    dis := hs.dis
    lim := fun b o hF => Nat.lt_of_lt_of_le (hs.lim b o hF) hbel.size
    gl := fun n => (hs.gl n).mono hext
    dr := fun h => absurd h hg
    tb := hs.tb }
theorem gl_flag : gl0 1000000007 ≠ .rp [] := by
  unfold gl0
  rw [if_neg (by decide), if_neg (by decide), if_neg (by decide), if_neg (by decide)]
  exact fun h => by cases h
theorem pow10_tab : pow10L = Lib.pow10Tab := by decide
theorem itoa_ok {args : List A} {m : Mem} {r : Res × Mem} (h : itoaG args m = some r) : CallOk C0 itoaId args m r := by
  unfold itoaG at h
  split at h
  case h_2 => cases h
  rename_i n
  split at h
  case isFalse => cases h
  rename_i hn
  cases h
  unfold CallOk
  rw [C0_P, C0_gl]
  refine ⟨⟨_, _, Tryz.func63, rfl, by decide⟩, fun w0 g w vals hs hv => ?_⟩
  rw [VRs] at hv
  obtain ⟨u, t, rfl, h1, h2⟩ := hv
  rw [VRs] at h2
  subst h2
  rw [VR] at h1
  subst h1
  have htab : Lib.TabIs Tryz.prog w "internal/strconv.uint64pow10" .u64 Lib.pow10Tab := by
    have := (hs.tb rfl).up hs.below
    unfold Pow10 at this
    rw [pow10_tab] at this
    exact this
  refine Calls.mono (Any.strconv_Itoa Tryz.laysM171 n hn.1 hn.2 w htab) ?_
  rintro e w' ⟨rfl, k, os, rfl⟩
  have hbel : Below w.heap.size w (Sort.grow (w.drewN k) os) := ⟨rfl, rfl, rfl, by rw [Sort.size_grow]; exact Nat.le_add_right _ _, fun j hj => Sort.heap_grow_old _ _ hj⟩
  obtain ⟨s1, x1⟩ := sr_above hs hbel (Nat.le_add_right _ _)
  refine ⟨g, s1, x1, ?_⟩
  show VR _ _ _ _
  rw [VR]
theorem atoi_ok (s : List UInt8) (m : Mem) (r : Res × Mem) (h : atoiG [.str s] m = some r) : CallOk C0 atoiId [.str s] m r := by
  unfold CallOk
  rw [C0_P, C0_gl]
  refine ⟨⟨_, _, Tryz.func112, rfl, by decide⟩, fun w0 g w vals hs hv => ?_⟩
  obtain ⟨v, rfl, hv1⟩ : ∃ v, vals = [v] ∧ VR w g (.str s) v := by
    rw [VRs] at hv
    obtain ⟨u, t, rfl, h1, h2⟩ := hv
    rw [VRs] at h2
    subst h2
    exact ⟨u, rfl, h1⟩
  rw [VR] at hv1
  subst hv1
  unfold atoiG at h
  simp only at h
  split at h
  case isFalse => cases h
  rename_i hlen
  have hsz : (⟨s.toArray⟩ : ByteArray).size = s.length := by show s.toArray.size = _; simp
  have hdat : (⟨s.toArray⟩ : ByteArray).data.toList = s := by simp
  cases ha : Lib.atoiAll s with
  | ok n =>
    rw [ha] at h
    simp only [Option.some.injEq] at h
    subst h
    refine Calls.mono (Any.strconv_Atoi_ok Tryz.laysC172 ⟨s.toArray⟩ (by rw [hsz]; omega) n (by rw [hdat]; exact ha) w) ?_
    rintro e w' ⟨rfl, hw⟩
    have hbel : Below w.heap.size w w' := by
      rcases hw with rfl | ⟨t, rfl⟩
      · exact Below.refl _ _
      · exact Lib.bytesWorld_below _ _ _
    obtain ⟨h1, h2⟩ := sr_below gl_flag hs hbel
    refine ⟨g, h1, h2, ?_⟩
    show VR w' g _ _
    rw [VR]
    exact ⟨[.int .i64 n, .nilIface], rfl, .mk_cons VR.mkInt (.mk_cons (by rw [VR]) VRs.mk_nil)⟩
  | range =>
    rw [ha] at h
    simp only [Option.some.injEq] at h
    subst h
    have hg := hs.gl 5
    have hgl : gl0 5 = .rp [.ifc 265 .undef] := rfl
    rw [hgl, VR] at hg
    obtain ⟨b, o, us, hp, hus, hlies⟩ := hg
    rw [VRs] at hus
    obtain ⟨u, t, rfl, hu, ht⟩ := hus
    rw [VR] at hu
    obtain ⟨u', rfl, _⟩ := hu
    have hc := (hlies 0 _ rfl).2
    simp only [Value.pointer.injEq, Option.some.injEq, Addr.mk.injEq] at hp
    obtain ⟨rfl, rfl, _⟩ := hp
    refine Calls.mono (Any.strconv_Atoi_range Tryz.laysC172 ⟨s.toArray⟩ (by rw [hsz]; omega) (by rw [hdat]; exact ha) _ w hc (.inr ⟨_, _, rfl⟩)) ?_
    rintro e w' ⟨N, rfl, _, _, hbel⟩
    obtain ⟨h1, h2⟩ := sr_below gl_flag hs hbel
    refine ⟨g, h1, h2, ?_⟩
    show VR w' g _ _
    rw [VR]
    refine ⟨[.int .i64 (Lib.atoiSat s), .iface 227 (.pointer (some ⟨N, 0, none⟩))], ?_, .mk_cons VR.mkInt (.mk_cons (by rw [VR]; exact ⟨_, rfl, by rw [VR]; trivial⟩) VRs.mk_nil)⟩
    rw [hdat]
    rfl
  | _ => rw [ha] at h; cases h
theorem ok1 : CfgOk C1 where
  gl := fun n => by
    rw [C1_gl]
    unfold glD
    split
    · decide
    · rfl
  mixed := by rw [C1_P]; exact mixed_prog
  dok := by
    rintro f id ops ⟨fn, b, h1, h2, h3⟩ hd
    rw [C1_P] at h1
    rw [C1_ann] at hd ⊢
    exact okb.dok f id ops ⟨fn, b, h1, h2, h3⟩ hd
  ext := fun f h he => by rw [C1_ext f trivial] at he; cases he
theorem sortF_ok {args : List A} {m : Mem} {r : Res × Mem} (h : sortFG cmpFF args m = some r) : CallOk C0 sortFF args m r := by
  refine sortF_call (C' := C1) (by rw [C0_P, C1_P]) C1_gl ?_ ?_ ?_ (fun p q hb hs => sound ok1 _ _ _ _ (ev1_elem p q hb hs _)) h
  · rw [C0_P]; exact ⟨_, _, Tryz.func174, rfl, by decide⟩
  · intro fv w
    rw [C0_P]
    exact AnyF.slices_SortFunc_none Tryz.laysSortF none 0 fv w
  · intro enc cf blk cap d w h1 h2 h3 h4 h5 h6 h7
    rw [C0_P] at h4 ⊢
    exact AnyQ.slices_SortFunc_eq Tryz.laysSortF 4 Tryz.isAgg209 Tryz.sizeOf209 enc h1 h2 cf h3 cmpFF #[] blk 0 cap d w (enters_of Tryz.func175 (by kernel_rfl) rfl) h4 h5 h6 h7
theorem ok0 : CfgOk C0 where
  gl := by rw [C0_gl]; exact okb.gl
  mixed := by rw [C0_P]; exact mixed_prog
  dok := by
    rintro f id ops ⟨fn, b, h1, h2, h3⟩ hd
    rw [C0_P] at h1
    rw [C0_ann] at hd ⊢
    exact okb.dok f id ops ⟨fn, b, h1, h2, h3⟩ hd
  ext := fun f h he args m r hr => by
    by_cases hf : f = awakeF
    · subst hf
      rw [C0_awake] at he
      cases he
      cases args with
      | nil =>
        have : r = (.ret (.bool true), m) := by
          have h2 : some ((.ret (.bool true), m) : Res × Mem) = some r := hr
          exact (Option.some.inj h2).symm
        rw [this]
        exact awake_ok m
      | cons a l => cases hr
    by_cases hf4 : f = atoiId
    · subst hf4
      rw [C0_atoi] at he
      cases he
      match args, hr with
      | [.str s], hr => exact atoi_ok s m r hr
    by_cases hf5 : f = sortFF
    · subst hf5
      rw [C0_sortF] at he
      cases he
      exact sortF_ok hr
    by_cases hf6 : f = itoaId
    · subst hf6
      rw [C0_itoa] at he
      cases he
      exact itoa_ok hr
    by_cases hf7 : f = indexId
    · subst hf7
      rw [C0_index] at he
      cases he
      exact index_ok C0_P hr
    · rw [C0_ext f (by simp [hf, hf4, hf5, hf6, hf7])] at he; cases he
end AE
end Go.Proofs.YtopfodhjlhpdmaaGreatDoor
