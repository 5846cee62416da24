/- Functors as trees. -/
import Derived.Test.YtmfdpijmholedaaGreatDoorAE4
import Derived.Test.YtmfdpijmholedaaGreatDoorGC
import Derived.Sort.Grow
import Derived.Lib.SlicesCompact
import Derived.Shelf.SlSortCmp.WholeK
import Derived.Test.YtmfdpijmholedaaGreatDoorTY
import Derived.Test.YtmfdpijmholedaaGreatDoorGD
set_option linter.unusedVariables false
set_option linter.unusedSimpArgs false
namespace Go.Proofs.YtmfdpijmholedaaGreatDoor
namespace AE
open Go
def ints (ks : List Int) : List A := ks.map (.int .i64)
@[simp] theorem ints_length (ks : List Int) : (ints ks).length = ks.length := by simp [ints]
theorem ints_at {ks : List Int} {i : Nat} (h : i < ks.length) : ((ints ks).drop i).take 1 = [.int .i64 ks[i]] := by
  unfold ints
  rw [List.drop_eq_getElem_cons (by simpa using h)]
  simp
@[simp] theorem closed_ints (nb nr : Nat) (ks : List Int) : (ints ks).all (closed nb nr) = true := by simp [ints]
@[simp] theorem er_ints (nb nr : Nat) (g) (ks : List Int) : (ints ks).map (er1 nb nr g) = ints ks := by
  unfold ints
  rw [List.map_map]
  exact List.map_congr_left fun x _ => rfl
@[simp] theorem flat_ints (ks : List Int) : (ints ks).all flat = true := by simp [ints, flat]
theorem ints_append (a b : List Int) : ints (a ++ b) = ints a ++ ints b := by simp [ints]
@[simp] theorem ints_nil : ints [] = [] := rfl
@[simp] theorem take_ints (ks : List Int) : (ints ks).take ks.length = ints ks := List.take_of_length_le (by simp)
theorem flat_mem_ints (ks : List Int) : (∀ x, x ∈ ints ks → flat x = true) = True := eq_true (List.all_eq_true.1 (flat_ints ks))
inductive Fun where
  | mk (kind n : Int) (args : List Fun)
namespace Fun
def kind : Fun → Int | .mk k _ _ => k
def num : Fun → Int | .mk _ n _ => n
def args : Fun → List Fun | .mk _ _ l => l
@[simp] theorem kind_mk (k n : Int) (l : List Fun) : (Fun.mk k n l).kind = k := rfl
@[simp] theorem num_mk (k n : Int) (l : List Fun) : (Fun.mk k n l).num = n := rfl
@[simp] theorem args_mk (k n : Int) (l : List Fun) : (Fun.mk k n l).args = l := rfl
mutual
def nodes : Fun → Nat
  | .mk _ _ l => 1 + nodesL l
def nodesL : List Fun → Nat
  | [] => 0
  | f :: r => f.nodes + nodesL r
end
theorem nodes_eq (f : Fun) : f.nodes = 1 + nodesL f.args := by cases f; rw [nodes]; rfl
theorem nodes_pos (f : Fun) : 0 < f.nodes := by rw [nodes_eq]; omega
theorem nodes_mem : ∀ {l : List Fun} {f : Fun}, f ∈ l → f.nodes ≤ nodesL l
  | g :: r, f, h => by
    rw [nodesL]
    rcases List.mem_cons.1 h with rfl | h
    · omega
    · have := nodes_mem h; omega
theorem nodes_arg {f g : Fun} (h : g ∈ f.args) : g.nodes < f.nodes := by
  have := nodes_mem h
  rw [nodes_eq f]
  omega
theorem length_nodesL : ∀ l : List Fun, l.length ≤ nodesL l
  | [] => Nat.le_refl _
  | f :: r => by rw [nodesL]; have := length_nodesL r; have := nodes_pos f; simp; omega
theorem length_args (f : Fun) : f.args.length < f.nodes := by rw [nodes_eq]; have := length_nodesL f.args; omega
mutual
def cells : Fun → List A
  | .mk k n l => [.int .i64 k, .int .i64 n, .isl false l.length (cellsL l)]
def cellsL : List Fun → List A
  | [] => []
  | f :: r => f.cells ++ cellsL r
end
theorem cells_eq (f : Fun) : f.cells = [.int .i64 f.kind, .int .i64 f.num, .isl false f.args.length (cellsL f.args)] := by cases f; rw [cells]; rfl
@[simp] theorem cells_length (f : Fun) : f.cells.length = 3 := by rw [cells_eq]; rfl
@[simp] theorem cellsL_nil : cellsL [] = [] := by rw [cellsL]
@[simp] theorem cellsL_length : ∀ l : List Fun, (cellsL l).length = l.length * 3
  | [] => rfl
  | f :: r => by rw [cellsL, List.length_append, cellsL_length r, cells_length, List.length_cons]; omega
theorem cellsL_append : ∀ l r : List Fun, cellsL (l ++ r) = cellsL l ++ cellsL r
  | [], r => by simp
  | f :: l, r => by rw [List.cons_append, cellsL, cellsL, cellsL_append l r, List.append_assoc]
theorem at_cellsL : ∀ (l : List Fun) (i : Nat) (h : i < l.length), ((cellsL l).drop (i * 3)).take 3 = (l[i]).cells
  | f :: r, 0, _ => by rw [cellsL]; simp [List.take_append]
  | f :: r, i + 1, h => by
    rw [cellsL]
    have := at_cellsL r i (by simpa using h)
    rw [show (i + 1) * 3 = f.cells.length + i * 3 by simp; omega, ← List.drop_drop, List.drop_left]
    simpa using this
mutual
theorem er_cells (nb nr : Nat) (g) : ∀ f : Fun, f.cells.map (er1 nb nr g) = f.cells
  | .mk k n l => by rw [cells]; simp [er_cellsL nb nr g l]
theorem er_cellsL (nb nr : Nat) (g) : ∀ l : List Fun, (cellsL l).map (er1 nb nr g) = cellsL l
  | [] => by rw [cellsL]; rfl
  | f :: r => by rw [cellsL, List.map_append, er_cells nb nr g f, er_cellsL nb nr g r]
end
mutual
theorem closed_cells (nb nr : Nat) : ∀ f : Fun, f.cells.all (closed nb nr) = true
  | .mk k n l => by rw [cells]; simp [closed_cellsL nb nr l]
theorem closed_cellsL (nb nr : Nat) : ∀ l : List Fun, (cellsL l).all (closed nb nr) = true
  | [] => by rw [cellsL]; rfl
  | f :: r => by rw [cellsL, List.all_append, closed_cells nb nr f, closed_cellsL nb nr r]; rfl
end
theorem flat_cellsL : ∀ l : List Fun, (cellsL l).all flat = true
  | [] => by rw [cellsL]; rfl
  | f :: r => by rw [cellsL, List.all_append, cells_eq, flat_cellsL r]; rfl
end Fun
attribute [simp] Fun.cells_eq Fun.er_cellsL Fun.closed_cellsL Fun.flat_cellsL
@[simp] theorem Fun.at_cellsL' (l : List Fun) (i : Nat) (h : i < l.length) : ((Fun.cellsL l).drop (i * 3)).take 3 = (l[i]).cells := Fun.at_cellsL l i h
theorem wrap_id (n : Int) (h : -9223372036854775808 ≤ n ∧ n ≤ 9223372036854775807) : IntKind.i64.wrap n = n := IntWalk.i64_in n h
inductive Val where
  | mk (n : Int) (args : List Val) (ws : List Int)
namespace Val
def num : Val → Int | .mk n _ _ => n
def args : Val → List Val | .mk _ l _ => l
def ws : Val → List Int | .mk _ _ w => w
@[simp] theorem num_mk (n : Int) (l : List Val) (w : List Int) : (Val.mk n l w).num = n := rfl
@[simp] theorem args_mk (n : Int) (l : List Val) (w : List Int) : (Val.mk n l w).args = l := rfl
@[simp] theorem ws_mk (n : Int) (l : List Val) (w : List Int) : (Val.mk n l w).ws = w := rfl
mutual
def nodes : Val → Nat
  | .mk _ l _ => 1 + nodesL l
def nodesL : List Val → Nat
  | [] => 0
  | f :: r => f.nodes + nodesL r
end
theorem nodes_eq (f : Val) : f.nodes = 1 + nodesL f.args := by cases f; rw [nodes]; rfl
theorem nodes_pos (f : Val) : 0 < f.nodes := by rw [nodes_eq]; omega
theorem nodes_mem : ∀ {l : List Val} {f : Val}, f ∈ l → f.nodes ≤ nodesL l
  | g :: r, f, h => by
    rw [nodesL]
    rcases List.mem_cons.1 h with rfl | h
    · omega
    · have := nodes_mem h; omega
theorem nodes_arg {f g : Val} (h : g ∈ f.args) : g.nodes < f.nodes := by
  have := nodes_mem h
  rw [nodes_eq f]
  omega
theorem length_nodesL : ∀ l : List Val, l.length ≤ nodesL l
  | [] => Nat.le_refl _
  | f :: r => by rw [nodesL]; have := length_nodesL r; have := nodes_pos f; simp; omega
theorem length_args (f : Val) : f.args.length < f.nodes := by rw [nodes_eq]; have := length_nodesL f.args; omega
theorem nodesL_drop {l : List Val} {i : Nat} (h : i < l.length) : nodesL (l.drop i) = l[i].nodes + nodesL (l.drop (i + 1)) := by rw [List.drop_eq_getElem_cons h, nodesL]
mutual
def cells : Val → List A
  | .mk n l w => [.int .i64 n, .isl false l.length (cellsL l), .isl false w.length (ints w)]
def cellsL : List Val → List A
  | [] => []
  | f :: r => f.cells ++ cellsL r
end
theorem cells_eq (f : Val) : f.cells = [.int .i64 f.num, .isl false f.args.length (cellsL f.args), .isl false f.ws.length (ints f.ws)] := by cases f; rw [cells]; rfl
@[simp] theorem cells_length (f : Val) : f.cells.length = 3 := by rw [cells_eq]; rfl
@[simp] theorem cellsL_nil : cellsL [] = [] := by rw [cellsL]
@[simp] theorem cellsL_length : ∀ l : List Val, (cellsL l).length = l.length * 3
  | [] => rfl
  | f :: r => by rw [cellsL, List.length_append, cellsL_length r, cells_length, List.length_cons]; omega
theorem cellsL_append : ∀ l r : List Val, cellsL (l ++ r) = cellsL l ++ cellsL r
  | [], r => by simp
  | f :: l, r => by rw [List.cons_append, cellsL, cellsL, cellsL_append l r, List.append_assoc]
theorem at_cellsL : ∀ (l : List Val) (i : Nat) (h : i < l.length), ((cellsL l).drop (i * 3)).take 3 = (l[i]).cells
  | f :: r, 0, _ => by rw [cellsL]; simp [List.take_append]
  | f :: r, i + 1, h => by
    rw [cellsL]
    have := at_cellsL r i (by simpa using h)
    rw [show (i + 1) * 3 = f.cells.length + i * 3 by simp; omega, ← List.drop_drop, List.drop_left]
    simpa using this
mutual
theorem er_cells (nb nr : Nat) (g) : ∀ f : Val, f.cells.map (er1 nb nr g) = f.cells
  | .mk n l w => by rw [cells]; simp [er_cellsL nb nr g l]
theorem er_cellsL (nb nr : Nat) (g) : ∀ l : List Val, (cellsL l).map (er1 nb nr g) = cellsL l
  | [] => by rw [cellsL]; rfl
  | f :: r => by rw [cellsL, List.map_append, er_cells nb nr g f, er_cellsL nb nr g r]
end
mutual
theorem closed_cells (nb nr : Nat) : ∀ f : Val, f.cells.all (closed nb nr) = true
  | .mk n l w => by rw [cells]; simp [closed_cellsL nb nr l]
theorem closed_cellsL (nb nr : Nat) : ∀ l : List Val, (cellsL l).all (closed nb nr) = true
  | [] => by rw [cellsL]; rfl
  | f :: r => by rw [cellsL, List.all_append, closed_cells nb nr f, closed_cellsL nb nr r]; rfl
end
theorem flat_cellsL : ∀ l : List Val, (cellsL l).all flat = true
  | [] => by rw [cellsL]; rfl
  | f :: r => by rw [cellsL, List.all_append, cells_eq, flat_cellsL r]; rfl
theorem cellsL_snoc {l : List Val} {i : Nat} (h : i < l.length) : cellsL (l.take (i + 1)) = cellsL (l.take i) ++ (l[i]).cells := by
  rw [List.take_succ_eq_append_getElem h, cellsL_append, cellsL, cellsL_nil, List.append_nil]
end Val
attribute [simp] Val.cells_eq Val.er_cellsL Val.closed_cellsL Val.flat_cellsL
@[simp] theorem Val.at_cellsL' (l : List Val) (i : Nat) (h : i < l.length) : ((Val.cellsL l).drop (i * 3)).take 3 = (l[i]).cells := Val.at_cellsL l i h
end AE
end Go.Proofs.YtmfdpijmholedaaGreatDoor
/- A row of numbers that the library writes anew. -/
set_option linter.unusedVariables false
set_option linter.unusedSimpArgs false
namespace Go.Proofs.YtmfdpijmholedaaGreatDoor
namespace AE
open Go Go.RowKit Go.Sort
section
variable {P : Program} {gl : Nat → A} {w0 : World} {g : Gh} {m : Mem} {w w' : World}
theorem sr_above (hs : SR P gl w0 g m w) (hbel : Below w.heap.size w w') (hd : w.drawn ≤ w'.drawn) : SR P gl w0 g m w' ∧ Ext w g w' g := by
  have hcell : ∀ k o, k < w.heap.size → w'.cell? ⟨k, o, none⟩ = w.cell? ⟨k, o, none⟩ := fun k o hk => hbel.cell (p := ⟨k, o, none⟩) hk
  have hext : Ext w g w' g := ⟨⟨fun k o hF => ⟨hF, hcell k o (hs.lim k o hF)⟩, Nat.le_refl _, fun _ _ => rfl, fun i L h => ⟨L, h, Nat.le_refl _, fun _ => ⟨rfl, rfl, rfl⟩, rfl⟩⟩, fun b hb hl => ⟨hbel.block b hb, hl⟩, hbel.size⟩
  refine ⟨?_, hext⟩
  exact {
    below := hs.below.trans (hbel.mono hs.szB)
    nb := hs.nb
    rl := hs.rl
    es := hs.es
    bx := fun i cs hi => by
      obtain ⟨us, t, h1, h2⟩ := hs.bx i cs hi
      refine ⟨us, t, ?_, h2.mono hext⟩
      rw [hbel.block _ (Array.getElem?_eq_some_iff.1 h1).1]
      exact h1
    rw := fun i r hi => by
      obtain ⟨us, ss, rest, h1, h2, h3, h4⟩ := hs.rw i r hi
      refine ⟨us, ss, rest, ?_, h2, h3, h4.mono hext⟩
      rw [hbel.block _ (Array.getElem?_eq_some_iff.1 h1).1]
      exact h1
    ownb := hs.ownb
    ownr := hs.ownr
    injb := hs.injb
    injr := hs.injr
    dis := hs.dis
    lim := fun b o hF => Nat.lt_of_lt_of_le (hs.lim b o hF) hbel.size
    gl := fun n => (hs.gl n).mono hext
    dr := fun hf => Nat.le_trans (hs.dr hf) hd
    tb := hs.tb }
theorem ints_VRs : ∀ {zs : List Int} {us : List Value}, VRs w g (ints zs) us → us = zs.map (Value.int .i64)
  | [], us, h => VRs.nil_iff.1 h
  | z :: r, us, h => by
    rw [show ints (z :: r) = A.int .i64 z :: ints r from rfl, VRs] at h
    obtain ⟨u, t, rfl, h1, h2⟩ := h
    rw [VR] at h1
    rw [ints_VRs h2, h1]
    rfl
theorem VRs_ints : ∀ zs : List Int, VRs w g (ints zs) (zs.map (Value.int .i64))
  | [] => VRs.mk_nil
  | z :: r => .mk_cons VR.mkInt (VRs_ints r)
theorem mapBlock_setRow {blk : Nat} {c : Array Value} {e : TypeId} {fr : Nat × Nat} (h : w.heap[blk]? = some (.cells c e fr)) (f : Array Value → Array Value) : mapBlock w blk f = w.setRow blk (f c) := by
  rw [mapBlock_congr w blk f (fun _ => f c) fun c' e' fr' h' => by rw [h] at h'; cases h'; rfl]
  unfold mapBlock World.setRow
  congr 1
end
def unInts : List A → Option (List Int)
  | [] => some []
  | .int .i64 n :: r => (unInts r).map (n :: ·)
  | _ => none
theorem unInts_some : ∀ {cs : List A} {zs : List Int}, unInts cs = some zs → cs = ints zs
  | [], zs, h => by rw [unInts] at h; cases h; rfl
  | a :: r, zs, h => by
    unfold unInts at h
    split at h
    · rename_i e; cases e
    · rename_i n r' e
      cases e
      obtain ⟨q, h1, rfl⟩ := Option.map_eq_some_iff.1 h
      rw [unInts_some h1]
      rfl
    · cases h
@[simp] theorem unInts_ints : ∀ zs : List Int, unInts (ints zs) = some zs
  | [] => rfl
  | z :: r => by
    show (unInts (ints r)).map (z :: ·) = _
    rw [unInts_ints r]
    rfl
end AE
end Go.Proofs.YtmfdpijmholedaaGreatDoor
/- A row of elements that the library sorts by a function of the program. -/
set_option linter.unusedVariables false
set_option linter.unusedSimpArgs false
namespace Go.Proofs.YtmfdpijmholedaaGreatDoor
namespace AE
open Go Go.RowKit Go.Sort Go.Shelf Go.Lib
section
variable {P : Program} {gl : Nat → A} {w0 : World} {g : Gh} {m : Mem} {w w' : World}
theorem putCells_id {vs : List Value} {us : Array Value} {ss rest : List Value} (h : us.toList = ss ++ rest) (hl : ss.length = vs.length) : (putCells id 0 vs.toArray us).toList = vs ++ rest := by
  apply List.ext_getElem?
  intro k
  have hk : us[k]? = (ss ++ rest)[k]? := by rw [← h, Array.getElem?_toList]
  unfold putCells
  rw [Array.getElem?_toList, Array.getElem?_mapIdx, hk]
  simp only [List.size_toArray, Nat.zero_add, Nat.zero_le, true_and, Nat.sub_zero]
  rw [List.getElem?_append, List.getElem?_append, hl]
  by_cases h1 : k < vs.length
  · rw [if_pos h1, if_pos h1, List.getElem?_eq_getElem (by omega), List.getElem?_eq_getElem h1]
    simp [h1]
  · rw [if_neg h1, if_neg h1]
    simp [h1]
theorem put_cells (hs : SR P gl w0 g m w) {i : Nat} {t : TypeId} {cs cs' : List A} {vs : List Value} (hi : m.rw[i]? = some ⟨t, cs⟩) (h0 : g.sh i = 0) (hl : cs'.length = cs.length) (hv : VRs w g cs' vs) (n : Nat) (os : Array Obj) :
    ∃ g', SR P gl w0 g' ⟨m.bx, m.rw.set i ⟨t, cs'⟩⟩ (grow (putRow id (Sort.ahead w n) (g.br i) 0 vs.toArray) os) ∧ Ext w g (grow (putRow id (Sort.ahead w n) (g.br i) 0 vs.toArray) os) g' ∧ g'.br = g.br ∧ g'.cz = g.cz ∧ g'.es = g.es ∧ g'.rl[i]? = some cs'.length ∧ g'.sh i = 0 := by
  obtain ⟨us, ss, rest, h1, h2, h3, h4⟩ := hs.rw i _ hi
  rw [h0, List.drop_zero] at h3
  have e1 : RowKit.Below w.heap.size w (Sort.ahead w n) := ⟨rfl, rfl, rfl, Nat.le_refl _, fun _ _ => rfl⟩
  obtain ⟨s1, x1⟩ := sr_above hs e1 (Nat.le_add_right _ _)
  have h1' : (Sort.ahead w n).heap[g.br i]? = some (.cells us t (0, 0)) := h1
  have hput : putRow id (Sort.ahead w n) (g.br i) 0 vs.toArray = (Sort.ahead w n).setRow (g.br i) (putCells id 0 vs.toArray us) := mapBlock_setRow h1' _
  have hvl := hv.length
  have hsl := h4.length
  obtain ⟨g', s2, x2, hb, hc, he, hr, hsh⟩ := s1.setRow (cs := cs') (us := putCells id 0 vs.toArray us) (ss := vs) (rest := rest) hi (by simp only; omega) (by rw [← h2]; simp [putCells]) (by rw [h0, List.drop_zero]; exact putCells_id h3 (by simp only at hsl; omega)) (hv.mono x1)
  rw [← hput] at s2 x2
  have e3 : RowKit.Below (putRow id (Sort.ahead w n) (g.br i) 0 vs.toArray).heap.size (putRow id (Sort.ahead w n) (g.br i) 0 vs.toArray) (grow (putRow id (Sort.ahead w n) (g.br i) 0 vs.toArray) os) :=
    ⟨rfl, rfl, rfl, by rw [size_grow]; omega, fun k hk => heap_grow_old _ _ hk⟩
  obtain ⟨s3, x3⟩ := sr_above s2 e3 (Nat.le_refl _)
  exact ⟨g', s3, (x1.trans x2).trans x3, hb, hc, he, hr, by rw [hsh]; exact h0⟩
def chunk {β : Type} (k n : Nat) (cs : List β) (i : Nat) : List β := (cs.drop (k * min i (n - 1))).take k
theorem chunk_length {β : Type} {k n : Nat} {cs : List β} (hl : cs.length = n * k) (hn : 0 < n) (i : Nat) : (chunk k n cs i).length = k := by
  unfold chunk
  rw [List.length_take, List.length_drop, hl]
  have h1 : min i (n - 1) + 1 ≤ n := by omega
  have h2 := Nat.mul_le_mul_right k h1
  rw [Nat.add_mul, Nat.mul_comm (min i (n - 1)) k] at h2
  omega
theorem flat_at {α β : Type} {k : Nat} (hk : 0 < k) {f : α → List β} (hf : ∀ x, (f x).length = k) : ∀ (l : List α) (j : Nat), (l.map f).flatten[j]? = (l[j / k]?).bind fun x => (f x)[j % k]?
  | [], j => by simp
  | x :: r, j => by
    rw [List.map_cons, List.flatten_cons, List.getElem?_append, hf x]
    by_cases h : j < k
    · rw [if_pos h, Nat.div_eq_of_lt h, Nat.mod_eq_of_lt h]
      rfl
    · rw [if_neg h, flat_at hk hf r (j - k)]
      have h1 : j / k = (j - k) / k + 1 := by rw [← Nat.add_div_right _ hk]; congr 1; omega
      have h2 : j % k = (j - k) % k := by rw [← Nat.add_mod_right (j - k) k]; congr 1; omega
      rw [h1, h2]
      rfl
theorem VRs_chunk {k n : Nat} {cs : List A} {us : List Value} (h : VRs w g cs us) (i : Nat) : VRs w g (chunk k n cs i) (chunk k n us i) := (h.drop _).take _
theorem VRs_flatten {cs us : Nat → List _} (h : ∀ i, VRs w g (cs i) (us i)) : ∀ l : List Nat, VRs w g (l.map cs).flatten (l.map us).flatten
  | [] => VRs.mk_nil
  | x :: r => by
    rw [List.map_cons, List.map_cons, List.flatten_cons, List.flatten_cons]
    exact VRs.append (h x) (VRs_flatten h r)
theorem flatK_list {enc : Nat → List Value} {k : Nat} (hk : 0 < k) (he : ∀ x, (enc x).length = k) (d : Array Nat) : (flatK enc k d).toList = (d.toList.map enc).flatten := by
  apply List.ext_getElem?
  intro t
  rw [flat_at hk he, Array.getElem?_toList]
  by_cases ht : t < d.size * k
  · have h1 : t / k < d.size := by
      rw [Nat.div_lt_iff_lt_mul hk]
      exact ht
    have ht' : t < (flatK enc k d).size := by simpa using ht
    have e0 : d.toList[t / k]? = some d[t / k] := by rw [Array.getElem?_toList]; exact getElem?_pos d (t / k) h1
    have e1 : (flatK enc k d)[t]? = some (flatK enc k d)[t]! := by rw [Array.getElem?_eq_getElem ht', getElem!_pos (flatK enc k d) t ht']
    have e2 : t % k < (enc d[t / k]).length := by rw [he]; exact Nat.mod_lt _ hk
    rw [e0, Option.bind_some, e1, get_flatK _ _ _ _ ht, show d[t / k]! = d[t / k] from getElem!_pos d (t / k) h1, List.getElem?_eq_getElem e2, getElem!_pos (enc d[t / k]) (t % k) e2]
  · have h1 : ¬ t / k < d.size := by
      rw [Nat.div_lt_iff_lt_mul hk]
      exact ht
    have e0 : d.toList[t / k]? = none := by rw [Array.getElem?_toList]; exact Array.getElem?_eq_none (by omega)
    have e1 : (flatK enc k d)[t]? = none := Array.getElem?_eq_none (by rw [size_flatK]; omega)
    rw [e0, e1]
    rfl
theorem flat_id {β : Type} {k : Nat} : ∀ (n : Nat) (cs : List β), cs.length = n * k → ((List.range n).map fun i => (cs.drop (k * i)).take k).flatten = cs
  | 0, cs, h => by
    have : cs = [] := List.eq_nil_of_length_eq_zero (by omega)
    subst this
    rfl
  | n + 1, cs, h => by
    rw [List.range_succ, List.map_append, List.flatten_append]
    have h1 : (cs.take (n * k)).length = n * k := by rw [List.length_take, h, Nat.add_mul]; omega
    have h2 := flat_id n (cs.take (n * k)) h1
    have h3 : ((List.range n).map fun i => (cs.drop (k * i)).take k) = ((List.range n).map fun i => ((cs.take (n * k)).drop (k * i)).take k) := by
      apply List.map_congr_left
      intro i hi
      have hi'' : i < n := by simpa using hi
      have hi' : i + 1 ≤ n := hi''
      have h4 := Nat.mul_le_mul_right k hi'
      rw [Nat.add_mul, Nat.mul_comm i k] at h4
      rw [List.drop_take, List.take_take, Nat.min_eq_left (by omega)]
    rw [h3, h2]
    simp only [List.map_cons, List.map_nil, List.flatten_cons, List.flatten_nil, List.append_nil]
    rw [Nat.mul_comm k n, List.take_of_length_le (i := k) (by rw [List.length_drop, h, Nat.add_mul]; omega), List.take_append_drop]
theorem chunks_id {β : Type} {k n : Nat} {cs : List β} (h : cs.length = n * k) : ((List.range n).map (chunk k n cs)).flatten = cs := by
  rw [← flat_id n cs h]
  congr 1
  apply List.map_congr_left
  intro i hi
  have hi' : i < n := by simpa using hi
  unfold chunk
  rw [Nat.min_eq_left (by omega), flat_id n cs h]
end
noncomputable def sortN (n : Nat) (cf : Nat → Nat → Int) : List Nat := (pdq (ltOf cf) (Array.range n) 0 n (Lib.bitLen n) true true).toList
section
variable {P : Program} {gl : Nat → A} {w0 : World} {g : Gh} {m : Mem} {w w' : World}
theorem world_grown {W w' : World} (h : RowKit.Below W.heap.size W w') (hd : W.drawn ≤ w'.drawn) : ∃ q os', w' = grow (W.drewN q) os' := by
  refine ⟨w'.drawn - W.drawn, w'.heap.extract W.heap.size w'.heap.size, ?_⟩
  have hh : w'.heap = W.heap ++ w'.heap.extract W.heap.size w'.heap.size := by
    apply Array.ext_getElem?
    intro i
    rw [Array.getElem?_append]
    by_cases hi : i < W.heap.size
    · rw [if_pos hi, h.block i hi]
    · rw [if_neg hi, Array.getElem?_extract]
      have := h.size
      by_cases hj : i < w'.heap.size
      · rw [if_pos (by omega)]
        congr 1
        omega
      · rw [if_neg (by omega), Array.getElem?_eq_none (by omega)]
  cases w' with
  | mk heap tape drawn os output =>
    unfold grow World.drewN
    simp only at hh hd ⊢
    have h1 : os = W.os := h.os
    have h2 : tape = W.tape := h.tape
    have h3 : output = W.output := h.output
    rw [← hh, h1, h2, h3]
    congr 1
    omega
def gTop (g : Gh) (w : World) : Gh := { g with F := fun k _ => k < w.heap.size, nb := 0, rl := [] }
theorem fresh_vr (hs : SR P gl w0 g m w) {a : A} {v : Value} (hc : closed 0 0 a = true) (hv : VR w g a v) : VR w (gTop g w) a v := by
  have h1 := VR.cut (nb := 0) (nr := 0) _ _ hc hv
  refine VR.monoB (⟨fun k o hF => ⟨?_, rfl⟩, Nat.zero_le _, fun i hi => ?_, fun i L hL => ?_⟩ : ExtB w (cutG g 0 0) w _) _ _ h1
  · rcases hF with hF | ⟨id, L, _, h2, rfl, _⟩
    · exact hs.lim k o hF
    · exact hs.br_lt (List.getElem?_eq_some_iff.1 h2).1
  · exact absurd hi (by simp [cutG])
  · simp [cutG] at hL
theorem fresh_sr (gl' : Nat → A) (hgl : ∀ n, VR w (gTop g w) (gl' n) (.pointer (some ⟨n, 0, none⟩))) (htb : gl' 1000000009 = .undef) : SR P gl' w (gTop g w) ⟨[], []⟩ w := {
  below := Below.refl _ _
  nb := rfl
  rl := rfl
  es := fun i r h => by simp at h
  bx := fun i r h => by simp at h
  rw := fun i r h => by simp at h
  ownb := fun i h => by simp [gTop] at h
  ownr := fun i h => by simp [gTop] at h
  injb := fun i j h => by simp [gTop] at h
  injr := fun i j h => by simp [gTop] at h
  dis := fun i j h => by simp [gTop] at h
  lim := fun b o h => h
  gl := hgl
  dr := fun _ => Nat.le_refl _
  tb := fun h => by rw [htb] at h; cases h }
def glD (n : Nat) : A := if n = 1000000007 then .rp [] else .undef
theorem glD_vr (n : Nat) : VR w g (glD n) (.pointer (some ⟨n, 0, none⟩)) := by
  unfold glD
  split
  · rw [VR]
    exact ⟨n, 0, [], rfl, VRs.mk_nil, fun j u hj => by simp at hj⟩
  · rw [VR]; trivial
end
end AE
end Go.Proofs.YtmfdpijmholedaaGreatDoor
/- The order of values: plain laws. -/
set_option linter.unusedVariables false
set_option linter.unusedSimpArgs false
namespace Go.Proofs.YtmfdpijmholedaaGreatDoor
namespace AE
open Go
def numC (a b : Int) : Int := if a < b then -1 else if b < a then 1 else 0
def lexI : List Int → List Int → Int
  | [], [] => 0
  | [], _ :: _ => -1
  | _ :: _, [] => 1
  | x :: r, y :: q => if numC x y = 0 then lexI r q else numC x y
mutual
def cmpV : Val → Val → Int
  | .mk n l w, .mk n' l' w' => if numC n n' = 0 then (if cmpL l l' = 0 then lexI w w' else cmpL l l') else numC n n'
def cmpL : List Val → List Val → Int
  | [], [] => 0
  | [], _ :: _ => -1
  | _ :: _, [] => 1
  | x :: r, y :: q => if cmpV x y = 0 then cmpL r q else cmpV x y
end
theorem cmpV_eq (u v : Val) : cmpV u v = if numC u.num v.num = 0 then (if cmpL u.args v.args = 0 then lexI u.ws v.ws else cmpL u.args v.args) else numC u.num v.num := by cases u; cases v; rw [cmpV]; rfl
theorem numC_range (a b : Int) : -1 ≤ numC a b ∧ numC a b ≤ 1 := by
  unfold numC
  repeat' split
  all_goals omega
theorem numC_zero {a b : Int} : numC a b = 0 ↔ a = b := by
  unfold numC
  repeat' split
  all_goals omega
theorem numC_anti (a b : Int) : numC b a = - numC a b := by
  unfold numC
  repeat' split
  all_goals omega
theorem numC_trans {a b c : Int} (h : numC a b ≤ 0) (k : numC b c ≤ 0) : numC a c ≤ 0 := by
  unfold numC at *
  repeat' split at h
  all_goals repeat' split at k
  all_goals repeat' split
  all_goals omega
theorem lexI_range : ∀ l r : List Int, -1 ≤ lexI l r ∧ lexI l r ≤ 1
  | [], [] => by rw [lexI]; omega
  | [], _ :: _ => by rw [lexI]; omega
  | _ :: _, [] => by rw [lexI]; omega
  | x :: r, y :: q => by
    rw [lexI]
    have := lexI_range r q
    have := numC_range x y
    split <;> omega
theorem lexI_zero : ∀ l r : List Int, lexI l r = 0 ↔ l = r
  | [], [] => by simp [lexI]
  | [], _ :: _ => by simp [lexI]
  | _ :: _, [] => by simp [lexI]
  | x :: r, y :: q => by
    rw [lexI, List.cons.injEq]
    by_cases h : numC x y = 0
    · rw [if_pos h, lexI_zero r q]
      simp [numC_zero.1 h]
    · rw [if_neg h]
      exact ⟨fun e => absurd e h, fun e => absurd (numC_zero.2 e.1) h⟩
theorem lexI_anti : ∀ l r : List Int, lexI r l = - lexI l r
  | [], [] => by simp [lexI]
  | [], _ :: _ => by simp [lexI]
  | _ :: _, [] => by simp [lexI]
  | x :: r, y :: q => by
    rw [lexI, lexI, numC_anti x y, lexI_anti r q]
    by_cases h : numC x y = 0
    · rw [if_pos h, if_pos (by omega)]
    · rw [if_neg h, if_neg (by omega)]
theorem lexI_trans : ∀ {l r s : List Int}, lexI l r ≤ 0 → lexI r s ≤ 0 → lexI l s ≤ 0
  | [], _, [], _, _ => by rw [lexI]; omega
  | [], _, _ :: _, _, _ => by rw [lexI]; omega
  | _ :: _, [], s, h, _ => by rw [lexI] at h; omega
  | _ :: _, _ :: _, [], _, k => by rw [lexI] at k; omega
  | x :: r, y :: q, z :: s, h, k => by
    rw [lexI] at h k ⊢
    have a1 := numC_range x y
    have a2 := numC_range y z
    by_cases e1 : numC x y = 0
    · rw [if_pos e1] at h
      rw [numC_zero] at e1
      subst e1
      split
      · rename_i e2
        rw [if_pos e2] at k
        exact lexI_trans h k
      · rename_i e2
        rw [if_neg e2] at k
        exact k
    · rw [if_neg e1] at h
      by_cases e2 : numC y z = 0
      · rw [numC_zero] at e2
        subst e2
        rw [if_neg e1]
        exact h
      · rw [if_neg e2] at k
        have h3 := numC_trans h k
        by_cases e3 : numC x z = 0
        · exfalso
          rw [numC_zero] at e3
          subst e3
          have := numC_anti x y
          omega
        · rw [if_neg e3]
          exact h3
mutual
theorem cmpV_range : ∀ u v : Val, -1 ≤ cmpV u v ∧ cmpV u v ≤ 1
  | .mk n l w, .mk n' l' w' => by
    rw [cmpV]
    have := numC_range n n'
    have := cmpL_range l l'
    have := lexI_range w w'
    repeat' split
    all_goals omega
theorem cmpL_range : ∀ l r : List Val, -1 ≤ cmpL l r ∧ cmpL l r ≤ 1
  | [], [] => by rw [cmpL]; omega
  | [], _ :: _ => by rw [cmpL]; omega
  | _ :: _, [] => by rw [cmpL]; omega
  | x :: r, y :: q => by
    rw [cmpL]
    have := cmpL_range r q
    have := cmpV_range x y
    split <;> omega
end
mutual
theorem cmpV_zero : ∀ u v : Val, cmpV u v = 0 ↔ u = v
  | .mk n l w, .mk n' l' w' => by
    rw [cmpV, Val.mk.injEq]
    by_cases h : numC n n' = 0
    · rw [if_pos h]
      by_cases h2 : cmpL l l' = 0
      · rw [if_pos h2, lexI_zero w w']
        simp [numC_zero.1 h, (cmpL_zero l l').1 h2]
      · rw [if_neg h2]
        exact ⟨fun e => absurd e h2, fun e => absurd ((cmpL_zero l l').2 e.2.1) h2⟩
    · rw [if_neg h]
      exact ⟨fun e => absurd e h, fun e => absurd (numC_zero.2 e.1) h⟩
theorem cmpL_zero : ∀ l r : List Val, cmpL l r = 0 ↔ l = r
  | [], [] => by simp [cmpL]
  | [], _ :: _ => by simp [cmpL]
  | _ :: _, [] => by simp [cmpL]
  | x :: r, y :: q => by
    rw [cmpL, List.cons.injEq]
    by_cases h : cmpV x y = 0
    · rw [if_pos h, cmpL_zero r q]
      simp [(cmpV_zero x y).1 h]
    · rw [if_neg h]
      exact ⟨fun e => absurd e h, fun e => absurd ((cmpV_zero x y).2 e.1) h⟩
end
mutual
theorem cmpV_anti : ∀ u v : Val, cmpV v u = - cmpV u v
  | .mk n l w, .mk n' l' w' => by
    rw [cmpV, cmpV, numC_anti n n', cmpL_anti l l', lexI_anti w w']
    by_cases h : numC n n' = 0
    · rw [if_pos h, if_pos (by omega)]
      by_cases h2 : cmpL l l' = 0
      · rw [if_pos h2, if_pos (by omega)]
      · rw [if_neg h2, if_neg (by omega)]
    · rw [if_neg h, if_neg (by omega)]
theorem cmpL_anti : ∀ l r : List Val, cmpL r l = - cmpL l r
  | [], [] => by simp [cmpL]
  | [], _ :: _ => by simp [cmpL]
  | _ :: _, [] => by simp [cmpL]
  | x :: r, y :: q => by
    rw [cmpL, cmpL, cmpV_anti x y, cmpL_anti r q]
    by_cases h : cmpV x y = 0
    · rw [if_pos h, if_pos (by omega)]
    · rw [if_neg h, if_neg (by omega)]
end
mutual
theorem cmpV_trans : ∀ {u v w : Val}, cmpV u v ≤ 0 → cmpV v w ≤ 0 → cmpV u w ≤ 0
  | .mk n l w, .mk n' l' w', .mk n'' l'' w'', h, k => by
    rw [cmpV] at h k ⊢
    by_cases e1 : numC n n' = 0
    · rw [if_pos e1] at h
      rw [numC_zero] at e1
      subst e1
      by_cases e2 : numC n n'' = 0
      · rw [if_pos e2] at k ⊢
        by_cases f1 : cmpL l l' = 0
        · rw [if_pos f1] at h
          rw [cmpL_zero] at f1
          subst f1
          by_cases f2 : cmpL l l'' = 0
          · rw [if_pos f2] at k ⊢
            exact lexI_trans h k
          · rw [if_neg f2] at k ⊢
            exact k
        · rw [if_neg f1] at h
          by_cases f2 : cmpL l' l'' = 0
          · rw [cmpL_zero] at f2
            subst f2
            rw [if_neg f1]
            exact h
          · rw [if_neg f2] at k
            have h3 := cmpL_trans h k
            by_cases f3 : cmpL l l'' = 0
            · exfalso
              rw [cmpL_zero] at f3
              subst f3
              have := cmpL_anti l l'
              omega
            · rw [if_neg f3]
              exact h3
      · rw [if_neg e2] at k ⊢
        exact k
    · rw [if_neg e1] at h
      by_cases e2 : numC n' n'' = 0
      · rw [numC_zero] at e2
        subst e2
        rw [if_neg e1]
        exact h
      · rw [if_neg e2] at k
        have h3 := numC_trans h k
        by_cases e3 : numC n n'' = 0
        · exfalso
          rw [numC_zero] at e3
          subst e3
          have := numC_anti n n'
          omega
        · rw [if_neg e3]
          exact h3
theorem cmpL_trans : ∀ {l r s : List Val}, cmpL l r ≤ 0 → cmpL r s ≤ 0 → cmpL l s ≤ 0
  | [], _, [], _, _ => by rw [cmpL]; omega
  | [], _, _ :: _, _, _ => by rw [cmpL]; omega
  | _ :: _, [], s, h, _ => by rw [cmpL] at h; omega
  | _ :: _, _ :: _, [], _, k => by rw [cmpL] at k; omega
  | x :: r, y :: q, z :: s, h, k => by
    rw [cmpL] at h k ⊢
    by_cases e1 : cmpV x y = 0
    · rw [if_pos e1] at h
      rw [cmpV_zero] at e1
      subst e1
      split
      · rename_i e2
        rw [if_pos e2] at k
        exact cmpL_trans h k
      · rename_i e2
        rw [if_neg e2] at k
        exact k
    · rw [if_neg e1] at h
      by_cases e2 : cmpV y z = 0
      · rw [cmpV_zero] at e2
        subst e2
        rw [if_neg e1]
        exact h
      · rw [if_neg e2] at k
        have h3 := cmpV_trans h k
        by_cases e3 : cmpV x z = 0
        · exfalso
          rw [cmpV_zero] at e3
          subst e3
          have := cmpV_anti x y
          omega
        · rw [if_neg e3]
          exact h3
end
theorem cmpV_self (u : Val) : cmpV u u = 0 := (cmpV_zero u u).2 rfl
theorem cmpL_drop {l r : List Val} {i : Nat} (h : i < l.length) (h' : i < r.length) : cmpL (l.drop i) (r.drop i) = if cmpV l[i] r[i] = 0 then cmpL (l.drop (i + 1)) (r.drop (i + 1)) else cmpV l[i] r[i] := by
  rw [List.drop_eq_getElem_cons h, List.drop_eq_getElem_cons h', cmpL]
theorem cmpL_long {l r : List Val} {i : Nat} (h : i < l.length) (h' : ¬ i < r.length) : cmpL (l.drop i) (r.drop i) = 1 := by
  rw [List.drop_eq_getElem_cons h, List.drop_eq_nil_of_le (show r.length ≤ i by omega), cmpL]
theorem cmpL_short {l r : List Val} {i : Nat} (h : ¬ i < l.length) (h' : i < r.length) : cmpL (l.drop i) (r.drop i) = -1 := by
  rw [List.drop_eq_nil_of_le (show l.length ≤ i by omega), List.drop_eq_getElem_cons h', cmpL]
theorem cmpL_end {l r : List Val} {i : Nat} (h : ¬ i < l.length) (h' : ¬ i < r.length) : cmpL (l.drop i) (r.drop i) = 0 := by
  rw [List.drop_eq_nil_of_le (show l.length ≤ i by omega), List.drop_eq_nil_of_le (show r.length ≤ i by omega), cmpL]
theorem lexI_drop {l r : List Int} {i : Nat} (h : i < l.length) (h' : i < r.length) : lexI (l.drop i) (r.drop i) = if numC l[i] r[i] = 0 then lexI (l.drop (i + 1)) (r.drop (i + 1)) else numC l[i] r[i] := by
  rw [List.drop_eq_getElem_cons h, List.drop_eq_getElem_cons h', lexI]
theorem lexI_long {l r : List Int} {i : Nat} (h : i < l.length) (h' : ¬ i < r.length) : lexI (l.drop i) (r.drop i) = 1 := by
  rw [List.drop_eq_getElem_cons h, List.drop_eq_nil_of_le (show r.length ≤ i by omega), lexI]
theorem lexI_short {l r : List Int} {i : Nat} (h : ¬ i < l.length) (h' : i < r.length) : lexI (l.drop i) (r.drop i) = -1 := by
  rw [List.drop_eq_nil_of_le (show l.length ≤ i by omega), List.drop_eq_getElem_cons h', lexI]
theorem lexI_end {l r : List Int} {i : Nat} (h : ¬ i < l.length) (h' : ¬ i < r.length) : lexI (l.drop i) (r.drop i) = 0 := by
  rw [List.drop_eq_nil_of_le (show l.length ≤ i by omega), List.drop_eq_nil_of_le (show r.length ≤ i by omega), lexI]
def wtd (k : Int) : Bool := decide (k = 6) || decide (k = 7)
def setsK (k : Int) : Bool := decide (k = 5) || wtd k
def fun0 : Fun := .mk 0 0 []
def argF (f : Fun) (N : Int) (i : Nat) : Fun := if f.kind = 2 then f.args.getD i fun0 else if f.kind = 3 then f.args.getD N.toNat fun0 else f.args.getD 0 fun0
theorem argF_sets {f : Fun} {N : Int} {i : Nat} (h : setsK f.kind = true) : argF f N i = f.args.getD 0 fun0 := by
  unfold setsK wtd at h
  unfold argF
  simp only [Bool.or_eq_true, decide_eq_true_eq] at h
  rw [if_neg (by omega), if_neg (by omega)]
def weighI : List Int → Int → Bool
  | [], _ => true
  | w :: r, s => if w < 1 ∨ 1048576 - s < w then false else weighI r (s + w)
theorem weighI_iff : ∀ (l : List Int) (s : Int), s ≤ 1048576 → (weighI l s = true ↔ (∀ w, w ∈ l → 1 ≤ w) ∧ s + l.sum ≤ 1048576)
  | [], s, h => by
    rw [weighI]
    simp
    omega
  | w :: r, s, h => by
    rw [weighI, List.sum_cons]
    split
    · rename_i hc
      simp only [Bool.false_eq_true, false_iff, List.mem_cons, forall_eq_or_imp]
      rintro ⟨⟨h1, h2⟩, h3⟩
      have h4 : ∀ r : List Int, (∀ a, a ∈ r → 1 ≤ a) → 0 ≤ r.sum := by
        intro r
        induction r with
        | nil => intro _; simp
        | cons a t ih => intro hh; rw [List.sum_cons]; have := hh a List.mem_cons_self; have := ih (fun b hb => hh b (List.mem_cons_of_mem _ hb)); omega
      have := h4 r h2
      omega
    · rename_i hc
      rw [weighI_iff r (s + w) (by omega)]
      simp only [List.mem_cons, forall_eq_or_imp]
      constructor
      · rintro ⟨a, b⟩; exact ⟨⟨by omega, a⟩, by omega⟩
      · rintro ⟨a, b⟩; exact ⟨a.2, by omega⟩
def headL (n : Int) (f : Fun) (k : Int) (many : Nat) (w : List Int) : Bool :=
  (if f.kind = 0 ∨ f.kind = 1 then decide (many = 0) else if f.kind = 2 then decide (f.args.length = many) else if f.kind = 3 then decide (0 ≤ k ∧ k ≤ 1 ∧ many = 1) else if f.kind = 4 then decide (f.num = many) else true)
  && decide (0 ≤ k ∧ k ≤ (if f.kind = 0 then n - 1 else if f.kind = 1 then f.num - 1 else if f.kind = 3 then 1 else 0))
  && (if wtd f.kind then weighI w 0 && decide (w.length = many) && (decide (f.kind = 6) || decide (0 < many)) else decide (w.length = 0))
def strictL : List Val → Bool
  | [] => true
  | [_] => true
  | x :: y :: r => decide (cmpV x y < 0) && strictL (y :: r)
def gcdF (g : Nat) (l : List Int) : Nat := l.foldl (fun g w => Nat.gcd g w.natAbs) g
def gcdN (l : List Int) : Nat := gcdF 0 l
def exN (f : Fun) (l : List Val) (w : List Int) : Bool := if setsK f.kind then (!decide (f.kind = 7) || decide (gcdN w = 1)) && strictL l else true
def exS (f : Fun) (l : List Val) (w : List Int) : Bool := (!setsK f.kind || decide (l.length ≤ 100)) && exN f l w
def exL (f : Fun) (l : List Val) (w : List Int) : Bool := true
mutual
def chkV (ex : Fun → List Val → List Int → Bool) (n : Int) : Val → Fun → Int → Bool × Int
  | .mk k l w, f, q => if q - 1 < 0 ∨ headL n f k l.length w = false ∨ ex f l w = false then (false, q - 1) else chkL ex n l (argF f k) 0 (q - 1)
def chkL (ex : Fun → List Val → List Int → Bool) (n : Int) : List Val → (Nat → Fun) → Nat → Int → Bool × Int
  | [], _, _, q => (true, q)
  | v :: r, g, i, q => if (chkV ex n v (g i) q).1 then chkL ex n r g (i + 1) (chkV ex n v (g i) q).2 else (false, (chkV ex n v (g i) q).2)
end
mutual
def okV (ex : Fun → List Val → List Int → Bool) (n : Int) : Val → Fun → Bool
  | .mk k l w, f => headL n f k l.length w && ex f l w && okL ex n l (argF f k) 0
def okL (ex : Fun → List Val → List Int → Bool) (n : Int) : List Val → (Nat → Fun) → Nat → Bool
  | [], _, _ => true
  | v :: r, g, i => okV ex n v (g i) && okL ex n r g (i + 1)
end
mutual
theorem chkV_spec (ex : Fun → List Val → List Int → Bool) (n : Int) : ∀ (v : Val) (f : Fun) (q : Int), 0 ≤ q → ((chkV ex n v f q).1 = true ↔ ((v.nodes : Int) ≤ q ∧ okV ex n v f = true)) ∧ ((chkV ex n v f q).1 = true → (chkV ex n v f q).2 = q - v.nodes)
  | .mk k l w, f, q, h => by
    rw [chkV, Val.nodes_eq, okV]
    simp only [Val.args_mk]
    split
    · rename_i hc
      simp only [Bool.false_eq_true, false_iff, false_implies, and_true, Bool.and_eq_true]
      rintro ⟨h1, ⟨h2, h3⟩, h4⟩
      rcases hc with hc | hc | hc
      · omega
      · rw [h2] at hc; cases hc
      · rw [h3] at hc; cases hc
    · rename_i hc
      simp only [not_or, Int.not_lt, Bool.not_eq_false] at hc
      have := chkL_spec ex n l (argF f k) 0 (q - 1) hc.1
      rw [hc.2.1, hc.2.2]
      simp only [Bool.true_and]
      refine ⟨this.1.trans ⟨fun ⟨a, b⟩ => ⟨by omega, b⟩, fun ⟨a, b⟩ => ⟨by omega, b⟩⟩, fun hv => ?_⟩
      rw [this.2 hv]
      omega
theorem chkL_spec (ex : Fun → List Val → List Int → Bool) (n : Int) : ∀ (l : List Val) (g : Nat → Fun) (i : Nat) (q : Int), 0 ≤ q → ((chkL ex n l g i q).1 = true ↔ ((Val.nodesL l : Int) ≤ q ∧ okL ex n l g i = true)) ∧ ((chkL ex n l g i q).1 = true → (chkL ex n l g i q).2 = q - Val.nodesL l)
  | [], g, i, q, h => by
    rw [chkL, Val.nodesL, okL]
    simp
    omega
  | v :: r, g, i, q, h => by
    rw [chkL, Val.nodesL, okL]
    have h1 := chkV_spec ex n v (g i) q h
    simp only [Bool.and_eq_true]
    split
    · rename_i hv
      have h2 := h1.2 hv
      have h3 := h1.1.1 hv
      have h4 := chkL_spec ex n r g (i + 1) (q - v.nodes) (by omega)
      rw [h2]
      refine ⟨h4.1.trans ⟨fun ⟨a, b⟩ => ⟨by omega, h3.2, b⟩, fun ⟨a, b⟩ => ⟨by omega, b.2⟩⟩, fun hv' => ?_⟩
      rw [h4.2 hv']
      omega
    · rename_i hv
      simp only [Bool.false_eq_true, false_iff, false_implies, and_true]
      rintro ⟨a, b, c⟩
      exact hv (h1.1.2 ⟨by omega, b⟩)
end
def insP (u : Val) (w : Int) : List (Val × Int) → List (Val × Int)
  | [] => [(u, w)]
  | p :: r => if cmpV u p.1 = 0 then (p.1, p.2 + w) :: r else if cmpV u p.1 < 0 then (u, w) :: p :: r else p :: insP u w r
def mergeF (o l : List (Val × Int)) : List (Val × Int) := l.foldl (fun o p => insP p.1 p.2 o) o
def wsOf (k : Int) (xs : List Val) (ws : List Int) : List Int := if wtd k then ws else xs.map fun _ => 0
def mergeP (k : Int) (xs : List Val) (ws : List Int) : List (Val × Int) := mergeF [] (xs.zip (wsOf k xs ws))
def divG (l : List Int) : List Int := l.map fun w => w.tdiv (gcdN l)
def mergeV (kind k : Int) (xs : List Val) (ws : List Int) : Val :=
  .mk k ((mergeP kind xs ws).map (·.1)) (if kind = 7 then divG ((mergeP kind xs ws).map (·.2)) else if wtd kind then (mergeP kind xs ws).map (·.2) else [])
def LtP (a b : Val × Int) : Prop := cmpV a.1 b.1 < 0
theorem cmpV_lt_trans {u v w : Val} (h : cmpV u v < 0) (k : cmpV v w < 0) : cmpV u w < 0 := by
  have h1 := cmpV_trans (u := u) (v := v) (w := w) (by omega) (by omega)
  by_cases h2 : cmpV u w = 0
  · rw [cmpV_zero] at h2
    subst h2
    have := cmpV_anti u v
    omega
  · omega
theorem insP_fst {u : Val} {w : Int} : ∀ {o : List (Val × Int)} {p : Val × Int}, p ∈ insP u w o → p.1 = u ∨ ∃ q, q ∈ o ∧ p.1 = q.1
  | [], p, h => by
    rw [insP] at h
    simp at h
    exact .inl (by rw [h])
  | x :: r, p, h => by
    rw [insP] at h
    split at h
    · rcases List.mem_cons.1 h with rfl | h
      · exact .inr ⟨x, List.mem_cons_self, rfl⟩
      · exact .inr ⟨p, List.mem_cons_of_mem _ h, rfl⟩
    · split at h
      · rcases List.mem_cons.1 h with rfl | h
        · exact .inl rfl
        · exact .inr ⟨p, h, rfl⟩
      · rcases List.mem_cons.1 h with rfl | h
        · exact .inr ⟨p, List.mem_cons_self, rfl⟩
        · rcases insP_fst h with h | ⟨q, h1, h2⟩
          · exact .inl h
          · exact .inr ⟨q, List.mem_cons_of_mem _ h1, h2⟩
theorem insP_sorted {u : Val} {w : Int} : ∀ {o : List (Val × Int)}, o.Pairwise LtP → (insP u w o).Pairwise LtP
  | [], _ => by rw [insP]; exact List.pairwise_singleton _ _
  | x :: r, h => by
    rw [List.pairwise_cons] at h
    rw [insP]
    split
    · exact List.pairwise_cons.2 ⟨fun b hb => h.1 b hb, h.2⟩
    · split
      · rename_i hl
        refine List.pairwise_cons.2 ⟨fun b hb => ?_, List.pairwise_cons.2 h⟩
        rcases List.mem_cons.1 hb with rfl | hb
        · exact hl
        · exact cmpV_lt_trans hl (h.1 b hb)
      · rename_i h0 hl
        refine List.pairwise_cons.2 ⟨fun b hb => ?_, insP_sorted h.2⟩
        rcases insP_fst hb with hb | ⟨q, h1, h2⟩
        · unfold LtP
          rw [hb, cmpV_anti u x.1]
          omega
        · unfold LtP
          rw [h2]
          exact h.1 q h1
theorem mergeF_sorted : ∀ (l o : List (Val × Int)), o.Pairwise LtP → (mergeF o l).Pairwise LtP
  | [], o, h => h
  | p :: r, o, h => mergeF_sorted r _ (insP_sorted h)
theorem mergeF_fst : ∀ (l o : List (Val × Int)) (p : Val × Int), p ∈ mergeF o l → (∃ q, q ∈ l ∧ p.1 = q.1) ∨ ∃ q, q ∈ o ∧ p.1 = q.1
  | [], o, p, h => .inr ⟨p, h, rfl⟩
  | x :: r, o, p, h => by
    rcases mergeF_fst r (insP x.1 x.2 o) p h with ⟨q, h1, h2⟩ | ⟨q, h1, h2⟩
    · exact .inl ⟨q, List.mem_cons_of_mem _ h1, h2⟩
    · rcases insP_fst h1 with h3 | ⟨q', h3, h4⟩
      · exact .inl ⟨x, List.mem_cons_self, by rw [h2, h3]⟩
      · exact .inr ⟨q', h3, by rw [h2, h4]⟩
theorem insP_sum (u : Val) (w : Int) : ∀ o : List (Val × Int), ((insP u w o).map (·.2)).sum = w + (o.map (·.2)).sum
  | [] => by rw [insP]; simp
  | x :: r => by
    rw [insP]
    split
    · simp; omega
    · split
      · simp
      · simp [insP_sum u w r]; omega
theorem mergeF_sum : ∀ (l o : List (Val × Int)), ((mergeF o l).map (·.2)).sum = (l.map (·.2)).sum + (o.map (·.2)).sum
  | [], o => by simp [mergeF]
  | p :: r, o => by
    have := mergeF_sum r (insP p.1 p.2 o)
    rw [show mergeF o (p :: r) = mergeF (insP p.1 p.2 o) r from rfl, this, insP_sum]
    simp
    omega
theorem insP_pos {u : Val} {w : Int} (hw : 1 ≤ w) : ∀ {o : List (Val × Int)}, (∀ p, p ∈ o → 1 ≤ p.2) → ∀ p, p ∈ insP u w o → 1 ≤ p.2
  | [], _, p, h => by
    rw [insP] at h
    simp at h
    rw [h]
    exact hw
  | x :: r, ho, p, h => by
    rw [insP] at h
    split at h
    · rcases List.mem_cons.1 h with rfl | h
      · have := ho x List.mem_cons_self; simp only; omega
      · exact ho p (List.mem_cons_of_mem _ h)
    · split at h
      · rcases List.mem_cons.1 h with rfl | h
        · exact hw
        · exact ho p h
      · rcases List.mem_cons.1 h with rfl | h
        · exact ho p List.mem_cons_self
        · exact insP_pos hw (fun q hq => ho q (List.mem_cons_of_mem _ hq)) p h
theorem mergeF_pos : ∀ (l o : List (Val × Int)), (∀ p, p ∈ l → 1 ≤ p.2) → (∀ p, p ∈ o → 1 ≤ p.2) → ∀ p, p ∈ mergeF o l → 1 ≤ p.2
  | [], o, _, h => h
  | x :: r, o, hl, ho => mergeF_pos r _ (fun q hq => hl q (List.mem_cons_of_mem _ hq)) (insP_pos (hl x List.mem_cons_self) ho)
theorem insP_ne (u : Val) (w : Int) (o : List (Val × Int)) : insP u w o ≠ [] := by
  cases o with
  | nil => rw [insP]; simp
  | cons p r => rw [insP]; split <;> (try split) <;> simp
theorem mergeF_ne : ∀ (l o : List (Val × Int)), o ≠ [] ∨ l ≠ [] → mergeF o l ≠ []
  | [], o, h => by simpa [mergeF] using h
  | p :: r, o, _ => mergeF_ne r _ (.inl (insP_ne _ _ _))
theorem insP_end {u : Val} {w : Int} : ∀ {o : List (Val × Int)}, (∀ p, p ∈ o → cmpV p.1 u < 0) → insP u w o = o ++ [(u, w)]
  | [], _ => by rw [insP]; rfl
  | x :: r, h => by
    have h1 := h x List.mem_cons_self
    have h2 := cmpV_anti x.1 u
    rw [insP, if_neg (by omega), if_neg (by omega), insP_end fun p hp => h p (List.mem_cons_of_mem _ hp)]
    rfl
theorem mergeF_id : ∀ (l o : List (Val × Int)), (o ++ l).Pairwise LtP → mergeF o l = o ++ l
  | [], o, _ => by simp [mergeF]
  | p :: r, o, h => by
    have h1 := List.pairwise_append.1 h
    rw [show mergeF o (p :: r) = mergeF (insP p.1 p.2 o) r from rfl, insP_end fun q hq => h1.2.2 q hq p List.mem_cons_self, mergeF_id r _ (by simpa using h)]
    simp
theorem gcdF_dvd : ∀ (l : List Int) (g : Nat), gcdF g l ∣ g ∧ ∀ w, w ∈ l → gcdF g l ∣ w.natAbs
  | [], g => ⟨Nat.dvd_refl _, fun w h => by cases h⟩
  | x :: r, g => by
    have h := gcdF_dvd r (Nat.gcd g x.natAbs)
    rw [show gcdF g (x :: r) = gcdF (Nat.gcd g x.natAbs) r from rfl]
    refine ⟨Nat.dvd_trans h.1 (Nat.gcd_dvd_left _ _), fun w hw => ?_⟩
    rcases List.mem_cons.1 hw with rfl | hw
    · exact Nat.dvd_trans h.1 (Nat.gcd_dvd_right _ _)
    · exact h.2 w hw
theorem dvd_gcdF : ∀ (l : List Int) (g d : Nat), d ∣ g → (∀ w, w ∈ l → d ∣ w.natAbs) → d ∣ gcdF g l
  | [], g, d, h, _ => h
  | x :: r, g, d, h, k => dvd_gcdF r _ d (Nat.dvd_gcd h (k x List.mem_cons_self)) fun w hw => k w (List.mem_cons_of_mem _ hw)
theorem gcdN_pos {l : List Int} (hne : l ≠ []) (h : ∀ w, w ∈ l → 1 ≤ w) : 0 < gcdN l := by
  cases l with
  | nil => exact absurd rfl hne
  | cons x r =>
    have h1 := (gcdF_dvd (x :: r) 0).2 x List.mem_cons_self
    have h2 := h x List.mem_cons_self
    exact Nat.pos_of_dvd_of_pos h1 (by omega)
theorem tdiv_pos {w : Int} {g : Nat} (hw : 1 ≤ w) (hg : 0 < g) (hd : g ∣ w.natAbs) : 1 ≤ w.tdiv g ∧ w.tdiv g ≤ w ∧ (w.tdiv g).natAbs * g = w.natAbs := by
  obtain ⟨n, rfl⟩ : ∃ n : Nat, w = n := ⟨w.toNat, by omega⟩
  obtain ⟨c, hc⟩ := hd
  simp only [Int.natAbs_natCast] at hc
  subst hc
  have h1 : ((g * c : Nat) : Int).tdiv (g : Int) = (c : Int) := by
    rw [Int.tdiv_eq_ediv_of_nonneg (by omega), ← Int.natCast_ediv, Nat.mul_div_cancel_left _ hg]
  rw [h1]
  have h2 : 0 < c := by
    rcases Nat.eq_zero_or_pos c with rfl | h
    · simp at hw
    · exact h
  refine ⟨by omega, ?_, ?_⟩
  · have : c ≤ g * c := Nat.le_mul_of_pos_left _ hg
    omega
  · rw [Int.natAbs_natCast, Int.natAbs_natCast, Nat.mul_comm]
theorem divG_pos {l : List Int} (h : ∀ w, w ∈ l → 1 ≤ w) : ∀ w, w ∈ divG l → 1 ≤ w := by
  intro w hw
  unfold divG at hw
  obtain ⟨x, hx, rfl⟩ := List.mem_map.1 hw
  exact (tdiv_pos (h x hx) (gcdN_pos (by rintro rfl; cases hx) h) ((gcdF_dvd l 0).2 x hx)).1
theorem map_sum_le {f : Int → Int} : ∀ {l : List Int}, (∀ w, w ∈ l → f w ≤ w) → (l.map f).sum ≤ l.sum
  | [], _ => by simp
  | x :: r, h => by
    have := map_sum_le fun w hw => h w (List.mem_cons_of_mem _ hw)
    have := h x List.mem_cons_self
    simp
    omega
theorem divG_sum {l : List Int} (h : ∀ w, w ∈ l → 1 ≤ w) : (divG l).sum ≤ l.sum :=
  map_sum_le fun w hw => (tdiv_pos (h w hw) (gcdN_pos (by rintro rfl; cases hw) h) ((gcdF_dvd l 0).2 w hw)).2.1
theorem divG_gcd {l : List Int} (hne : l ≠ []) (h : ∀ w, w ∈ l → 1 ≤ w) : gcdN (divG l) = 1 := by
  have hg := gcdN_pos hne h
  have h1 : gcdN (divG l) * gcdN l ∣ gcdN l := by
    refine dvd_gcdF l 0 _ (Nat.dvd_zero _) fun w hw => ?_
    have h2 := tdiv_pos (h w hw) hg ((gcdF_dvd l 0).2 w hw)
    rw [← h2.2.2]
    exact Nat.mul_dvd_mul_right ((gcdF_dvd (divG l) 0).2 _ (List.mem_map.2 ⟨w, hw, rfl⟩)) _
  have h3 := Nat.le_of_dvd hg h1
  have h4 : 0 < gcdN (divG l) := Nat.pos_of_dvd_of_pos (Nat.dvd_trans (Nat.dvd_mul_right _ _) h1) hg
  rcases Nat.lt_or_ge 1 (gcdN (divG l)) with h5 | h5
  · have := Nat.mul_le_mul_right (gcdN l) h5
    omega
  · omega
theorem divG_one {l : List Int} (h : gcdN l = 1) : divG l = l := by
  unfold divG
  rw [h]
  simp
theorem strictL_iff : ∀ l : List Val, strictL l = true ↔ l.Pairwise fun a b => cmpV a b < 0
  | [] => by simp [strictL]
  | [x] => by simp [strictL]
  | x :: y :: r => by
    rw [strictL, Bool.and_eq_true, decide_eq_true_eq, strictL_iff (y :: r), List.pairwise_cons (a := x)]
    constructor
    · rintro ⟨h1, h2⟩
      refine ⟨fun b hb => ?_, h2⟩
      rcases List.mem_cons.1 hb with rfl | hb
      · exact h1
      · exact cmpV_lt_trans h1 ((List.pairwise_cons.1 h2).1 b hb)
    · rintro ⟨h1, h2⟩
      exact ⟨h1 y List.mem_cons_self, h2⟩
theorem strictL_fst {o : List (Val × Int)} (h : o.Pairwise LtP) : strictL (o.map (·.1)) = true := by
  rw [strictL_iff, List.pairwise_map]
  exact h
mutual
def normV (n : Int) : Val → Fun → Option Val
  | .mk k l w, f => if headL n f k l.length w then (normL n l (argF f k) 0).map (fun xs => if setsK f.kind then mergeV f.kind k xs w else .mk k xs w) else none
def normL (n : Int) : List Val → (Nat → Fun) → Nat → Option (List Val)
  | [], _, _ => some []
  | v :: r, g, i => (normV n v (g i)).bind fun x => (normL n r g (i + 1)).map (x :: ·)
end
theorem normL_length (n : Int) : ∀ (l : List Val) (g : Nat → Fun) (i : Nat) (xs : List Val), normL n l g i = some xs → xs.length = l.length
  | [], g, i, xs, h => by rw [normL] at h; cases h; rfl
  | v :: r, g, i, xs, h => by
    rw [normL] at h
    simp only [Option.bind_eq_some_iff, Option.map_eq_some_iff] at h
    obtain ⟨x, h1, y, h2, rfl⟩ := h
    rw [List.length_cons, List.length_cons, normL_length n r g (i + 1) y h2]
theorem okL_const {ex : Fun → List Val → List Int → Bool} {n : Int} {c : Fun} : ∀ {l : List Val} {g : Nat → Fun} {i : Nat}, (∀ i, g i = c) → (okL ex n l g i = true ↔ ∀ x, x ∈ l → okV ex n x c = true)
  | [], g, i, h => by simp [okL]
  | v :: r, g, i, h => by
    rw [okL, Bool.and_eq_true, okL_const h, h i]
    simp
theorem zip_fst {α β : Type} : ∀ {l : List α} {r : List β} {p : α × β}, p ∈ l.zip r → p.1 ∈ l ∧ p.2 ∈ r := fun h => List.of_mem_zip h
theorem zip_snd_map {α β : Type} : ∀ {l : List α} {r : List β}, r.length = l.length → (l.zip r).map (·.2) = r := fun h => List.map_snd_zip (by omega)
theorem zip_fst_map {α β : Type} : ∀ {l : List α} {r : List β}, r.length = l.length → (l.zip r).map (·.1) = l := fun h => List.map_fst_zip (by omega)
theorem head_sets {n : Int} {f : Fun} {k : Int} {m : Nat} {w : List Int} (hs : setsK f.kind = true) : headL n f k m w = true ↔ k = 0 ∧ (if wtd f.kind then weighI w 0 = true ∧ w.length = m ∧ (f.kind = 6 ∨ 0 < m) else w.length = 0) := by
  unfold setsK wtd at hs
  simp only [Bool.or_eq_true, decide_eq_true_eq] at hs
  unfold headL
  rw [if_neg (by omega), if_neg (by omega), if_neg (by omega), if_neg (by omega), if_neg (by omega), if_neg (by omega), if_neg (by omega)]
  simp only [Bool.true_and, Bool.and_eq_true, decide_eq_true_eq]
  cases wtd f.kind
  · simp only [Bool.false_eq_true, if_false, decide_eq_true_eq]
    omega
  · simp only [if_true, Bool.and_eq_true, Bool.or_eq_true, decide_eq_true_eq]
    constructor
    · rintro ⟨a, ⟨b, c⟩, d⟩; exact ⟨by omega, b, c, d⟩
    · rintro ⟨a, b, c, d⟩; exact ⟨by omega, ⟨b, c⟩, d⟩
theorem merge_ok {n : Int} {f : Fun} {k : Int} {xs : List Val} {w : List Int} (hs : setsK f.kind = true) (hh : headL n f k xs.length w = true) (hx : ∀ x, x ∈ xs → okV exN n x (f.args.getD 0 fun0) = true) : okV exN n (mergeV f.kind k xs w) f = true := by
  rw [head_sets hs] at hh
  unfold mergeV
  rw [okV, Bool.and_eq_true, Bool.and_eq_true]
  have hsort : (mergeP f.kind xs w).Pairwise LtP := mergeF_sorted _ _ List.Pairwise.nil
  have hlen : (wsOf f.kind xs w).length = xs.length := by
    unfold wsOf
    cases hw : wtd f.kind
    · simp
    · rw [hw] at hh; simp only [if_true] at hh; simpa using hh.2.2.1
  have hmem : ∀ p, p ∈ mergeP f.kind xs w → p.1 ∈ xs := by
    intro p hp
    rcases mergeF_fst _ _ p hp with ⟨q, h1, h2⟩ | ⟨q, h1, _⟩
    · rw [h2]; exact (zip_fst h1).1
    · cases h1
  refine ⟨⟨?_, ?_⟩, ?_⟩
  · rw [head_sets hs]
    refine ⟨hh.1, ?_⟩
    cases hw : wtd f.kind
    · simp only [Bool.false_eq_true, if_false]
      have : ¬ f.kind = 7 := by intro h; rw [h] at hw; cases hw
      rw [if_neg this]
      rfl
    · rw [hw] at hh
      simp only [if_true] at hh ⊢
      rw [weighI_iff _ _ (by omega)] at hh
      have hz : wsOf f.kind xs w = w := by unfold wsOf; rw [hw, if_pos rfl]
      rw [hz] at hlen
      have hpos : ∀ x, x ∈ (mergeP f.kind xs w).map (·.2) → 1 ≤ x := by
        intro x hx
        obtain ⟨p, hp, rfl⟩ := List.mem_map.1 hx
        refine mergeF_pos _ _ (fun q hq => ?_) (fun q hq => by cases hq) p hp
        rw [hz] at hq
        exact hh.2.1.1 _ (zip_fst hq).2
      have hsum : ((mergeP f.kind xs w).map (·.2)).sum = w.sum := by
        unfold mergeP
        rw [mergeF_sum, hz, zip_snd_map hlen]
        simp
      have hne : f.kind = 6 ∨ 0 < (mergeP f.kind xs w).length := by
        rcases hh.2.2.2 with h | h
        · exact .inl h
        · refine .inr (List.length_pos_iff.2 (mergeF_ne _ _ (.inr ?_)))
          intro h0
          have := congrArg List.length h0
          rw [List.length_zip, hz, hlen] at this
          simp at this
          rw [this] at h
          cases h
      rw [weighI_iff _ _ (by omega)]
      split
      · refine ⟨⟨divG_pos hpos, ?_⟩, by unfold divG; simp, by simpa using hne⟩
        have := divG_sum hpos
        omega
      · refine ⟨⟨hpos, by omega⟩, by simp, by simpa using hne⟩
  · unfold exN
    rw [if_pos hs, Bool.and_eq_true]
    refine ⟨?_, strictL_fst hsort⟩
    by_cases h7 : f.kind = 7
    · have hw : wtd f.kind = true := by rw [h7]; rfl
      rw [hw] at hh
      simp only [if_true] at hh
      rw [weighI_iff _ _ (by omega)] at hh
      have hz : wsOf f.kind xs w = w := by unfold wsOf; rw [hw, if_pos rfl]
      rw [hz] at hlen
      have hpos : ∀ x, x ∈ (mergeP f.kind xs w).map (·.2) → 1 ≤ x := by
        intro x hx
        obtain ⟨p, hp, rfl⟩ := List.mem_map.1 hx
        refine mergeF_pos _ _ (fun q hq => ?_) (fun q hq => by cases hq) p hp
        rw [hz] at hq
        exact hh.2.1.1 _ (zip_fst hq).2
      rw [if_pos h7]
      simp only [h7, decide_true, Bool.not_true, Bool.false_or, decide_eq_true_eq]
      rw [← h7]
      refine divG_gcd ?_ hpos
      intro h0
      have h0' := List.map_eq_nil_iff.1 h0
      refine mergeF_ne _ _ (.inr ?_) h0'
      intro h1
      have := congrArg List.length h1
      rw [List.length_zip, hz, hlen] at this
      simp at this
      have h8 := hh.2.2.2
      rw [this] at h8
      simp at h8
      omega
    · simp [h7]
  · rw [okL_const (c := f.args.getD 0 fun0) fun i => argF_sets hs]
    intro x hx'
    obtain ⟨p, hp, rfl⟩ := List.mem_map.1 hx'
    exact hx _ (hmem p hp)
theorem merge_id {n : Int} {f : Fun} {k : Int} {xs : List Val} {w : List Int} (hs : setsK f.kind = true) (hh : headL n f k xs.length w = true) (he : exN f xs w = true) : mergeV f.kind k xs w = .mk k xs w := by
  rw [head_sets hs] at hh
  unfold exN at he
  rw [if_pos hs, Bool.and_eq_true, strictL_iff] at he
  have hlen : (wsOf f.kind xs w).length = xs.length := by
    unfold wsOf
    cases hw : wtd f.kind
    · simp
    · rw [hw] at hh; simp only [if_true] at hh; simpa using hh.2.2.1
  have h1 : mergeP f.kind xs w = xs.zip (wsOf f.kind xs w) := by
    unfold mergeP
    rw [mergeF_id, List.nil_append]
    rw [List.nil_append]
    have := he.2
    rw [← zip_fst_map hlen, List.pairwise_map] at this
    exact this
  unfold mergeV
  rw [h1, zip_fst_map hlen, zip_snd_map hlen]
  unfold wsOf
  cases hw : wtd f.kind
  · rw [hw] at hh
    simp only [Bool.false_eq_true, if_false] at hh ⊢
    have : ¬ f.kind = 7 := by intro h; rw [h] at hw; cases hw
    rw [if_neg this, List.eq_nil_of_length_eq_zero hh.2]
  · simp only [if_true]
    split
    · rename_i h7
      rw [divG_one (by simpa [h7] using he.1)]
    · rfl
mutual
theorem norm_ok (n : Int) : ∀ (v : Val) (f : Fun) (y : Val), normV n v f = some y → okV exN n y f = true
  | .mk k l w, f, y, h => by
    rw [normV] at h
    split at h
    · rename_i hh
      simp only [Option.map_eq_some_iff] at h
      obtain ⟨xs, hx, rfl⟩ := h
      have hl := normL_length n _ _ _ _ hx
      have ho := normL_ok n l (argF f k) 0 xs hx
      split
      · rename_i hs
        rw [← hl] at hh
        rw [okL_const (c := f.args.getD 0 fun0) fun i => argF_sets hs] at ho
        exact merge_ok hs hh ho
      · rename_i hs
        rw [okV, hl, hh, ho]
        unfold exN
        rw [if_neg hs]
        rfl
    · cases h
theorem normL_ok (n : Int) : ∀ (l : List Val) (g : Nat → Fun) (i : Nat) (xs : List Val), normL n l g i = some xs → okL exN n xs g i = true
  | [], g, i, xs, h => by rw [normL] at h; cases h; rw [okL]
  | v :: r, g, i, xs, h => by
    rw [normL] at h
    simp only [Option.bind_eq_some_iff, Option.map_eq_some_iff] at h
    obtain ⟨x, h1, y, h2, rfl⟩ := h
    rw [okL, norm_ok n v (g i) x h1, normL_ok n r g (i + 1) y h2]
    rfl
end
mutual
theorem norm_id (n : Int) : ∀ (v : Val) (f : Fun), okV exN n v f = true → normV n v f = some v
  | .mk k l w, f, h => by
    rw [okV, Bool.and_eq_true, Bool.and_eq_true] at h
    rw [normV, if_pos h.1.1, normL_id n l _ _ h.2, Option.map_some]
    split
    · rename_i hs
      rw [merge_id hs h.1.1 h.1.2]
    · rfl
theorem normL_id (n : Int) : ∀ (l : List Val) (g : Nat → Fun) (i : Nat), okL exN n l g i = true → normL n l g i = some l
  | [], g, i, h => by rw [normL]
  | v :: r, g, i, h => by
    rw [okL, Bool.and_eq_true] at h
    rw [normL, norm_id n v _ h.1, normL_id n r _ _ h.2]
    rfl
end
mutual
def wideV : Val → Fun → Bool
  | .mk k l w, f => (setsK f.kind && decide (100 < l.length)) || wideL l (argF f k) 0
def wideL : List Val → (Nat → Fun) → Nat → Bool
  | [], _, _ => false
  | v :: r, g, i => wideV v (g i) || wideL r g (i + 1)
end
mutual
theorem ok_wide (n : Int) : ∀ (v : Val) (f : Fun), okV exS n v f = (okV exN n v f && !wideV v f)
  | .mk k l w, f => by
    rw [okV, okV, wideV, okL_wide n l (argF f k) 0]
    unfold exS
    have : decide (l.length ≤ 100) = !decide (100 < l.length) := by rw [Bool.eq_iff_iff]; simp
    rw [this]
    cases setsK f.kind <;> cases decide (100 < l.length) <;> cases headL n f k l.length w <;> cases exN f l w <;> cases okL exN n l (argF f k) 0 <;> cases wideL l (argF f k) 0 <;> rfl
theorem okL_wide (n : Int) : ∀ (l : List Val) (g : Nat → Fun) (i : Nat), okL exS n l g i = (okL exN n l g i && !wideL l g i)
  | [], g, i => by rw [okL, okL, wideL]; rfl
  | v :: r, g, i => by
    rw [okL, okL, wideL, ok_wide n v (g i), okL_wide n r g (i + 1)]
    cases okV exN n v (g i) <;> cases wideV v (g i) <;> cases okL exN n r g (i + 1) <;> cases wideL r g (i + 1) <;> rfl
end
def selfV (n : Int) (v : Val) (f : Fun) : Bool := match normV n v f with
  | some w => !wideV w f && decide (cmpV w v = 0)
  | none => false
theorem selfV_ok (n : Int) (v : Val) (f : Fun) : selfV n v f = okV exS n v f := by
  rw [ok_wide]
  unfold selfV
  cases h : normV n v f with
  | none =>
    cases h1 : okV exN n v f
    · rfl
    · rw [norm_id n v f h1] at h; cases h
  | some w =>
    simp only
    by_cases hc : cmpV w v = 0
    · rw [decide_eq_true hc, Bool.and_true]
      rw [cmpV_zero] at hc
      subst hc
      rw [norm_ok n _ _ _ h, Bool.true_and]
    · rw [decide_eq_false hc, Bool.and_false]
      cases h1 : okV exN n v f
      · rfl
      · rw [norm_id n v f h1] at h
        cases h
        exact absurd (cmpV_self _) hc
end AE
end Go.Proofs.YtmfdpijmholedaaGreatDoor
/- Elements with weights that the library sorts. -/
set_option linter.unusedVariables false
set_option linter.unusedSimpArgs false
namespace Go.Proofs.YtmfdpijmholedaaGreatDoor
namespace AE
open Go Go.RowKit Go.Sort Go.Shelf Go.Lib
mutual
def slimV : Val → Prop
  | .mk _ l w => w.length ≤ 1000000000 ∧ slimL l
def slimL : List Val → Prop
  | [] => True
  | f :: r => slimV f ∧ slimL r
end
theorem slimV_eq (f : Val) : slimV f = (f.ws.length ≤ 1000000000 ∧ slimL f.args) := by cases f; rw [slimV]; rfl
theorem slimL_mem : ∀ {l : List Val} {f : Val}, slimL l → f ∈ l → slimV f
  | g :: r, f, h, hm => by
    rw [slimL] at h
    rcases List.mem_cons.1 hm with rfl | hm
    · exact h.1
    · exact slimL_mem h.2 hm
theorem ints_inj : ∀ {a b : List Int}, ints a = ints b → a = b
  | [], [], _ => rfl
  | [], _ :: _, h => by cases h
  | _ :: _, [], h => by cases h
  | x :: r, y :: q, h => by
    have h' : A.int .i64 x :: ints r = A.int .i64 y :: ints q := h
    simp only [List.cons.injEq, A.int.injEq, true_and] at h'
    rw [h'.1, ints_inj h'.2]
mutual
theorem Val.cells_inj : ∀ (u v : Val), u.cells = v.cells → u = v
  | .mk n l w, .mk n' l' w', h => by
    rw [Val.cells, Val.cells] at h
    simp only [List.cons.injEq, A.int.injEq, A.isl.injEq, true_and, and_true] at h
    obtain ⟨h1, ⟨h2, h3⟩, h4, h5⟩ := h
    rw [h1, Val.cellsL_inj l l' h2 h3, ints_inj h5]
theorem Val.cellsL_inj : ∀ (l l' : List Val), l.length = l'.length → Val.cellsL l = Val.cellsL l' → l = l'
  | [], [], _, _ => rfl
  | [], _ :: _, h, _ => by cases h
  | _ :: _, [], h, _ => by cases h
  | x :: r, y :: q, h, k => by
    rw [Val.cellsL, Val.cellsL] at k
    have := List.append_inj k (by rw [Val.cells_length, Val.cells_length])
    rw [Val.cells_inj x y this.1, Val.cellsL_inj r q (by simpa using h) this.2]
end
def elemC (p : Val × Int) : List A := p.1.cells ++ [.int .i64 p.2]
@[simp] theorem elemC_length (p : Val × Int) : (elemC p).length = 4 := by unfold elemC; rw [List.length_append, Val.cells_length]; rfl
theorem elemC_inj {p q : Val × Int} (h : elemC p = elemC q) : p = q := by
  have := List.append_inj h (by rw [Val.cells_length, Val.cells_length])
  have h2 := this.2
  simp only [List.cons.injEq, A.int.injEq, true_and, and_true] at h2
  exact Prod.ext (Val.cells_inj _ _ this.1) h2
def elemsC (l : List (Val × Int)) : List A := (l.map elemC).flatten
theorem elemsC_length : ∀ l : List (Val × Int), (elemsC l).length = l.length * 4
  | [] => rfl
  | p :: r => by
    show (elemC p ++ elemsC r).length = _
    rw [List.length_append, elemC_length, elemsC_length r, List.length_cons]
    omega
theorem elemsC_inj : ∀ {l r : List (Val × Int)}, elemsC l = elemsC r → l = r
  | [], [], _ => rfl
  | [], q :: t, h => by have := congrArg List.length h; rw [elemsC_length, elemsC_length] at this; simp at this
  | p :: s, [], h => by have := congrArg List.length h; rw [elemsC_length, elemsC_length] at this; simp at this
  | p :: s, q :: t, h => by
    have h' : elemC p ++ elemsC s = elemC q ++ elemsC t := h
    have := List.append_inj h' (by rw [elemC_length, elemC_length])
    rw [elemC_inj this.1, elemsC_inj this.2]
theorem elemC_closed (p : Val × Int) : closed 0 0 (.agg (elemC p)) = true := by
  rw [closed]
  have h : (elemC p).all (closed 0 0) = true := by unfold elemC; rw [List.all_append, Val.closed_cells]; rfl
  have : ∀ cs : List A, cs.all (closed 0 0) = true → closed.closedL 0 0 cs = true := by
    intro cs
    induction cs with
    | nil => intro _; rw [closed.closedL]
    | cons a r ih => intro h; rw [List.all_cons, Bool.and_eq_true] at h; rw [closed.closedL, h.1, ih h.2]; rfl
  exact this _ h
def elAt (ps : List (Val × Int)) (i : Nat) : Val × Int := ps.getD (min i (ps.length - 1)) (.mk 0 [] [], 0)
def elCmp (ps : List (Val × Int)) (i j : Nat) : Int := cmpV (elAt ps i).1 (elAt ps j).1
noncomputable def sortP (ps : List (Val × Int)) : List (Val × Int) := (sortN ps.length (elCmp ps)).map (elAt ps)
theorem chunk_elem {ps : List (Val × Int)} (h : 0 < ps.length) (i : Nat) : chunk 4 ps.length (elemsC ps) i = elemC (elAt ps i) := by
  apply List.ext_getElem?
  intro j
  have hlt : min i (ps.length - 1) < ps.length := by omega
  have he : elAt ps i = ps[min i (ps.length - 1)] := by unfold elAt; rw [List.getD_eq_getElem?_getD, List.getElem?_eq_getElem hlt]; rfl
  unfold chunk
  by_cases hj : j < 4
  · rw [List.getElem?_take_of_lt hj, List.getElem?_drop]
    unfold elemsC
    rw [flat_at (by omega) elemC_length, Nat.mul_add_div (by omega), Nat.div_eq_of_lt hj, Nat.mul_add_mod, Nat.mod_eq_of_lt hj, Nat.add_zero, List.getElem?_eq_getElem hlt, he]
    rfl
  · rw [List.getElem?_eq_none (by rw [List.length_take]; omega), List.getElem?_eq_none (by rw [elemC_length]; omega)]
theorem el_swo (ps : List (Val × Int)) : SWO (ltOf (elCmp ps)) where
  irrefl x := by unfold ltOf elCmp; rw [cmpV_self]; rfl
  trans x y z h1 h2 := by
    unfold ltOf elCmp at *
    rw [decide_eq_true_eq] at *
    exact cmpV_lt_trans h1 h2
  ntrans x y z h1 h2 := by
    unfold ltOf elCmp at *
    rw [decide_eq_false_iff_not, Int.not_lt] at *
    have a1 := cmpV_anti (elAt ps x).1 (elAt ps y).1
    have a2 := cmpV_anti (elAt ps y).1 (elAt ps z).1
    have a3 := cmpV_anti (elAt ps x).1 (elAt ps z).1
    have := cmpV_trans (u := (elAt ps z).1) (v := (elAt ps y).1) (w := (elAt ps x).1) (by omega) (by omega)
    omega
end AE
end Go.Proofs.YtmfdpijmholedaaGreatDoor
/- slices.SortFunc at elements with weights, as an answer from outside. -/
set_option linter.unusedVariables false
set_option linter.unusedSimpArgs false
namespace Go.Proofs.YtmfdpijmholedaaGreatDoor
namespace AE
open Go Go.RowKit Go.Sort Go.Shelf Go.Lib
theorem sortN_perm (n : Nat) {cf : Nat → Nat → Int} (hO : SWO (ltOf cf)) : PermIn 0 n (Array.range n) (pdq (ltOf cf) (Array.range n) 0 n (Lib.bitLen n) true true) ∧ SortedIn (ltOf cf) 0 n (pdq (ltOf cf) (Array.range n) 0 n (Lib.bitLen n) true true) :=
  pdq_sorts (ltOf cf) hO (Array.range n) 0 n (Lib.bitLen n) true true (Nat.zero_le _) (by simp) (Or.inl rfl)
theorem sortN_size (n : Nat) {cf : Nat → Nat → Int} (hO : SWO (ltOf cf)) : (pdq (ltOf cf) (Array.range n) 0 n (Lib.bitLen n) true true).size = n := by
  have := (sortN_perm n hO).1.1
  rw [this, Array.size_range]
theorem sortN_range (n : Nat) {cf : Nat → Nat → Int} (hO : SWO (ltOf cf)) : (sortN n cf).Perm (List.range n) := by
  have h := (sortN_perm n hO).1.2.2
  have e1 : ((pdq (ltOf cf) (Array.range n) 0 n (Lib.bitLen n) true true).extract 0 n).toList = sortN n cf := by
    unfold sortN
    rw [Array.toList_extract, List.extract_eq_take_drop]
    simp only [List.drop_zero, Nat.sub_zero]
    rw [List.take_of_length_le]
    rw [Array.length_toList, sortN_size n hO]
    exact Nat.le_refl _
  have e2 : ((Array.range n).extract 0 n).toList = List.range n := by
    rw [Array.toList_extract, List.extract_eq_take_drop]
    simp
  rwa [e1, e2] at h
theorem elAt_range (ps : List (Val × Int)) : (List.range ps.length).map (elAt ps) = ps := by
  apply List.ext_getElem?
  intro i
  rw [List.getElem?_map]
  by_cases h : i < ps.length
  · rw [List.getElem?_range h, Option.map_some, List.getElem?_eq_getElem h]
    unfold elAt
    rw [Nat.min_eq_left (by omega), List.getD_eq_getElem?_getD, List.getElem?_eq_getElem h]
    rfl
  · rw [List.getElem?_eq_none (by simpa using h), List.getElem?_eq_none (by simpa using h)]
    rfl
theorem sortP_perm (ps : List (Val × Int)) : (sortP ps).Perm ps := by
  have h := (sortN_range ps.length (el_swo ps)).map (elAt ps)
  rw [elAt_range] at h
  exact h
theorem sortP_length (ps : List (Val × Int)) : (sortP ps).length = ps.length := (sortP_perm ps).length_eq
theorem sortP_sorted (ps : List (Val × Int)) : (sortP ps).Pairwise fun p q => cmpV p.1 q.1 ≤ 0 := by
  have key : ∀ B : Array Nat, B.size = ps.length → SortedIn (ltOf (elCmp ps)) 0 ps.length B → (B.toList.map (elAt ps)).Pairwise fun p q => cmpV p.1 q.1 ≤ 0 := by
    intro B hz hs
    rw [List.pairwise_map, List.pairwise_iff_getElem]
    intro i j hi hj hij
    have hi' : i < B.size := by simpa using hi
    have hj' : j < B.size := by simpa using hj
    have h := hs i j (Nat.zero_le _) hij (by omega)
    rw [getElem!_pos B j hj', getElem!_pos B i hi'] at h
    unfold ltOf elCmp at h
    rw [decide_eq_false_iff_not, Int.not_lt] at h
    simp only [Array.getElem_toList]
    have := cmpV_anti (elAt ps B[i]).1 (elAt ps B[j]).1
    omega
  exact key _ (sortN_size ps.length (el_swo ps)) (sortN_perm ps.length (el_swo ps)).2
structure ElP (g g' : FuncId) (ver n : Nat) (cs : List A) (ps : List (Val × Int)) : Prop where
  cs : cs = elemsC ps
  fn : g' = g
  ver : ver = ps.length * 4
  len : n = ps.length
  pos : 0 < n
  lt : n < 4611686018427387904
  small : ∀ p, p ∈ ps → p.1.nodes ≤ 1000000000 ∧ slimV p.1
open Classical in
noncomputable def elPick (g g' : FuncId) (ver n : Nat) (cs : List A) : Option (List (Val × Int)) := if h : ∃ ps, ElP g g' ver n cs ps then some (Classical.choose h) else none
theorem elPick_ok {g g' : FuncId} {ver n : Nat} {cs : List A} {ps : List (Val × Int)} (h : elPick g g' ver n cs = some ps) : ElP g g' ver n cs ps := by
  unfold elPick at h
  split at h
  · rename_i hx
    have := Classical.choose_spec hx
    rw [Option.some.inj h] at this
    exact this
  · cases h
theorem elPick_of {g g' : FuncId} {ver n : Nat} {cs : List A} {ps : List (Val × Int)} (h : ElP g g' ver n cs ps) : elPick g g' ver n cs = some ps := by
  cases hp : elPick g g' ver n cs with
  | none =>
    unfold elPick at hp
    rw [dif_pos ⟨ps, h⟩] at hp
    cases hp
  | some qs =>
    have := (elPick_ok hp).cs
    rw [h.cs] at this
    rw [elemsC_inj this]
noncomputable def sortFG (g : FuncId) : List A → Mem → Option (Res × Mem)
  | [.nils, _], m => some (.ret (.tup []), m)
  | [.sl id ver 0 n, .fn g' []], m =>
    match m.rw[id]? with
    | some r => match elPick g g' ver n r.cs with
      | some ps => some (.ret (.tup []), ⟨m.bx, m.rw.set id ⟨r.el, elemsC (sortP ps)⟩⟩)
      | none => none
    | none => none
  | _, _ => none
theorem sortFG_nil (g : FuncId) (a : A) (m : Mem) : sortFG g [.nils, a] m = some (.ret (.tup []), m) := rfl
theorem sortFG_row {g : FuncId} {id : Nat} {m : Mem} {t : TypeId} {ps : List (Val × Int)} {ver n : Nat} (hr : m.rw[id]? = some ⟨t, elemsC ps⟩) (h1 : ver = ps.length * 4) (h2 : n = ps.length) (h3 : 0 < n) (h4 : n < 4611686018427387904) (h5 : ∀ p, p ∈ ps → p.1.nodes ≤ 1000000000 ∧ slimV p.1) :
    sortFG g [.sl id ver 0 n, .fn g []] m = some (.ret (.tup []), ⟨m.bx, m.rw.set id ⟨t, elemsC (sortP ps)⟩⟩) := by
  unfold sortFG
  simp only [hr]
  rw [elPick_of (ps := ps) ⟨rfl, rfl, h1, h2, h3, h4, h5⟩]
section
variable {P : Program} {gl : Nat → A} {w0 : World} {g : Gh} {m : Mem} {w w' : World}
theorem holds_rowK (hs : SR P gl w0 g m w) {i n : Nat} {t : TypeId} {cs : List A} (hi : m.rw[i]? = some ⟨t, cs⟩) (h0 : g.sh i = 0) (hn : 0 < n) (hl : cs.length = n * 4) :
    ∃ us : List Value, VRs w g cs us ∧ us.length = n * 4 ∧ HoldsK (chunk 4 n us) 4 w (g.br i) 0 (Array.range n) ∧ g.br i < w.heap.size := by
  obtain ⟨us, ss, rest, h1, h2, h3, h4⟩ := hs.rw i _ hi
  rw [h0, List.drop_zero] at h3
  have hsl := h4.length
  have hss : ss.length = n * 4 := by rw [hsl]; exact hl
  refine ⟨ss, h4, hss, ?_, (Array.getElem?_eq_some_iff.1 h1).1⟩
  have hf : (flatK (chunk 4 n ss) 4 (Array.range n)).toList = ss := by
    rw [flatK_list (by omega) (fun x => chunk_length hss hn x), Array.toList_range, chunks_id hss]
  have hz : (flatK (chunk 4 n ss) 4 (Array.range n)).size = ss.length := by rw [size_flatK, Array.size_range, hss]
  intro j hj
  rw [hz] at hj
  constructor
  · have h5 : us[0 + j]? = some ss[j] := by
      rw [Nat.zero_add, ← Array.getElem?_toList, h3, List.getElem?_append_left hj, List.getElem?_eq_getElem hj]
    simp only [World.cell?, h1, h5]
    rw [getElem!_pos _ j (by omega), ← Array.getElem_toList]
    simp only [hf]
    rfl
  · simp [World.frozen?, h1]
theorem sortF_call {C C' : Cfg} {f gF : FuncId} (hP : C'.P = C.P) (hgl : C'.gl = glD) (hf : callable C.P f)
    (h0 : ∀ fv w, Calls C.P f #[.slice none 0 0, fv] w fun e w' => e = .returned (.tuple #[]) ∧ w' = w)
    (h1 : ∀ (enc : Nat → List Value) (cf : Nat → Nat → Int) (blk cap : Nat) (d : Array Nat) (w : World), (∀ x, (enc x).length = 4) → (∀ x, ∀ v ∈ enc x, v.oneCell' = true) → SWO (ltOf cf) → CmpLays C.P gF #[] enc 4 cf blk 0 d.size w → HoldsK enc 4 w blk 0 d → blk < w.heap.size → d.size < 4611686018427387904 →
      Calls C.P f #[.slice (some ⟨blk, 0, none⟩) d.size cap, .func (.func gF) #[] #[]] w fun e w' => e = .returned (.tuple #[]) ∧ ∃ n os, w' = sortWorldK enc 4 w blk 0 n (pdq (ltOf cf) d 0 d.size (Lib.bitLen d.size) true true) os)
    (hc : ∀ p q : Val × Int, p.1.nodes ≤ 1000000000 → slimV p.1 → CallOk C' gF [.agg (elemC p), .agg (elemC q)] ⟨[], []⟩ (.ret (.int .i64 (cmpV p.1 q.1)), ⟨[], []⟩))
    {args : List A} {m : Mem} {r : Res × Mem} (h : sortFG gF args m = some r) : CallOk C f args m r := by
  refine ⟨hf, fun w0 g w vals hs hv => ?_⟩
  unfold sortFG at h
  split at h
  · cases h
    rw [VRs] at hv
    obtain ⟨u, t, rfl, hu, ht⟩ := hv
    rw [VRs] at ht
    obtain ⟨u2, t2, rfl, hu2, ht2⟩ := ht
    rw [VRs] at ht2
    subst ht2
    rw [VR] at hu
    subst hu
    refine Calls.mono (h0 u2 w) ?_
    rintro e w' ⟨rfl, rfl⟩
    refine ⟨g, hs, Ext.refl _ _, ?_⟩
    show VR _ _ _ _
    rw [VR]
    exact ⟨[], rfl, VRs.mk_nil⟩
  · rename_i _ id ver n g'
    cases hr : m.rw[id]? with
    | none => rw [hr] at h; cases h
    | some row =>
      rw [hr] at h
      obtain ⟨el, cs⟩ := row
      simp only at h
      cases hpk : elPick gF g' ver n cs with
      | none => rw [hpk] at h; cases h
      | some ps =>
      rw [hpk] at h
      obtain ⟨rfl, rfl, rfl, rfl, hpos, hlt, hb⟩ := elPick_ok hpk
      cases h
      have hlen : (elemsC ps).length = ps.length * 4 := elemsC_length ps
      rw [VRs] at hv
      obtain ⟨u, t, rfl, hu, ht⟩ := hv
      rw [VRs] at ht
      obtain ⟨u2, t2, rfl, hu2, ht2⟩ := ht
      rw [VRs] at ht2
      subst ht2
      have hu' : VR w g (.sl id (elemsC ps).length 0 ps.length) u := by rw [hlen]; exact hu
      rw [VR] at hu2
      obtain ⟨bs, rfl, hbs⟩ := hu2
      rw [VRs] at hbs
      subst hbs
      have hL2 : g.rl[id]? = some (elemsC ps).length := by rw [hs.rl, List.getElem?_map, hr]; rfl
      obtain ⟨hsh, c, rfl, hc1, hc2⟩ := hu'.sl_zero hL2
      obtain ⟨us, hvs, hul, hH, hbr⟩ := holds_rowK hs hr hsh hpos hlen
      have hch : ∀ i, VRs w g (chunk 4 ps.length (elemsC ps) i) (chunk 4 ps.length us i) := fun i => VRs_chunk hvs i
      have hflat : ∀ (dk : Array Nat), (flatK (chunk 4 ps.length us) 4 dk) = ((dk.toList.map (chunk 4 ps.length us)).flatten).toArray := fun dk => by
        rw [← flatK_list (by omega) (fun x => chunk_length hul hpos x)]
      have hput : ∀ (dk : Array Nat) (k : Nat) (os : Array Obj), dk.size = ps.length → ∃ g', SR C.P C.gl w0 g' ⟨m.bx, m.rw.set id ⟨el, (dk.toList.map (chunk 4 ps.length (elemsC ps))).flatten⟩⟩ (sortWorldK (chunk 4 ps.length us) 4 w (g.br id) 0 k dk os) ∧ Ext w g (sortWorldK (chunk 4 ps.length us) 4 w (g.br id) 0 k dk os) g' := fun dk k os hd => by
        have hcl : (dk.toList.map (chunk 4 ps.length (elemsC ps))).flatten.length = (elemsC ps).length := by
          have : ∀ l : List Nat, (l.map (chunk 4 ps.length (elemsC ps))).flatten.length = l.length * 4 := by
            intro l
            induction l with
            | nil => rfl
            | cons x r ih => rw [List.map_cons, List.flatten_cons, List.length_append, ih, chunk_length hlen hpos, List.length_cons]; omega
          rw [this, Array.length_toList, hlen, hd]
        obtain ⟨g', s', x', _⟩ := put_cells hs hr hsh hcl (VRs_flatten hch dk.toList) k os
        refine ⟨g', ?_, ?_⟩
        · unfold sortWorldK putRowK
          rw [hflat dk]
          exact s'
        · unfold sortWorldK putRowK
          rw [hflat dk]
          exact x'
      have hone : ∀ x, ∀ v ∈ chunk 4 ps.length us x, v.oneCell' = true := fun x => by
        have h2 := hch x
        rw [chunk_elem hpos] at h2
        refine VRs.flats h2 ?_
        unfold elemC
        rw [Val.cells_eq]
        rfl
      have hcmp : CmpLays C.P g' #[] (chunk 4 ps.length us) 4 (elCmp ps) (g.br id) 0 (Array.range ps.length).size w := by
        intro k os dk hdk x y
        rw [Array.size_range] at hdk
        obtain ⟨g1, s1, x1⟩ := hput dk k os hdk
        generalize sortWorldK (chunk 4 ps.length us) 4 w (g.br id) 0 k dk os = W at s1 x1 ⊢
        have hel : ∀ z, VR W (gTop g1 W) (.agg (elemC (elAt ps z))) (.agg (chunk 4 ps.length us z).toArray) := fun z => by
          refine fresh_vr s1 (elemC_closed _) ?_
          rw [VR]
          refine ⟨_, rfl, ?_⟩
          have h2 := (hch z).mono x1
          rw [chunk_elem hpos] at h2
          exact h2
        have hmem : ∀ z, elAt ps z ∈ ps := fun z => by
          unfold elAt
          rw [List.getD_eq_getElem?_getD, List.getElem?_eq_getElem (by omega)]
          exact List.getElem_mem _
        have h3 := (hc (elAt ps x) (elAt ps y) (hb _ (hmem x)).1 (hb _ (hmem x)).2).2 W (gTop g1 W) W [.agg (chunk 4 ps.length us x).toArray, .agg (chunk 4 ps.length us y).toArray] (by
          rw [hgl]
          exact fresh_sr glD (fun n => glD_vr n) (if_neg (by decide))) (.mk_cons (hel x) (.mk_cons (hel y) VRs.mk_nil))
        rw [hP] at h3
        refine Calls.mono h3 ?_
        rintro e w' ⟨g2, s2, x2, hres⟩
        refine ⟨?_, ?_⟩
        · cases e with
          | returned v =>
            have h4 : VR w' g2 (.int .i64 (cmpV (elAt ps x).1 (elAt ps y).1)) v := hres
            rw [VR] at h4
            rw [h4]
            rfl
          | panicked c => exact absurd hres (by simp [ResR])
          | _ => exact absurd hres (by simp [ResR])
        · exact world_grown s2.below (s2.dr (by rw [hgl]; rfl))
      refine Calls.mono (h1 (chunk 4 ps.length us) (elCmp ps) (g.br id) c (Array.range ps.length) w (fun x => chunk_length hul hpos x) hone (el_swo ps) hcmp hH hbr (by rw [Array.size_range]; exact hlt) |> fun z => by simpa using z) ?_
      rintro e w' ⟨rfl, k, os, rfl⟩
      obtain ⟨g', s', x'⟩ := hput (pdq (ltOf (elCmp ps)) (Array.range ps.length) 0 ps.length (Lib.bitLen ps.length) true true) k os (sortN_size ps.length (el_swo ps))
      have hrow : ((pdq (ltOf (elCmp ps)) (Array.range ps.length) 0 ps.length (Lib.bitLen ps.length) true true).toList.map (chunk 4 ps.length (elemsC ps))).flatten = elemsC (sortP ps) := by
        have e1 : chunk 4 ps.length (elemsC ps) = fun i => elemC (elAt ps i) := funext fun i => chunk_elem hpos i
        rw [e1]
        unfold elemsC sortP sortN
        rw [List.map_map]
        rfl
      rw [hrow] at s'
      refine ⟨g', s', x', ?_⟩
      show VR _ _ _ _
      rw [VR]
      exact ⟨[], rfl, VRs.mk_nil⟩
  · cases h
end
end AE
end Go.Proofs.YtmfdpijmholedaaGreatDoor
/- slices.Clone over numbers: the answer by the shelf's contract: a row of the caller's own. -/
set_option linter.unusedVariables false
set_option linter.unusedSimpArgs false
namespace Go.Proofs.YtmfdpijmholedaaGreatDoor
namespace AE
open Go Go.RowKit Go.Lib
def cloneId : FuncId := 118
def cloneRow (cs : List A) (n : Nat) (m : Mem) : Option (Res × Mem) :=
  match unInts cs with
  | some zs => if zs.length = n ∧ n * 8 ≤ 140737488355328 then some (.ret (.sl m.rw.length n 0 n), ⟨m.bx, m.rw ++ [⟨3, cs⟩]⟩) else none
  | none => none
def cloneG : List A → Mem → Option (Res × Mem)
  | [.nils], m => some (.ret .nils, m)
  | [.isl f n cs], m => if n = 0 ∧ cs.length = 0 then some (.ret (.isl false 0 []), m) else if 0 < n then cloneRow cs n m else none
  | [.sl id ver off n], m =>
    match m.rw[id]? with
    | some r => if r.cs.length = ver ∧ off + n ≤ ver then cloneRow ((r.cs.drop off).take n) n m else none
    | none => none
  | _, _ => none
section
variable {C : Cfg} {w0 w : World} {g : Gh} {m : Mem}
theorem sr_up {gl : Nat → A} {P : Program} {w' : World} (hs : SR P gl w0 g m w) (hbel : Below w.heap.size w w') (hd : gl 1000000007 ≠ .rp []) : SR P gl w0 g m w' ∧ Ext w g w' g := by
  have hcell : ∀ k o, k < w.heap.size → w'.cell? ⟨k, o, none⟩ = w.cell? ⟨k, o, none⟩ := fun k o hk => hbel.cell (p := ⟨k, o, none⟩) hk
  have hext : Ext w g w' g := ⟨⟨fun k o hF => ⟨hF, hcell k o (hs.lim k o hF)⟩, Nat.le_refl _, fun _ _ => rfl, fun i L h => ⟨L, h, Nat.le_refl _, fun _ => ⟨rfl, rfl, rfl⟩, rfl⟩⟩, fun b hb hl => ⟨hbel.block b hb, hl⟩, hbel.size⟩
  refine ⟨?_, hext⟩
  exact {
    below := hs.below.trans (hbel.mono hs.szB)
    nb := hs.nb
    rl := hs.rl
    es := hs.es
    bx := fun i cs hi => by
      obtain ⟨us, e, h1, h2⟩ := hs.bx i cs hi
      exact ⟨us, e, by rw [hbel.block _ (Array.getElem?_eq_some_iff.1 h1).1]; exact h1, h2.mono hext⟩
    rw := fun i r hi => by
      obtain ⟨us, ss, rest, h1, h2, h3, h4⟩ := hs.rw i r hi
      exact ⟨us, ss, rest, by rw [hbel.block _ (Array.getElem?_eq_some_iff.1 h1).1]; exact h1, h2, h3, h4.mono hext⟩
    ownb := hs.ownb
    ownr := hs.ownr
    injb := hs.injb
    injr := hs.injr
    dis := hs.dis
    lim := fun b o hF => Nat.lt_of_lt_of_le (hs.lim b o hF) hbel.size
    gl := fun n => (hs.gl n).mono hext
    dr := fun h => absurd h hd
    tb := hs.tb }
theorem own_row (hs : SR C.P C.gl w0 g m w) (hd : C.gl 1000000007 ≠ .rp []) {w' : World} {e : TypeId} {v : Value} {n : Nat} {zs : List Int} (hsz : szOf C.P e = 1) (hbel : Below w.heap.size w w') (hown : w'.ownsRow w.heap.size e 1 v n (zs.map (Value.int .i64))) (hne : v ≠ .slice none 0 0) :
    ∃ g', SR C.P C.gl w0 g' ⟨m.bx, m.rw ++ [⟨e, ints zs⟩]⟩ w' ∧ Ext w g w' g' ∧ VR w' g' (.sl m.rw.length n 0 n) v := by
  obtain ⟨s1, x1⟩ := sr_up hs hbel hd
  obtain ⟨hl, hor⟩ := hown
  rcases hor with ⟨h1, _⟩ | ⟨b, cap, cur, rfl, hb, hh, hnc, hmx, hcs, htk⟩
  · exact absurd h1 hne
  have hloose : Loose g b := ⟨fun i hi q => by have := hs.bb_lt hi; omega, fun i hi q => by have := hs.br_lt hi; omega, fun o hF => by have := hs.lim _ _ hF; omega⟩
  obtain ⟨g', s2, x2, h3, h4, h5, h6, h7, h8⟩ := s1.adoptRow (b := b) (us := cur) (ss := zs.map (Value.int .i64)) (rest := cur.toList.drop (n * 1)) (e := e) (z := ints zs) (Nat.le_trans hs.szB hb) hloose hh (by rw [← htk, List.take_append_drop]) (VRs_ints zs)
  have hzn : zs.length = n := by simpa using hl
  refine ⟨g', s2, ⟨x1.toExtB.trans x2, fun b' hb' hl' => ⟨hbel.block b' hb', h8 b' (by omega) hl'⟩, hbel.size⟩, ?_⟩
  have := VR.mk_sl (w := w') h6 h7 hnc (by rw [h5, h4, hsz, hcs]; exact Nat.le_refl _) (by rw [h5, hsz, Nat.mul_one]; simp [ints, hzn]; exact hnc)
  rw [h3, show (ints zs).length = n from by rw [← hzn]; simp [ints]] at this
  exact this
theorem clone_ok (hP : C.P = Tryz.prog) (hd : C.gl 1000000007 ≠ .rp []) {args : List A} {m : Mem} {r : Res × Mem} (h : cloneG args m = some r) : CallOk C cloneId args m r := by
  unfold CallOk
  refine ⟨by rw [hP]; exact ⟨_, _, Tryz.func118, rfl, by decide⟩, fun w0 g w vals hs hv => ?_⟩
  have hsz : szOf C.P 3 = 1 := by rw [hP]; kernel_rfl
  have row : ∀ (cs : List A) (n : Nat) (us : List Value) (b o c : Nat) (r : Res × Mem), cloneRow cs n m = some r → VRs w g cs us → (∀ j u, us[j]? = some u → w.cell? ⟨b, o + j, none⟩ = some u) → vals = [.slice (some ⟨b, o, none⟩) n c] →
      Calls C.P cloneId vals.toArray w fun e w' => ∃ g', SR C.P C.gl w0 g' r.2 w' ∧ Ext w g w' g' ∧ ResR w' g' r.1 e := by
    intro cs n us b o c r h hu hl hvals
    unfold cloneRow at h
    split at h
    case h_2 => cases h
    case h_1 zs hz =>
    split at h
    case isFalse => cases h
    case isTrue hc =>
    obtain ⟨hc1, hc2⟩ := hc
    simp only [Option.some.injEq] at h
    subst h
    have hcs := unInts_some hz
    subst hcs
    have hus := ints_VRs hu
    subst hus hvals
    rw [hP]
    refine (Tryz.slices_Clone_int b o n c zs w (by omega) hc2 (fun j hj => ?_)).mono ?_
    · refine hl j _ ?_
      rw [List.getElem?_map, List.getElem?_eq_getElem hj, List.getD_eq_getElem?_getD, List.getElem?_eq_getElem hj]
      rfl
    · rintro e w' ⟨v', rfl, hown, hne, hbel⟩
      rw [List.take_of_length_le (by omega)] at hown
      obtain ⟨g', s1, x1, v1⟩ := own_row hs hd hsz hbel hown hne
      rw [hP] at s1
      exact ⟨g', s1, x1, v1⟩
  unfold cloneG at h
  split at h
  case h_4 => cases h
  case h_1 =>
    rw [VRs.cons_iff] at hv
    obtain ⟨u, t, rfl, h1, h2⟩ := hv
    rw [VRs.nil_iff] at h2
    subst h2
    simp only [Option.some.injEq] at h
    subst h
    rw [VR] at h1
    subst h1
    rw [hP]
    refine (Tryz.slices_Clone_int_nil 0 0 w).mono ?_
    rintro e w' ⟨rfl, rfl⟩
    rw [hP] at hs
    exact ⟨g, hs, Ext.refl _ _, by show VR w' g .nils _; rw [VR]⟩
  case h_2 f n cs =>
    rw [VRs.cons_iff] at hv
    obtain ⟨u, t, rfl, h1, h2⟩ := hv
    rw [VRs.nil_iff] at h2
    subst h2
    rw [VR] at h1
    obtain ⟨a, c, us, rfl, _, hnc, hu, hl⟩ := h1
    split at h
    · rename_i h0
      obtain ⟨rfl, h0⟩ := h0
      simp only [Option.some.injEq] at h
      subst h
      cases a with
      | none =>
        rw [hP]
        refine (Tryz.slices_Clone_int_nil 0 c w).mono ?_
        rintro e w' ⟨rfl, rfl⟩
        rw [hP] at hs
        exact ⟨g, hs, Ext.refl _ _, by show VR w' g (.isl false 0 []) _; rw [VR]; exact ⟨none, 0, [], rfl, by simp, Nat.le_refl _, VRs.mk_nil, by simp⟩⟩
      | some a =>
        rw [hP]
        refine (Tryz.slices_Clone_int_zero a c w).mono ?_
        rintro e w' ⟨v', rfl, hown, hne, hbel⟩
        obtain ⟨s1, x1⟩ := sr_up hs hbel hd
        rw [hP] at s1
        refine ⟨g, s1, x1, ?_⟩
        show VR w' g (.isl false 0 []) _
        rw [VR]
        rcases hown.2 with ⟨q, _⟩ | ⟨b, cap, cur, rfl, _, _, hnc, _⟩
        · exact absurd q hne
        · exact ⟨_, cap, [], rfl, by simp, hnc, VRs.mk_nil, by simp⟩
    · rename_i h0
      split at h
      case isFalse => cases h
      case isTrue hn =>
      have hlen := hu.length
      have hune : us ≠ [] := by
        rintro rfl
        unfold cloneRow at h
        split at h
        case h_2 => cases h
        case h_1 zs hz =>
        split at h
        case isFalse => cases h
        case isTrue hc =>
        have := unInts_some hz
        subst this
        simp [ints] at hlen
        omega
      obtain ⟨b, o, rfl, hl2⟩ := hl hune
      exact row cs n us b o c r h hu (fun j u hj => (hl2 j u hj).2) rfl
  case h_3 id ver off n =>
    rw [VRs.cons_iff] at hv
    obtain ⟨u, t, rfl, h1, h2⟩ := hv
    rw [VRs.nil_iff] at h2
    subst h2
    cases hr : m.rw[id]? with
    | none => rw [hr] at h; cases h
    | some rr =>
      rw [hr] at h
      simp only at h
      split at h
      case isFalse => cases h
      case isTrue hc =>
      obtain ⟨hc1, hc2⟩ := hc
      rw [VR] at h1
      obtain ⟨_, L, hL, _, k3⟩ := h1
      have hL2 : L = rr.cs.length := by
        rw [hs.rl, List.getElem?_map, hr] at hL
        simpa using hL.symm
      obtain ⟨hsh, c, hnc, hat⟩ := k3 (by omega)
      rcases hat with ⟨rfl, q2, b, o, rfl⟩ | ⟨rfl, _⟩
      · have hn0 : n = 0 := by omega
        subst hn0
        unfold cloneRow at h
        rw [List.take_zero, unInts] at h
        simp only [List.length_nil, true_and] at h
        rw [if_pos (by omega)] at h
        simp only [Option.some.injEq] at h
        subst h
        rw [hP]
        refine (Tryz.slices_Clone_int_zero ⟨b, o, none⟩ 0 w).mono ?_
        rintro e w' ⟨v', rfl, hown, hne, hbel⟩
        obtain ⟨g', s1, x1, v1⟩ := own_row (zs := []) hs hd hsz hbel hown hne
        rw [hP] at s1
        exact ⟨g', s1, x1, v1⟩
      · obtain ⟨us, ss, rest, h1, h2, h3, h4⟩ := hs.rw id rr hr
        have hat := (At.of_block h1 h3).sub (off - g.sh id) n
        rw [Nat.zero_add, drop_sh _ hsh] at hat
        exact row _ n _ _ _ c r h (h4.sub off n) (fun j u hj => hat j u hj) rfl
end
end AE
end Go.Proofs.YtmfdpijmholedaaGreatDoor
/- The evaluator's configuration; the fixed calls are answered by their own proof. -/
set_option linter.unusedVariables false
set_option linter.unusedSimpArgs false
namespace Go.Proofs.YtmfdpijmholedaaGreatDoor
namespace AE
open Go
def formsT : List A := [(0, 0), (16, 0), (0, 2), (0, 2), (4, 1), (0, 1), (0, 1), (0, 1)].flatMap fun p : Int × Int => [.int .i64 p.1, .int .i64 p.2]
def gl0 (n : Nat) : A := if n = 0 then .rp formsT else if n = 8 then .rp [.ifc 270 .undef] else if n = 1000000009 then .rp [] else .undef
def awakeG : List A → Mem → Option (Res × Mem)
  | [], m => some (.ret (.bool true), m)
  | _, _ => none
def awakeF : FuncId := 10
def sortFF : FuncId := 167
def cmpFF : FuncId := 168
noncomputable def ext0 (f : FuncId) : Option (List A → Mem → Option (Res × Mem)) :=
  if f = awakeF then some awakeG else if f = sortFF then some (sortFG cmpFF) else if f = cloneId then some cloneG else none
noncomputable def C0 : Cfg := { P := Tryz.prog, gl := gl0, ann := ann, ext := ext0 }
@[simp] theorem C0_P : C0.P = Tryz.prog := _root_.id rfl
@[simp] theorem C0_ann : C0.ann = ann := _root_.id rfl
@[simp] theorem C0_gl : C0.gl = gl0 := _root_.id rfl
theorem C0_ext (f : FuncId) (h : (f == awakeF || f == sortFF || f == cloneId) = false) : C0.ext f = none := by
  simp only [Bool.or_eq_false_iff, beq_eq_false_iff_ne, ne_eq] at h
  show ext0 f = none
  unfold ext0
  rw [if_neg h.1.1, if_neg h.1.2, if_neg h.2]
theorem C0_awake : C0.ext awakeF = some awakeG := by
  show ext0 awakeF = _
  unfold ext0
  rw [if_pos rfl]
theorem C0_sortF : C0.ext sortFF = some (sortFG cmpFF) := by
  show ext0 sortFF = _
  unfold ext0
  rw [if_neg (by decide), if_pos rfl]
theorem C0_clone : C0.ext cloneId = some cloneG := by
  show ext0 cloneId = _
  unfold ext0
  rw [if_neg (by decide), if_neg (by decide), if_pos rfl]
attribute [irreducible] C0
@[simp] theorem gl0_0 : gl0 0 = .rp formsT := rfl
theorem ev_awake (m : Mem) : evCall C0 10 [] m = some (.ret (.bool true), m) := by
  have h : C0.ext 10 = some awakeG := C0_awake
  rw [evCall, h]
  rfl
theorem ev_SortFunc (args : List A) (m : Mem) : evCall C0 167 args m = sortFG 168 args m := by
  have h : C0.ext 167 = some (sortFG 168) := C0_sortF
  rw [evCall, h]
theorem ev_CloneI (args : List A) (m : Mem) : evCall C0 118 args m = cloneG args m := by
  have h : C0.ext 118 = some cloneG := C0_clone
  rw [evCall, h]
end AE
end Go.Proofs.YtmfdpijmholedaaGreatDoor
/- The fixed calls, run by the kernel: system.Parse and system.String by their own runs. -/
set_option linter.unusedVariables false
set_option linter.unusedSimpArgs false
namespace Go.Proofs.YtmfdpijmholedaaGreatDoor
namespace AE
open Go Go.RowKit
def draws : Code → List (Nat × Array Oper)
  | .region id ops true => [(id, ops)]
  | .seq a b => draws a ++ draws b
  | .cond _ a b => draws a ++ draws b
  | .block _ b => draws b
  | .loop b => draws b
  | .rangeFunc _ _ a b => draws a ++ draws b
  | .scope b => draws b
  | _ => []
theorem draws_sub {id : Nat} {ops : Array Oper} : ∀ {c : Code}, Sub c (.region id ops true) → (id, ops) ∈ draws c
  | .seq a b, h => by
    rw [Sub] at h
    rcases h with h | h | h
    · cases h
    · rw [draws]; exact List.mem_append_left _ (draws_sub h)
    · rw [draws]; exact List.mem_append_right _ (draws_sub h)
  | .cond _ a b, h => by
    rw [Sub] at h
    rcases h with h | h | h
    · cases h
    · rw [draws]; exact List.mem_append_left _ (draws_sub h)
    · rw [draws]; exact List.mem_append_right _ (draws_sub h)
  | .block _ b, h => by
    rw [Sub] at h
    rcases h with h | h
    · cases h
    · rw [draws]; exact draws_sub h
  | .loop b, h => by
    rw [Sub] at h
    rcases h with h | h
    · cases h
    · rw [draws]; exact draws_sub h
  | .region i o d, h => by
    simp only [Sub] at h
    cases h
    rw [draws]
    exact List.mem_cons_self
  | .skip, h => by simp only [Sub] at h; cases h
  | .rangeFunc _ _ a b, h => by
    rw [Sub] at h
    rcases h with h | h | h
    · cases h
    · rw [draws]; exact List.mem_append_left _ (draws_sub h)
    · rw [draws]; exact List.mem_append_right _ (draws_sub h)
  | .exit _, h => by simp only [Sub] at h; cases h
  | .scope b, h => by
    rw [Sub] at h
    rcases h with h | h
    · cases h
    · rw [draws]; exact draws_sub h
  | .label _, h => by simp only [Sub] at h; cases h
  | .goto _, h => by simp only [Sub] at h; cases h
  | .ret, h => by simp only [Sub] at h; cases h
  | .refuse _, h => by simp only [Sub] at h; cases h
def dokFn (f : FuncId) (fn : Func) : Bool := match fn.body with
  | some b => (draws b).all fun p => !ann.dok f p.1 || drawOk p.2 (ann.draw f p.1)
  | none => true
def dokAll : Nat → List Func → Bool
  | _, [] => true
  | n, fn :: r => dokFn n fn && dokAll (n + 1) r
theorem dokAll_at : ∀ (l : List Func) (n i : Nat) (fn : Func), dokAll n l = true → l[i]? = some fn → dokFn (n + i) fn = true
  | fn :: r, n, 0, fn', h, hi => by
    rw [dokAll, Bool.and_eq_true] at h
    simp at hi
    subst hi
    exact h.1
  | fn :: r, n, i + 1, fn', h, hi => by
    rw [dokAll, Bool.and_eq_true] at h
    have := dokAll_at r (n + 1) i fn' h.2 (by simpa using hi)
    rwa [show n + 1 + i = n + (i + 1) by omega] at this
  | [], n, i, fn', h, hi => by simp at hi
theorem dok_prog : dokAll 0 Tryz.prog.funcs.toList = true := by kernel_rfl
theorem mixed_prog : Tryz.prog.follows .mixedOrders = true := by kernel_rfl
def extb (f : FuncId) : Option (List A → Mem → Option (Res × Mem)) := if f = copyId then some copyG else if f = indexId then some indexG else none
noncomputable def Cb : Cfg := { P := Tryz.prog, gl := gl0, ann := ann, ext := extb }
theorem okb : CfgOk Cb where
  gl := fun n => by
    show closed 0 0 (gl0 n) = true
    unfold gl0
    split
    · decide
    split
    · rfl
    split
    · rfl
    · rfl
  mixed := mixed_prog
  dok := by
    rintro f id ops ⟨fn, b, h1, h2, h3⟩ hd
    have h4 : Tryz.prog.funcs.toList[f]? = some fn := by rw [Array.getElem?_toList]; exact h1
    have h5 := dokAll_at _ 0 f fn dok_prog h4
    rw [Nat.zero_add, dokFn, h2] at h5
    have h6 := List.all_eq_true.1 h5 _ (draws_sub h3)
    have hd' : ann.dok f id = true := hd
    simp only [hd', Bool.not_true, Bool.false_or] at h6
    exact h6
  ext := fun f h he args m r hr => by
    have he' : extb f = some h := he
    unfold extb at he'
    split at he'
    · rename_i hf; cases he'; subst hf; exact copy_ok rfl hr
    split at he'
    · rename_i hf; cases he'; subst hf; exact index_ok rfl hr
    · cases he'
def bodyOf (f : Func) : Code := f.body.getD .skip
def sq1 : Code → Code | .seq a _ => a | c => c
def sq2 : Code → Code | .seq _ b => b | c => c
def inner : Code → Code | .block _ b => b | .loop b => b | c => c
def regOps : Code → Array Oper | .region _ ops _ => ops | _ => #[]
def regId : Code → Nat | .region id _ _ => id | _ => 0
def rfPs : Code → Array Tmp | .rangeFunc _ ps _ _ => ps | _ => #[]
def rfAssign : Code → Code | .rangeFunc _ _ a _ => a | c => c
def rfBody : Code → Code | .rangeFunc _ _ _ b => b | c => c
def parseF : FuncId := 19
def linesF : FuncId := 55
def iterF : FuncId := 98
def stringF : FuncId := 17
noncomputable def pB : Code := bodyOf Tryz.f19
noncomputable def pB5 : Code := sq2 (sq2 (sq2 (sq2 (sq2 pB))))
noncomputable def pRF : Code := inner (sq2 (sq1 pB5))
noncomputable def lB : Code := bodyOf Tryz.f98
noncomputable def lL : Code := inner (inner (sq2 lB))
noncomputable def lIn : Code := inner (sq1 (sq2 lL))
noncomputable def pP : RF where
  R0 := sq1 pB
  c1 := sq1 (sq2 pB)
  R3 := sq1 (sq2 (sq2 pB))
  R4 := sq1 (sq2 (sq2 (sq2 pB)))
  R5 := sq1 (sq2 (sq2 (sq2 (sq2 pB))))
  post := sq2 pB5
  assign := rfAssign pRF
  body := rfBody pRF
  id6 := regId (sq1 (sq1 pB5))
  ops6 := regOps (sq1 (sq1 pB5))
  ps := rfPs pRF
  gf := linesF
  h := iterF
  hd := sq1 lL
  I0 := sq1 lB
  I3 := sq1 lIn
  I5 := sq2 (sq2 lIn)
  I2 := sq2 (sq2 lL)
  id4 := regId (sq1 (sq1 (sq2 lIn)))
  ops4 := regOps (sq1 (sq1 (sq2 lIn)))
theorem pP_code : Tryz.f19.body = some pP.code := by kernel_rfl
theorem pP_iter : Tryz.f98.body = some (.seq pP.I0 (.block 0 (.loop (.seq pP.hd (.seq (.block 1 (.seq pP.I3 (.seq (.seq (.region pP.id4 pP.ops4 false) (.cond (.tmp 25) .ret .skip)) pP.I5))) pP.I2))))) := by kernel_rfl
noncomputable def NN : Nat := 1000000
def exText : List UInt8 := [116, 121, 112, 101, 32, 50, 32, 42, 32, 68, 40, 88, 41, 10, 48, 32, 61, 32, 40, 48, 44, 32, 123, 49, 32, 58, 32, 49, 44, 32, 50, 32, 58, 32, 50, 125, 41, 10, 49, 32, 61, 32, 40, 49, 44, 32, 123, 49, 32, 58, 32, 49, 125, 41, 10, 50, 32, 61, 32, 40, 49, 44, 32, 123, 50, 32, 58, 32, 49, 125, 41, 10]
noncomputable def parseR (l : Nat) : Option (List Nat × (Ex × Mem) × A × Mem) := rangeA Tryz.prog ((evR Cb NN).code parseF 140) ((evR Cb NN).code iterF 27) ((evR Cb NN).call linesF) Tryz.f19.results.toList pP 1000 [.str exText] ⟨[], []⟩ l
def mkv (n : Int) (args : List (List A)) (ws : List Int) : List A := [.int .i64 n, .isl false args.length args.flatten, .isl false ws.length (ints ws)]
def mkf (k n : Int) (args : List (List A)) : List A := [.int .i64 k, .int .i64 n, .isl false args.length args.flatten]
def pV : A := .tup [.agg (mkf 2 0 [mkf 1 2 [], mkf 7 0 [mkf 0 0 []]] ++ [.isl false 3 (mkv 0 [mkv 0 [] [], mkv 0 [mkv 1 [] [], mkv 2 [] []] [1, 2]] [] ++ mkv 0 [mkv 1 [] [], mkv 0 [mkv 1 [] []] [1]] [] ++ mkv 0 [mkv 1 [] [], mkv 0 [mkv 2 [] []] [1]] [])]), .int .i64 0]
def isRes : Option (Res × Mem) → A → Bool
  | some (.ret a, ⟨[], []⟩), v => eqA a v
  | _, _ => false
theorem isRes_eq {x : Option (Res × Mem)} {v : A} (h : isRes x v = true) : x = some (.ret v, ⟨[], []⟩) := by
  unfold isRes at h
  split at h
  · rw [eqA_eq _ _ h]
  · cases h
set_option maxRecDepth 1000000 in
theorem parse_chk (l : Nat) : isRes ((parseR l).bind fun y => leaveB Tryz.prog ⟨[], []⟩ (.ret y.2.2.1) y.2.2.2) pV = true := by kernel_rfl
set_option maxRecDepth 1000000 in
theorem parse_ls (l : Nat) : (parseR l).map (·.1) = some [l, l, l, l] := by kernel_rfl
theorem parse_run : ∃ (x : Nat → Ex × Mem) (b : Nat → A) (m8 : Nat → Mem), (∀ l, parseR l = some ([l, l, l, l], x l, b l, m8 l)) ∧ ∀ l, leaveB Tryz.prog ⟨[], []⟩ (.ret (b l)) (m8 l) = some (.ret pV, ⟨[], []⟩) := by
  have h : ∀ l, ∃ y : (Ex × Mem) × A × Mem, parseR l = some ([l, l, l, l], y) ∧ leaveB Tryz.prog ⟨[], []⟩ (.ret y.2.1) y.2.2 = some (.ret pV, ⟨[], []⟩) := fun l => by
    have h1 := isRes_eq (parse_chk l)
    have h2 := parse_ls l
    obtain ⟨y, h3, h4⟩ := Option.bind_eq_some_iff.1 h1
    rw [h3] at h2
    simp only [Option.map_some, Option.some.injEq] at h2
    obtain ⟨y1, y2⟩ := y
    simp only at h2
    subst h2
    exact ⟨y2, h3, h4⟩
  obtain ⟨y, hy⟩ := Classical.axiomOfChoice h
  exact ⟨fun l => (y l).1, fun l => (y l).2.1, fun l => (y l).2.2, fun l => (hy l).1, fun l => (hy l).2⟩
set_option maxRecDepth 1000000 in
theorem pV_closed : closed 0 0 pV = true := by kernel_rfl
theorem yield4 : yieldOps pP.ops4 := ⟨_, _, _, _, _, _, _, _, _, _, _, _, _, _, _, _, _, rfl⟩
theorem call6 : ops6 pP.gf pP.ops6 := ⟨_, _, _, _, _, _, _, rfl⟩
theorem parse_ok (m : Mem) : CallOk Cb parseF [.str exText] m (.ret pV, m) := by
  obtain ⟨x, b, m8, h1, h2⟩ := parse_run
  exact frame_call okb.gl rfl pV_closed (rangeA_ok okb (f := parseF) (nt := 140) (nth := 27) (p := pP) (fun c s x h => (evR_ok okb NN).code _ _ _ _ _ h) (fun c s x h => (evR_ok okb NN).code _ _ _ _ _ h) (fun args m r h => (evR_ok okb NN).call _ _ _ _ h)
    Tryz.func19 pP_code rfl (by decide) (by decide) Tryz.func98 pP_iter rfl (by decide) rfl (by decide) yield4 call6 (by decide) rfl (args := [.str exText]) (by decide) (ls := fun l => [l, l, l, l]) h1 (fun l z hz => by simpa using hz) (fun l => leaveB_ok (h2 l))) m
def unB : List A → Option (List UInt8)
  | [] => some []
  | .int .u8 n :: r => if 0 ≤ n ∧ n < 256 then (unB r).map (UInt8.ofNat n.toNat :: ·) else none
  | _ => none
theorem unB_eq : ∀ {cs : List A} {l : List UInt8}, unB cs = some l → cs = l.map fun b => .int .u8 (b.toNat : Int)
  | [], l, h => by have h' : some [] = some l := h; cases h'; rfl
  | a :: r, l, h => by
    unfold unB at h
    split at h
    · rename_i heq; cases heq
    · rename_i n r' heq
      cases heq
      by_cases hn : 0 ≤ n ∧ n < 256
      · rw [if_pos hn] at h
        obtain ⟨l', h1, rfl⟩ := Option.map_eq_some_iff.1 h
        rw [unB_eq h1, List.map_cons]
        have h8 : ((UInt8.ofNat n.toNat).toNat : Int) = n := by
          rw [UInt8.toNat_ofNat']
          omega
        rw [h8]
      · rw [if_neg hn] at h; cases h
    · cases h
noncomputable def sB : Code := bodyOf Tryz.f17
noncomputable def sR3 : Code := sq1 (sq2 (sq2 sB))
noncomputable def sMid : Code := sq1 (sq2 (sq2 (sq2 (sq2 sB))))
noncomputable def sR10 : Code := sq1 (sq2 (sq2 (sq2 (sq2 (sq2 sB)))))
noncomputable def strA (args : List A) : Option (List UInt8) :=
  (nrm ((evR Cb NN).code stringF 36 (sq1 sB) ⟨argsTm 0 args, ⟨[], []⟩⟩)).bind fun s0 => (nrm ((evR Cb NN).code stringF 36 (sq1 (sq2 sB)) s0)).bind fun s1 =>
    (nrm ((evR Cb NN).code stringF 36 (sq1 (sq2 (sq2 (sq2 sB)))) ⟨(4, .rptr s1.m.rw.length 2 0) :: s1.tm, ⟨s1.m.bx, s1.m.rw ++ [⟨78, [.nilp, .nils]⟩]⟩⟩)).bind fun s4 => (nrm ((evR Cb NN).code stringF 36 sMid s4)).bind fun s5 =>
      match lk 4 s5.tm with
      | .rptr id 2 0 =>
        match s5.m.rw[id]? with
        | some ⟨t, [a0, .sl rid v 0 n]⟩ =>
          match s5.m.rw[rid]? with
          | some ⟨t2, cs⟩ => (unB cs).bind fun l => if t = 78 ∧ t2 = 5 ∧ v = l.length ∧ n = l.length ∧ 0 < l.length ∧ l.length ≤ 9223372036854775807 then some l else none
          | none => none
        | _ => none
      | _ => none
theorem sB_code : Tryz.f17.body = some (.seq (sq1 sB) (.seq (sq1 (sq2 sB)) (.seq (.region (regId sR3) (regOps sR3) false) (.seq (sq1 (sq2 (sq2 (sq2 sB)))) (.seq sMid (.seq (.region (regId sR10) (regOps sR10) false) .ret)))))) := by kernel_rfl
theorem strA_ok {args : List A} {l : List UInt8} (hlen : args.length ≤ 36) (h : strA args = some l) : CallOk Cb stringF args ⟨[], []⟩ (.ret (.tup [.str l, .int .i64 0]), ⟨[], []⟩) := by
  unfold strA at h
  obtain ⟨s0, k0, h⟩ := Option.bind_eq_some_iff.1 h
  obtain ⟨s1, k1, h⟩ := Option.bind_eq_some_iff.1 h
  obtain ⟨s4, k4, h⟩ := Option.bind_eq_some_iff.1 h
  obtain ⟨s5, k5, h⟩ := Option.bind_eq_some_iff.1 h
  split at h
  case h_2 => cases h
  case h_1 id h4 =>
  split at h
  case h_2 => cases h
  case h_1 t a0 rid v n hr1 =>
  split at h
  case h_2 => cases h
  case h_1 t2 cs hr2 =>
  obtain ⟨l', hl, hq⟩ := Option.bind_eq_some_iff.1 h
  by_cases hc : t = 78 ∧ t2 = 5 ∧ v = l'.length ∧ n = l'.length ∧ 0 < l'.length ∧ l'.length ≤ 9223372036854775807
  case neg => rw [if_neg hc] at hq; cases hq
  rw [if_pos hc] at hq
  obtain rfl : l' = l := Option.some.inj hq
  obtain ⟨rfl, rfl, rfl, rfl, h6, h7⟩ := hc
  rw [unB_eq hl] at hr2
  exact str_call okb rfl (f := stringF) (nt := 36) (K := (evR Cb NN).code stringF 36) (fun c s x h => (evR_ok okb NN).code _ _ _ _ _ h) Tryz.func17 sB_code rfl (by decide) (by decide) rfl ⟨_, _, _, rfl⟩ ⟨_, _, _, _, _, _, _, _, _, _, rfl⟩ hlen (nrm_eq k0) (nrm_eq k1) (nrm_eq k4) (nrm_eq k5) h4 hr1 hr2 (by intro e; rw [e] at h6; simp at h6) h7
noncomputable def strG : List A → Mem → Option (Res × Mem) := fun args m => if closed.closedL 0 0 args = true ∧ args.length ≤ 36 then (strA args).map fun l => (.ret (.tup [.str l, .int .i64 0]), m) else none
theorem strG_ok {args : List A} {m : Mem} {r : Res × Mem} (h : strG args m = some r) : CallOk Cb stringF args m r := by
  unfold strG at h
  split at h
  · rename_i hc
    obtain ⟨l, hl, rfl⟩ := Option.map_eq_some_iff.1 h
    exact frame_call okb.gl hc.1 rfl (strA_ok hc.2 hl) m
  · cases h
noncomputable def parseEx : List A → Mem → Option (Res × Mem)
  | [.str s], m => if s = exText then some (.ret pV, m) else none
  | _, _ => none
noncomputable def extp (f : FuncId) : Option (List A → Mem → Option (Res × Mem)) := if f = parseF then some parseEx else if f = stringF then some strG else if f = cloneId then some cloneG else none
noncomputable def Cp : Cfg := { P := Tryz.prog, gl := gl0, ann := ann, ext := extp }
theorem okp : CfgOk Cp where
  gl := okb.gl
  mixed := mixed_prog
  dok := okb.dok
  ext := fun f h he args m r hr => by
    have he' : extp f = some h := he
    unfold extp at he'
    split at he'
    · rename_i hf
      cases he'
      subst hf
      unfold parseEx at hr
      split at hr
      · split at hr
        · rename_i hs
          simp only [Option.some.injEq] at hr
          subst hr
          subst hs
          exact parse_ok m
        · cases hr
      · cases hr
    split at he'
    · rename_i hf; cases he'; subst hf; exact strG_ok hr
    split at he'
    · rename_i hf; cases he'; subst hf; exact clone_ok rfl (by show gl0 1000000007 ≠ _; unfold gl0; rw [if_neg (by decide), if_neg (by decide), if_neg (by decide)]; simp) hr
    · cases he'
end AE
end Go.Proofs.YtmfdpijmholedaaGreatDoor
/- The fixed calls answer true: each inner call by its own run. -/
set_option linter.unusedVariables false
namespace Go.Proofs.YtmfdpijmholedaaGreatDoor
namespace AE
open Go Go.RowKit
def sA : A := .agg (mkf 2 0 [mkf 1 2 [], mkf 7 0 [mkf 0 0 []]] ++ [.isl false 3 (mkv 0 [mkv 0 [] [], mkv 0 [mkv 1 [] [], mkv 2 [] []] [1, 2]] [] ++ mkv 0 [mkv 1 [] [], mkv 0 [mkv 1 [] []] [1]] [] ++ mkv 0 [mkv 1 [] [], mkv 0 [mkv 2 [] []] [1]] [])])
def qA : A := .agg (mkf 2 0 [mkf 1 2 [], mkf 7 0 [mkf 0 0 []]] ++ [.isl false 2 (mkv 0 [mkv 0 [] [], mkv 0 [mkv 1 [] []] [1]] [] ++ mkv 0 [mkv 1 [] [], mkv 0 [mkv 1 [] []] [1]] [])])
def p1A : A := .agg (mkf 2 0 [mkf 1 2 [], mkf 7 0 [mkf 0 0 []]] ++ [.isl false 1 (mkv 0 [mkv 1 [] [], mkv 0 [mkv 0 [] []] [1]] [])])
def zA : A := .agg [.int .i64 0, .int .i64 0, .isl false 0 [], .isl false 0 []]
def uText : List UInt8 := [116, 121, 112, 101, 32, 50, 32, 42, 32, 68, 40, 88, 41, 10, 48, 32, 61, 32, 40, 48, 44, 32, 123, 49, 32, 58, 32, 49, 125, 41, 10, 49, 32, 61, 32, 40, 49, 44, 32, 123, 49, 32, 58, 32, 49, 125, 41, 10]
def ii (l : List Int) : A := .isl true l.length (ints l)
def quotF : FuncId := 14
def partF : FuncId := 27
def isMapF : FuncId := 11
def qTup : A := .tup [qA, .int .i64 0]
def zTup : A := .tup [zA, .int .i64 4]
def pTup : A := .tup [p1A, .isl false 1 (ints [1]), .int .i64 0]
def iTup : A := .tup [.bool true, .int .i64 0]
set_option maxRecDepth 1000000 in
theorem quot_chk : isRes ((evR Cp NN).call quotF [sA, ii [0, 1, 1]] ⟨[], []⟩) qTup = true := by kernel_rfl
set_option maxRecDepth 1000000 in
theorem quot2_chk : isRes ((evR Cp NN).call quotF [sA, ii [0, 0, 1]] ⟨[], []⟩) zTup = true := by kernel_rfl
set_option maxRecDepth 1000000 in
theorem part_chk : isRes ((evR Cp NN).call partF [sA, ii [1]] ⟨[], []⟩) pTup = true := by kernel_rfl
set_option maxRecDepth 1000000 in
theorem is_chk : isRes ((evR Cp NN).call isMapF [sA, qA, ii [0, 1, 1]] ⟨[], []⟩) iTup = true := by kernel_rfl
def isTxt : Option (List UInt8) → List UInt8 → Bool
  | some l, k => l == k
  | _, _ => false
theorem isTxt_eq {x : Option (List UInt8)} {k : List UInt8} (h : isTxt x k = true) : x = some k := by
  unfold isTxt at h
  split at h
  · rw [eq_of_beq h]
  · cases h
set_option maxRecDepth 1000000 in
theorem str1_chk : isTxt (strA [sA]) exText = true := by kernel_rfl
set_option maxRecDepth 1000000 in
theorem str2_chk : isTxt (strA [qA]) uText = true := by kernel_rfl
def tblG (tbl : List (List A × A)) (args : List A) (m : Mem) : Option (Res × Mem) := (tbl.find? fun p => eqA (.tup args) (.tup p.1)).map fun p => (.ret p.2, m)
theorem tbl_ok {C : Cfg} {f : FuncId} {tbl : List (List A × A)} (ht : ∀ p ∈ tbl, ∀ m, CallOk C f p.1 m (.ret p.2, m)) {args : List A} {m : Mem} {r : Res × Mem} (h : tblG tbl args m = some r) : CallOk C f args m r := by
  obtain ⟨p, h1, rfl⟩ := Option.map_eq_some_iff.1 h
  have h2 := List.find?_some h1
  have h3 := eqA_eq _ _ h2
  simp only [A.tup.injEq] at h3
  rw [h3]
  exact ht p (List.mem_of_find?_eq_some h1) m
def parseT : List (List A × A) := [([.str exText], .tup [sA, .int .i64 0])]
def stringT : List (List A × A) := [([sA], .tup [.str exText, .int .i64 0]), ([qA], .tup [.str uText, .int .i64 0])]
def quotT : List (List A × A) := [([sA, ii [0, 1, 1]], qTup), ([sA, ii [0, 0, 1]], zTup)]
def partT : List (List A × A) := [([sA, ii [1]], pTup)]
def isT : List (List A × A) := [([sA, qA, ii [0, 1, 1]], iTup)]
noncomputable def extw (f : FuncId) : Option (List A → Mem → Option (Res × Mem)) :=
  if f = parseF then some (tblG parseT) else if f = stringF then some (tblG stringT) else if f = quotF then some (tblG quotT) else if f = partF then some (tblG partT) else if f = isMapF then some (tblG isT) else none
noncomputable def Cw : Cfg := { P := Tryz.prog, gl := gl0, ann := ann, ext := extw }
theorem run_ok {f : FuncId} {args : List A} {v : A} (ha : closed.closedL 0 0 args = true) (hv : closed 0 0 v = true) (h : isRes ((evR Cp NN).call f args ⟨[], []⟩) v = true) (m : Mem) : CallOk Cw f args m (.ret v, m) :=
  frame_call okp.gl ha hv ((evR_ok okp NN).call _ _ _ _ (isRes_eq h)) m
theorem okw : CfgOk Cw where
  gl := okb.gl
  mixed := mixed_prog
  dok := okb.dok
  ext := fun f h he args m r hr => by
    have he' : extw f = some h := he
    unfold extw at he'
    split at he'
    · rename_i hf
      cases he'
      subst hf
      refine tbl_ok (fun p hp m => ?_) hr
      simp only [parseT, List.mem_singleton] at hp
      subst hp
      exact parse_ok m
    split at he'
    · rename_i hf
      cases he'
      subst hf
      refine tbl_ok (fun p hp m => ?_) hr
      simp only [stringT, List.mem_cons, List.not_mem_nil, or_false] at hp
      rcases hp with rfl | rfl
      · exact frame_call okb.gl (by kernel_rfl) rfl (strA_ok (by decide) (isTxt_eq str1_chk)) m
      · exact frame_call okb.gl (by kernel_rfl) rfl (strA_ok (by decide) (isTxt_eq str2_chk)) m
    split at he'
    · rename_i hf
      cases he'
      subst hf
      refine tbl_ok (fun p hp m => ?_) hr
      simp only [quotT, List.mem_cons, List.not_mem_nil, or_false] at hp
      rcases hp with rfl | rfl
      · exact run_ok (by kernel_rfl) (by kernel_rfl) quot_chk m
      · exact run_ok (by kernel_rfl) (by kernel_rfl) quot2_chk m
    split at he'
    · rename_i hf
      cases he'
      subst hf
      refine tbl_ok (fun p hp m => ?_) hr
      simp only [partT, List.mem_singleton] at hp
      subst hp
      exact run_ok (by kernel_rfl) (by kernel_rfl) part_chk m
    split at he'
    · rename_i hf
      cases he'
      subst hf
      refine tbl_ok (fun p hp m => ?_) hr
      simp only [isT, List.mem_singleton] at hp
      subst hp
      exact run_ok (by kernel_rfl) (by kernel_rfl) is_chk m
    · cases he'
set_option maxRecDepth 1000000 in
theorem awake_runs : saysTrue ((evR Cw NN).call awakeF [] ⟨[], []⟩) = true := by kernel_rfl
theorem awake_ok (m : Mem) : CallOk C0 awakeF [] m (.ret (.bool true), m) := by
  obtain ⟨m1, h⟩ := saysTrue_ok awake_runs
  have h1 := frame_call okw.gl rfl rfl ((evR_ok okw NN).call _ _ _ _ h) m
  unfold CallOk at h1 ⊢
  rw [C0_P, C0_gl]
  exact h1
end AE
end Go.Proofs.YtmfdpijmholedaaGreatDoor
/- Values: how many nodes, how they compare; evaluated. -/
set_option linter.unusedVariables false
set_option linter.unusedSimpArgs false
namespace Go.Proofs.YtmfdpijmholedaaGreatDoor
namespace AE
open Go
mutual
def leftV : Val → Int → Int
  | .mk _ l _, most => max (leftVL l (most - 1)) 0
def leftVL : List Val → Int → Int
  | [], most => most
  | f :: r, most => if 0 < most then leftVL r (leftV f most) else most
end
theorem leftV_eq (f : Val) (most : Int) : leftV f most = max (leftVL f.args (most - 1)) 0 := by cases f; rw [leftV]; rfl
theorem leftVL_drop {l : List Val} {i : Nat} (h : i < l.length) (most : Int) : leftVL (l.drop i) most = if 0 < most then leftVL (l.drop (i + 1)) (leftV l[i] most) else most := by
  rw [List.drop_eq_getElem_cons h, leftVL]
mutual
theorem leftV_le : ∀ (f : Val) (most : Int), 0 ≤ leftV f most ∧ leftV f most ≤ max (most - 1) 0
  | .mk n l w, most => by
    rw [leftV]
    have := leftVL_le l (most - 1)
    omega
theorem leftVL_le : ∀ (l : List Val) (most : Int), leftVL l most ≤ max most 0
  | [], most => by rw [leftVL]; omega
  | f :: r, most => by
    rw [leftVL]
    split
    · have h1 := leftV_le f most
      have h2 := leftVL_le r (leftV f most)
      omega
    · omega
end
mutual
theorem leftV_nodes : ∀ (f : Val) (most : Int), 1 ≤ most → leftV f most = max (most - f.nodes) 0
  | .mk k l w, most, h => by
    rw [leftV, leftVL_nodes l (most - 1) (by omega), Val.nodes_eq]
    simp only [Val.args_mk]
    omega
theorem leftVL_nodes : ∀ (l : List Val) (q : Int), 0 ≤ q → leftVL l q = max (q - Val.nodesL l) 0
  | [], q, h => by rw [leftVL, Val.nodesL]; omega
  | f :: r, q, h => by
    rw [leftVL, Val.nodesL]
    split
    · rw [leftV_nodes f q (by omega), leftVL_nodes r _ (by omega)]
      omega
    · have := f.nodes_pos
      omega
end
set_option maxHeartbeats 1000000 in
theorem ev_leftV (N : Nat) : ∀ (f : Val), f.nodes ≤ N → ∀ (most : Int) (m : Mem), -1000000000 ≤ most → most ≤ 1000000000 → evCall C0 124 [.agg f.cells, .int .i64 most] m = some (.ret (.int .i64 (leftV f most)), m) := by
  induction N with
  | zero => intro f hN; have := f.nodes_pos; omega
  | succ N ih =>
  intro f hN most m h1 h2
  rw [evCall_body C0 (C0_ext _ (by decide)) (by rw [C0_P]; exact Tryz.func124) rfl (by rw [C0_ann]; rfl) (by rw [C0_ann]; rfl) (by decide) (by simp [Tryz.f124])]
  have w1 : IntKind.i64.wrap (most - 1) = most - 1 := wrap_id _ (by omega)
  simp [Tryz.f124, a124, reg124, loop124, w1]
  refine loop_in (fun x : Nat × Int => ⟨[(1, .int .i64 x.2), (2, .ptr m.bx.length 0), (5, .int .i64 x.1)], ⟨m.bx ++ [f.cells], m.rw⟩⟩)
    (fun x => some (.ret (.int .i64 (max (leftVL (f.args.drop x.1) x.2) 0)), m)) (fun x => f.args.length - x.1) (fun x => x.1 ≤ f.args.length ∧ x.2 ≤ 1000000000 - x.1 ∧ -1000000001 ≤ x.2) (0, most - 1) ?_ ?_ ?_ ?_ ?_
  · simp
  · simp [leftV_eq]
  · simp; omega
  · intro x; simp [Tryz.f124, a124, reg124, loop124]
  · rintro ⟨i, q⟩ hI hrec
    simp only at hI
    obtain ⟨hi, hq1, hq2⟩ := hI
    by_cases hlt : i < f.args.length
    · by_cases hq : 0 < q
      · have w2 : IntKind.i64.wrap (i + 1) = i + 1 := wrap_id _ (by omega)
        have he := ih f.args[i] (by have := Val.nodes_arg (List.getElem_mem hlt); omega) q
        simp at he
        have hle := leftV_le f.args[i] q
        clear ih
        have h3 : (i + 1) * 3 ≤ f.args.length * 3 := by omega
        simp [round, Tryz.f124, a124, reg124, loop124, hlt, hq, w2, h3, he _ (show -1000000000 ≤ q by omega) (show q ≤ 1000000000 by omega)]
        refine hrec (i + 1, leftV f.args[i] q) _ _ ?_ ?_ ?_ ?_
        · simp; omega
        · simp; omega
        · simp
        · simp only
          rw [leftVL_drop hlt, if_pos hq]
      · clear hrec ih
        simp [round, Tryz.f124, a124, reg124, loop124, hlt, hq]
        rw [leftVL_drop hlt, if_neg hq]
    · clear hrec ih
      simp [round, Tryz.f124, a124, reg124, loop124, hlt]
      rw [List.drop_eq_nil_of_le (by omega), leftVL]
mutual
def lightV : Val → Int → Bool
  | .mk _ l w, most => lightVL l most && decide ((w.length : Int) ≤ most)
def lightVL : List Val → Int → Bool
  | [], _ => true
  | f :: r, most => lightV f most && lightVL r most
end
theorem lightV_eq (f : Val) (most : Int) : lightV f most = (lightVL f.args most && decide ((f.ws.length : Int) ≤ most)) := by cases f; rw [lightV]; rfl
theorem lightVL_drop {l : List Val} {i : Nat} (h : i < l.length) (most : Int) : lightVL (l.drop i) most = (lightV l[i] most && lightVL (l.drop (i + 1)) most) := by
  rw [List.drop_eq_getElem_cons h, lightVL]
set_option maxHeartbeats 2000000 in
theorem ev_light (most : Int) (N : Nat) : ∀ (f : Val), f.nodes ≤ N → f.nodes ≤ 1000000000 → ∀ (m : Mem), evCall C0 125 [.agg f.cells, .int .i64 most] m = some (.ret (.bool (lightV f most)), m) := by
  induction N with
  | zero => intro f hN; have := f.nodes_pos; omega
  | succ N ih =>
  intro f hN hb m
  rw [evCall_body C0 (C0_ext _ (by decide)) (by rw [C0_P]; exact Tryz.func125) rfl (by rw [C0_ann]; rfl) (by rw [C0_ann]; rfl) (by decide) (by simp [Tryz.f125])]
  have hlen := f.length_args
  rw [lightV_eq]
  simp [Tryz.f125, a125, reg125, loop125]
  refine loop_in (fun i : Nat => ⟨[(1, .int .i64 most), (2, .ptr m.bx.length 0), (8, .isl false f.args.length (Val.cellsL f.args)), (9, .int .i64 f.args.length), (10, .int .i64 i)], ⟨m.bx ++ [f.cells], m.rw⟩⟩)
    (fun i => some (.ret (.bool (lightVL (f.args.drop i) most && decide ((f.ws.length : Int) ≤ most))), m)) (fun i => f.args.length - i) (fun i => i ≤ f.args.length) 0 ?_ ?_ ?_ ?_ ?_
  · simp
  · simp
  · omega
  · intro x; simp [Tryz.f125, a125, reg125, loop125]
  · intro i hi hrec
    by_cases hlt : i < f.args.length
    · have w2 : IntKind.i64.wrap (i + 1) = i + 1 := wrap_id _ (by omega)
      have hmem := Val.nodes_arg (List.getElem_mem hlt)
      have he := ih f.args[i] (by omega) (by omega)
      simp at he
      clear ih
      have h3 : (i + 1) * 3 ≤ f.args.length * 3 := by omega
      rw [lightVL_drop hlt]
      cases hc : lightV f.args[i] most
      · simp [hc] at he
        simp [round, Tryz.f125, a125, reg125, loop125, hlt, w2, h3, he]
      · simp [hc] at he
        simp [round, Tryz.f125, a125, reg125, loop125, hlt, w2, h3, he, endRound_M]
        refine hrec (i + 1) _ _ ?_ ?_ ?_ ?_
        · omega
        · omega
        · simp
        · simp
    · clear hrec ih
      simp [round, Tryz.f125, a125, reg125, loop125, hlt]
      rw [List.drop_eq_nil_of_le (by omega), lightVL]
      simp
def fewV (v : Val) (most : Int) : Bool := decide (0 < leftV v (most + 1)) && lightV v most
theorem ev_FewV (f : Val) (most : Int) (m : Mem) (h1 : -100000000 ≤ most) (h2 : most ≤ 100000000) : evCall C0 81 [.agg f.cells, .int .i64 most] m = some (.ret (.bool (fewV f most)), m) := by
  rw [evCall_body C0 (C0_ext _ (by decide)) (by rw [C0_P]; exact Tryz.func81) rfl (by rw [C0_ann]; rfl) (by rw [C0_ann]; rfl) (by decide) (by simp [Tryz.f81])]
  have w1 : IntKind.i64.wrap (most + 1) = most + 1 := wrap_id _ (by omega)
  have he := ev_leftV f.nodes f (Nat.le_refl _) (most + 1)
  simp at he
  unfold fewV
  by_cases hm : 1 ≤ most + 1
  · have hn := leftV_nodes f (most + 1) hm
    by_cases hc : 0 < leftV f (most + 1)
    · have hl := ev_light most f.nodes f (Nat.le_refl _) (by omega)
      simp at hl
      simp [Tryz.f81, a81, reg81, w1, he _ (show -1000000000 ≤ most + 1 by omega) (show most + 1 ≤ 1000000000 by omega), hc, hl]
    · simp [Tryz.f81, a81, reg81, w1, he _ (show -1000000000 ≤ most + 1 by omega) (show most + 1 ≤ 1000000000 by omega), hc]
  · have hc : ¬ 0 < leftV f (most + 1) := by have := leftV_le f (most + 1); omega
    simp [Tryz.f81, a81, reg81, w1, he _ (show -1000000000 ≤ most + 1 by omega) (show most + 1 ≤ 1000000000 by omega), hc]
theorem fewV_nodes {v : Val} {most : Int} (h0 : 0 ≤ most) (h : fewV v most = true) : (v.nodes : Int) ≤ most := by
  unfold fewV at h
  simp only [Bool.and_eq_true, decide_eq_true_eq] at h
  rw [leftV_nodes v _ (by omega)] at h
  omega
theorem ev_numC (a b : Int) (m : Mem) : evCall C0 126 [.int .i64 a, .int .i64 b] m = some (.ret (.int .i64 (numC a b)), m) := by
  rw [evCall_body C0 (C0_ext _ (by decide)) (by rw [C0_P]; exact Tryz.func126) rfl (by rw [C0_ann]; rfl) (by rw [C0_ann]; rfl) (by decide) (by simp [Tryz.f126])]
  unfold numC
  by_cases h1 : a < b
  · simp [Tryz.f126, a126, reg126, h1]
  by_cases h2 : b < a
  · simp [Tryz.f126, a126, reg126, h1, h2]
  simp [Tryz.f126, a126, reg126, h1, h2]
set_option maxHeartbeats 2000000 in
theorem ev_CmpInts (f1 f2 : Bool) (a b : List Int) (ha : a.length ≤ 1000000000) (m : Mem) : evCall C0 166 [.isl f1 a.length (ints a), .isl f2 b.length (ints b), .fn 126 []] m = some (.ret (.int .i64 (lexI a b)), m) := by
  rw [evCall_body C0 (C0_ext _ (by decide)) (by rw [C0_P]; exact Tryz.func166) rfl (by rw [C0_ann]; rfl) (by rw [C0_ann]; rfl) (by decide) (by simp [Tryz.f166])]
  simp [Tryz.f166, a166, reg166, loop166]
  refine loop_in (fun i : Nat => ⟨[(0, .isl f1 a.length (ints a)), (1, .isl f2 b.length (ints b)), (2, .fn 126 []), (11, .isl f1 a.length (ints a)), (12, .int .i64 a.length), (13, .int .i64 i)], m⟩)
    (fun i => some (.ret (.int .i64 (lexI (a.drop i) (b.drop i))), m)) (fun i => a.length - i) (fun i => i ≤ a.length ∧ i ≤ b.length) 0 ?_ ?_ ?_ ?_ ?_
  · simp
  · simp
  · simp
  · intro x; simp [Tryz.f166, a166, reg166, loop166]
  · rintro i ⟨hi, hi'⟩ hrec
    by_cases hlt : i < a.length
    · have w2 : IntKind.i64.wrap (i + 1) = i + 1 := wrap_id _ (by omega)
      have h3 : i + 1 ≤ a.length := by omega
      by_cases hlt' : i < b.length
      · have h3' : i + 1 ≤ b.length := by omega
        have h4 : ¬ b.length ≤ i := by omega
        rw [lexI_drop hlt hlt']
        by_cases hc : numC a[i] b[i] = 0
        · simp [round, Tryz.f166, a166, reg166, loop166, hlt, hlt', w2, h3, h3', h4, ints_at hlt, ints_at hlt', ev_numC, hc, endRound_M0]
          refine hrec (i + 1) _ _ ?_ ?_ ?_ ?_
          · omega
          · omega
          · simp
          · simp
        · simp [round, Tryz.f166, a166, reg166, loop166, hlt, hlt', w2, h3, h3', h4, ints_at hlt, ints_at hlt', ev_numC, hc]
      · have h4 : b.length ≤ i := by omega
        rw [lexI_long hlt hlt']
        simp [round, Tryz.f166, a166, reg166, loop166, hlt, w2, h3, h4, ints_at hlt]
    · clear hrec
      by_cases hlt' : i < b.length
      · have h5 : a.length < b.length := by omega
        rw [lexI_short hlt hlt']
        simp [round, Tryz.f166, a166, reg166, loop166, hlt, h5]
      · have h5 : ¬ a.length < b.length := by omega
        rw [lexI_end hlt hlt']
        simp [round, Tryz.f166, a166, reg166, loop166, hlt, h5]
theorem ev_orderInts (f1 f2 : Bool) (a b : List Int) (ha : a.length ≤ 1000000000) (m : Mem) : evCall C0 128 [.isl f1 a.length (ints a), .isl f2 b.length (ints b), .fn 126 []] m = some (.ret (.int .i64 (lexI a b)), m) := by
  rw [evCall_body C0 (C0_ext _ (by decide)) (by rw [C0_P]; exact Tryz.func128) rfl (by rw [C0_ann]; rfl) (by rw [C0_ann]; rfl) (by decide) (by simp [Tryz.f128])]
  simp [Tryz.f128, a128, reg128, ev_CmpInts f1 f2 a b ha]
set_option maxHeartbeats 2000000 in
theorem ev_CmpVals (a b : List Val) (f1 f2 : Bool) (ha : a.length ≤ 1000000000) (ih : ∀ u, u ∈ a → ∀ (v : Val) (m : Mem), evCall C0 83 [.agg u.cells, .agg v.cells] m = some (.ret (.int .i64 (cmpV u v)), m)) (m : Mem) :
    evCall C0 165 [.isl f1 a.length (Val.cellsL a), .isl f2 b.length (Val.cellsL b), .fn 83 []] m = some (.ret (.int .i64 (cmpL a b)), m) := by
  rw [evCall_body C0 (C0_ext _ (by decide)) (by rw [C0_P]; exact Tryz.func165) rfl (by rw [C0_ann]; rfl) (by rw [C0_ann]; rfl) (by decide) (by simp [Tryz.f165])]
  simp [Tryz.f165, a165, reg165, loop165]
  refine loop_in (fun i : Nat => ⟨[(0, .isl f1 a.length (Val.cellsL a)), (1, .isl f2 b.length (Val.cellsL b)), (2, .fn 83 []), (11, .isl f1 a.length (Val.cellsL a)), (12, .int .i64 a.length), (13, .int .i64 i)], m⟩)
    (fun i => some (.ret (.int .i64 (cmpL (a.drop i) (b.drop i))), m)) (fun i => a.length - i) (fun i => i ≤ a.length ∧ i ≤ b.length) 0 ?_ ?_ ?_ ?_ ?_
  · simp
  · simp
  · simp
  · intro x; simp [Tryz.f165, a165, reg165, loop165]
  · rintro i ⟨hi, hi'⟩ hrec
    by_cases hlt : i < a.length
    · have w2 : IntKind.i64.wrap (i + 1) = i + 1 := wrap_id _ (by omega)
      have h3 : (i + 1) * 3 ≤ a.length * 3 := by omega
      by_cases hlt' : i < b.length
      · have h3' : (i + 1) * 3 ≤ b.length * 3 := by omega
        have h4 : ¬ b.length ≤ i := by omega
        have he := ih a[i] (List.getElem_mem hlt) b[i]
        simp at he
        rw [cmpL_drop hlt hlt']
        by_cases hc : cmpV a[i] b[i] = 0
        · simp [hc] at he
          simp [round, Tryz.f165, a165, reg165, loop165, hlt, hlt', w2, h3, h3', h4, he, hc, endRound_M]
          refine hrec (i + 1) _ _ ?_ ?_ ?_ ?_
          · omega
          · omega
          · simp
          · simp
        · simp [round, Tryz.f165, a165, reg165, loop165, hlt, hlt', w2, h3, h3', h4, he, hc]
      · have h4 : b.length ≤ i := by omega
        rw [cmpL_long hlt hlt']
        simp [round, Tryz.f165, a165, reg165, loop165, hlt, w2, h3, h4]
    · clear hrec
      by_cases hlt' : i < b.length
      · have h5 : a.length < b.length := by omega
        rw [cmpL_short hlt hlt']
        simp [round, Tryz.f165, a165, reg165, loop165, hlt, h5]
      · have h5 : ¬ a.length < b.length := by omega
        rw [cmpL_end hlt hlt']
        simp [round, Tryz.f165, a165, reg165, loop165, hlt, h5]
mutual
theorem light_slim {most : Int} (h : most ≤ 1000000000) : ∀ v : Val, lightV v most = true → slimV v
  | .mk n l w, hl => by
    rw [lightV, Bool.and_eq_true, decide_eq_true_eq] at hl
    rw [slimV]
    exact ⟨by omega, lightL_slim h l hl.1⟩
theorem lightL_slim {most : Int} (h : most ≤ 1000000000) : ∀ l : List Val, lightVL l most = true → slimL l
  | [], _ => by rw [slimL]; trivial
  | f :: r, hl => by
    rw [lightVL, Bool.and_eq_true] at hl
    rw [slimL]
    exact ⟨light_slim h f hl.1, lightL_slim h r hl.2⟩
end
theorem ev_orderVals (a b : List Val) (f1 f2 : Bool) (ha : a.length ≤ 1000000000) (ih : ∀ u, u ∈ a → ∀ (v : Val) (m : Mem), evCall C0 83 [.agg u.cells, .agg v.cells] m = some (.ret (.int .i64 (cmpV u v)), m)) (m : Mem) :
    evCall C0 127 [.isl f1 a.length (Val.cellsL a), .isl f2 b.length (Val.cellsL b), .fn 83 []] m = some (.ret (.int .i64 (cmpL a b)), m) := by
  rw [evCall_body C0 (C0_ext _ (by decide)) (by rw [C0_P]; exact Tryz.func127) rfl (by rw [C0_ann]; rfl) (by rw [C0_ann]; rfl) (by decide) (by simp [Tryz.f127])]
  simp [Tryz.f127, a127, reg127, ev_CmpVals a b f1 f2 ha ih]
set_option maxHeartbeats 2000000 in
theorem ev_Compare (N : Nat) : ∀ (u : Val), u.nodes ≤ N → u.nodes ≤ 1000000000 → slimV u → ∀ (v : Val) (m : Mem), evCall C0 83 [.agg u.cells, .agg v.cells] m = some (.ret (.int .i64 (cmpV u v)), m) := by
  induction N with
  | zero => intro f hN; have := f.nodes_pos; omega
  | succ N ih =>
  intro u hN hb hs v m
  have hlen := u.length_args
  rw [slimV_eq] at hs
  have hargs := ev_orderVals u.args v.args false false (by omega) (fun x hx w m => ih x (by have := Val.nodes_arg hx; omega) (by have := Val.nodes_arg hx; omega) (slimL_mem hs.2 hx) w m)
  have hws := ev_orderInts false false u.ws v.ws hs.1
  clear ih
  rw [evCall_body C0 (C0_ext _ (by decide)) (by rw [C0_P]; exact Tryz.func83) rfl (by rw [C0_ann]; rfl) (by rw [C0_ann]; rfl) (by decide) (by simp [Tryz.f83])]
  rw [cmpV_eq]
  by_cases c1 : numC u.num v.num = 0
  · by_cases c2 : cmpL u.args v.args = 0
    · simp [c2] at hargs
      simp [Tryz.f83, a83, reg83, ev_numC, c1, hargs, hws, c2]
    · simp [Tryz.f83, a83, reg83, ev_numC, c1, hargs, c2]
  · simp [Tryz.f83, a83, reg83, ev_numC, c1]
end AE
end Go.Proofs.YtmfdpijmholedaaGreatDoor
