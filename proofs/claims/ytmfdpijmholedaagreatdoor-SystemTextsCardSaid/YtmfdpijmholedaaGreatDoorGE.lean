/- Functors as trees. -/
import Derived.Test.YtmfdpijmholedaaGreatDoorAE4
import Derived.Test.YtmfdpijmholedaaGreatDoorGC
import Derived.Sort.Grow
import Derived.Lib.SlicesCompact
import Derived.Shelf.SlSortCmp.WholeK
import Derived.Lib.AtoiAll
import Derived.Lib.ItoaNum
import Derived.Test.YtmfdpijmholedaaGreatDoorTY
import Derived.Test.YtmfdpijmholedaaGreatDoorGD
set_option linter.unusedVariables false
set_option linter.unusedSimpArgs false
namespace Go.Proofs.YtmfdpijmholedaaGreatDoor
namespace AE
open Go
def az(ks:List Int):List A:=ks.map (.int .i64)
@[simp] theorem GB(ks:List Int):(az ks).length=ks.length:=by simp[az]
theorem bq{ks:List Int}{i:Nat}(h:i<ks.length):((az ks).drop i).take 1=[.int .i64 ks[i]]:=by
 unfold az
 rw[List.drop_eq_getElem_cons (by simpa using h)]
 simp
@[simp] theorem yL(nb nr:Nat)(ks:List Int):(az ks).all (closed nb nr)=true:=by simp[az]
@[simp] theorem KP(nb nr:Nat)(g)(ks:List Int):(az ks).map (er1 nb nr g)=az ks:=by
 unfold az
 rw[List.map_map]
 exact List.map_congr_left fun x _=>rfl
@[simp] theorem oT(ks:List Int):(az ks).all flat=true:=by simp[az,flat]
theorem dP(a b:List Int):az (a++b)=az a++az b:=by simp[az]
@[simp] theorem J0:az []=[]:=rfl
@[simp] theorem uZ(ks:List Int):(az ks).take ks.length=az ks:=List.take_of_length_le (by simp)
theorem gY(ks:List Int):(∀x,x∈az ks→flat x=true)=True:=eq_true (List.all_eq_true.1 (oT ks))
inductive Fun where
 |mk (kind n:Int) (args:List Fun)
namespace Fun
def kind:Fun→Int| .mk k _ _=>k
def num:Fun→Int| .mk _ n _=>n
def args:Fun→List Fun| .mk _ _ l=>l
@[simp] theorem kind_mk(k n:Int)(l:List Fun):(Fun.mk k n l).kind=k:=rfl
@[simp] theorem num_mk(k n:Int)(l:List Fun):(Fun.mk k n l).num=n:=rfl
@[simp] theorem args_mk(k n:Int)(l:List Fun):(Fun.mk k n l).args=l:=rfl
theorem eta(f:Fun):f= .mk f.kind f.num f.args:=by cases f;rfl
mutual
def nodes:Fun→Nat
 | .mk _ _ l=>1+nodesL l
def nodesL:List Fun→Nat
 |[]=>0
 |f::r=>f.nodes+nodesL r
end
theorem nodes_eq(f:Fun):f.nodes=1+nodesL f.args:=by cases f;rw[nodes];rfl
theorem nodes_pos(f:Fun):0<f.nodes:=by rw[nodes_eq];omega
theorem nodes_mem:∀{l:List Fun} {f:Fun},f∈l→f.nodes≤nodesL l
 |g::r,f,h=>by
  rw[nodesL]
  rcases List.mem_cons.1 h with rfl|h
  ·omega
  ·have:=nodes_mem h;omega
theorem nodes_arg{f g:Fun}(h:g∈f.args):g.nodes<f.nodes:=by
 have:=nodes_mem h
 rw[nodes_eq f]
 omega
theorem length_nodesL:∀l:List Fun,l.length≤nodesL l
 |[]=>Nat.le_refl _
 |f::r=>by rw[nodesL];have:=length_nodesL r;have:=nodes_pos f;simp;omega
theorem length_args(f:Fun):f.args.length<f.nodes:=by rw[nodes_eq];have:=length_nodesL f.args;omega
mutual
def cells:Fun→List A
 | .mk k n l=>[.int .i64 k,.int .i64 n,.isl false l.length (cellsL l)]
def cellsL:List Fun→List A
 |[]=>[]
 |f::r=>f.cells++cellsL r
end
theorem cells_eq(f:Fun):f.cells=[.int .i64 f.kind,.int .i64 f.num,.isl false f.args.length (cellsL f.args)]:=by cases f;rw[cells];rfl
@[simp] theorem cells_length(f:Fun):f.cells.length=3:=by rw[cells_eq];rfl
@[simp] theorem cellsL_nil:cellsL []=[]:=by rw[cellsL]
@[simp] theorem cellsL_length:∀l:List Fun,(cellsL l).length=l.length*3
 |[]=>rfl
 |f::r=>by rw[cellsL,List.length_append,cellsL_length r,cells_length,List.length_cons];omega
theorem cellsL_append:∀l r:List Fun,cellsL (l++r)=cellsL l++cellsL r
 |[],r=>by simp
 |f::l,r=>by rw[List.cons_append,cellsL,cellsL,cellsL_append l r,List.append_assoc]
theorem at_cellsL:∀(l:List Fun) (i:Nat) (h:i<l.length),((cellsL l).drop (i*3)).take 3=(l[i]).cells
 |f::r,0,_=>by rw[cellsL];simp[List.take_append]
 |f::r,i+1,h=>by
  rw[cellsL]
  have:=at_cellsL r i (by simpa using h)
  rw[show(i+1)*3=f.cells.length+i*3 by simp;omega,←List.drop_drop,List.drop_left]
  simpa using this
mutual
theorem sn(nb nr:Nat)(g):∀f:Fun,f.cells.map (er1 nb nr g)=f.cells
 | .mk k n l=>by rw[cells];simp[er_cellsL nb nr g l]
theorem er_cellsL(nb nr:Nat)(g):∀l:List Fun,(cellsL l).map (er1 nb nr g)=cellsL l
 |[]=>by rw[cellsL];rfl
 |f::r=>by rw[cellsL,List.map_append,sn nb nr g f,er_cellsL nb nr g r]
end
mutual
theorem closed_cells(nb nr:Nat):∀f:Fun,f.cells.all (closed nb nr)=true
 | .mk k n l=>by rw[cells];simp[closed_cellsL nb nr l]
theorem closed_cellsL(nb nr:Nat):∀l:List Fun,(cellsL l).all (closed nb nr)=true
 |[]=>by rw[cellsL];rfl
 |f::r=>by rw[cellsL,List.all_append,closed_cells nb nr f,closed_cellsL nb nr r];rfl
end
theorem flat_cellsL:∀l:List Fun,(cellsL l).all flat=true
 |[]=>by rw[cellsL];rfl
 |f::r=>by rw[cellsL,List.all_append,cells_eq,flat_cellsL r];rfl
end Fun
attribute [simp] Fun.cells_eq Fun.er_cellsL Fun.closed_cellsL Fun.flat_cellsL
@[simp] theorem Fun.at_cellsL'(l:List Fun)(i:Nat)(h:i<l.length):((Fun.cellsL l).drop (i*3)).take 3=(l[i]).cells:=Fun.at_cellsL l i h
theorem al(n:Int)(h: -9223372036854775808≤n∧n≤9223372036854775807):IntKind.i64.wrap n=n:=IntWalk.i64_in n h
inductive Val where
 |mk (n:Int) (args:List Val) (ws:List Int)
namespace Val
def num:Val→Int| .mk n _ _=>n
def args:Val→List Val| .mk _ l _=>l
def ws:Val→List Int| .mk _ _ w=>w
@[simp] theorem num_mk(n:Int)(l:List Val)(w:List Int):(Val.mk n l w).num=n:=rfl
@[simp] theorem args_mk(n:Int)(l:List Val)(w:List Int):(Val.mk n l w).args=l:=rfl
@[simp] theorem ws_mk(n:Int)(l:List Val)(w:List Int):(Val.mk n l w).ws=w:=rfl
theorem eta(f:Val):f= .mk f.num f.args f.ws:=by cases f;rfl
mutual
def nodes:Val→Nat
 | .mk _ l _=>1+nodesL l
def nodesL:List Val→Nat
 |[]=>0
 |f::r=>f.nodes+nodesL r
end
theorem nodes_eq(f:Val):f.nodes=1+nodesL f.args:=by cases f;rw[nodes];rfl
theorem nodes_pos(f:Val):0<f.nodes:=by rw[nodes_eq];omega
theorem nodes_mem:∀{l:List Val} {f:Val},f∈l→f.nodes≤nodesL l
 |g::r,f,h=>by
  rw[nodesL]
  rcases List.mem_cons.1 h with rfl|h
  ·omega
  ·have:=nodes_mem h;omega
theorem nodes_arg{f g:Val}(h:g∈f.args):g.nodes<f.nodes:=by
 have:=nodes_mem h
 rw[nodes_eq f]
 omega
theorem length_nodesL:∀l:List Val,l.length≤nodesL l
 |[]=>Nat.le_refl _
 |f::r=>by rw[nodesL];have:=length_nodesL r;have:=nodes_pos f;simp;omega
theorem length_args(f:Val):f.args.length<f.nodes:=by rw[nodes_eq];have:=length_nodesL f.args;omega
theorem nodesL_drop{l:List Val}{i:Nat}(h:i<l.length):nodesL (l.drop i)=l[i].nodes+nodesL (l.drop (i+1)):=by rw[List.drop_eq_getElem_cons h,nodesL]
mutual
def cells:Val→List A
 | .mk n l w=>[.int .i64 n,.isl false l.length (cellsL l),.isl false w.length (az w)]
def cellsL:List Val→List A
 |[]=>[]
 |f::r=>f.cells++cellsL r
end
theorem cells_eq(f:Val):f.cells=[.int .i64 f.num,.isl false f.args.length (cellsL f.args),.isl false f.ws.length (az f.ws)]:=by cases f;rw[cells];rfl
@[simp] theorem cells_length(f:Val):f.cells.length=3:=by rw[cells_eq];rfl
@[simp] theorem cellsL_nil:cellsL []=[]:=by rw[cellsL]
@[simp] theorem cellsL_length:∀l:List Val,(cellsL l).length=l.length*3
 |[]=>rfl
 |f::r=>by rw[cellsL,List.length_append,cellsL_length r,cells_length,List.length_cons];omega
theorem cellsL_append:∀l r:List Val,cellsL (l++r)=cellsL l++cellsL r
 |[],r=>by simp
 |f::l,r=>by rw[List.cons_append,cellsL,cellsL,cellsL_append l r,List.append_assoc]
theorem at_cellsL:∀(l:List Val) (i:Nat) (h:i<l.length),((cellsL l).drop (i*3)).take 3=(l[i]).cells
 |f::r,0,_=>by rw[cellsL];simp[List.take_append]
 |f::r,i+1,h=>by
  rw[cellsL]
  have:=at_cellsL r i (by simpa using h)
  rw[show(i+1)*3=f.cells.length+i*3 by simp;omega,←List.drop_drop,List.drop_left]
  simpa using this
mutual
theorem sn(nb nr:Nat)(g):∀f:Val,f.cells.map (er1 nb nr g)=f.cells
 | .mk n l w=>by rw[cells];simp[er_cellsL nb nr g l]
theorem er_cellsL(nb nr:Nat)(g):∀l:List Val,(cellsL l).map (er1 nb nr g)=cellsL l
 |[]=>by rw[cellsL];rfl
 |f::r=>by rw[cellsL,List.map_append,sn nb nr g f,er_cellsL nb nr g r]
end
mutual
theorem closed_cells(nb nr:Nat):∀f:Val,f.cells.all (closed nb nr)=true
 | .mk n l w=>by rw[cells];simp[closed_cellsL nb nr l]
theorem closed_cellsL(nb nr:Nat):∀l:List Val,(cellsL l).all (closed nb nr)=true
 |[]=>by rw[cellsL];rfl
 |f::r=>by rw[cellsL,List.all_append,closed_cells nb nr f,closed_cellsL nb nr r];rfl
end
theorem flat_cellsL:∀l:List Val,(cellsL l).all flat=true
 |[]=>by rw[cellsL];rfl
 |f::r=>by rw[cellsL,List.all_append,cells_eq,flat_cellsL r];rfl
theorem cellsL_snoc{l:List Val}{i:Nat}(h:i<l.length):cellsL (l.take (i+1))=cellsL (l.take i)++(l[i]).cells:=by
 rw[List.take_succ_eq_append_getElem h,cellsL_append,cellsL,cellsL_nil,List.append_nil]
end Val
attribute [simp] Val.cells_eq Val.er_cellsL Val.closed_cellsL Val.flat_cellsL
@[simp] theorem Val.at_cellsL'(l:List Val)(i:Nat)(h:i<l.length):((Val.cellsL l).drop (i*3)).take 3=(l[i]).cells:=Val.at_cellsL l i h
end AE
end Go.Proofs.YtmfdpijmholedaaGreatDoor
/- A row of numbers that the library writes anew. -/
set_option linter.unusedVariables false
set_option linter.unusedSimpArgs false
namespace Go.Proofs.YtmfdpijmholedaaGreatDoor
namespace AE
open Go Go.RowKit Go.Sort
section
variable {P:Program} {gl:Nat→A} {w0:World} {g:Gh} {m:Mem} {w w':World}
theorem rV(hs:SR P gl w0 g m w)(hbel:Below w.heap.size w w')(hd:w.drawn≤w'.drawn):SR P gl w0 g m w'∧Ext w g w' g:=by
 have hcell:∀k o,k<w.heap.size→w'.cell? ⟨k,o,none⟩=w.cell? ⟨k,o,none⟩:=fun k o hk=>hbel.cell (p:=⟨k,o,none⟩) hk
 have hext:Ext w g w' g:=⟨⟨fun k o hF=>⟨hF,hcell k o (hs.lim k o hF)⟩,Nat.le_refl _,fun _ _=>rfl,fun i L h=>⟨L,h,Nat.le_refl _,fun _=>⟨rfl,rfl,rfl⟩,rfl⟩⟩,fun b hb hl=>⟨hbel.block b hb,hl⟩,hbel.size⟩
 refine⟨?_,hext⟩
 exact {
  below:=hs.below.trans (hbel.mono hs.szB)
  nb:=hs.nb
  rl:=hs.rl
  es:=hs.es
  bx:=fun i cs hi=>by
   obtain⟨us,t,h1,h2⟩:=hs.bx i cs hi
   refine⟨us,t, ?_,h2.mono hext⟩
   rw[hbel.block _ (Array.getElem?_eq_some_iff.1 h1).1]
   exact h1
  rw:=fun i r hi=>by
   obtain⟨us,ss,rest,h1,h2,h3,h4⟩:=hs.rw i r hi
   refine⟨us,ss,rest, ?_,h2,h3,h4.mono hext⟩
   rw[hbel.block _ (Array.getElem?_eq_some_iff.1 h1).1]
   exact h1
  ownb:=hs.ownb
  ownr:=hs.ownr
  injb:=hs.injb
  injr:=hs.injr
  dis:=hs.dis
  lim:=fun b o hF=>Nat.lt_of_lt_of_le (hs.lim b o hF) hbel.size
  gl:=fun n=>(hs.gl n).mono hext
  dr:=fun hf=>Nat.le_trans (hs.dr hf) hd
  tb:=hs.tb}
theorem xh:∀{zs:List Int} {us:List Value},VRs w g (az zs) us→us=zs.map (Value.int .i64)
 |[],us,h=>VRs.nil_iff.1 h
 |z::r,us,h=>by
  rw[show az (z::r)=A.int .i64 z::az r from rfl,VRs] at h
  obtain⟨u,t,rfl,h1,h2⟩:=h
  rw[VR] at h1
  rw[xh h2,h1]
  rfl
theorem xE:∀zs:List Int,VRs w g (az zs) (zs.map (Value.int .i64))
 |[]=>VRs.mk_nil
 |z::r=> .mk_cons VR.mkInt (xE r)
theorem qP{blk:Nat}{c:Array Value}{e:TypeId}{fr:Nat×Nat}(h:w.heap[blk]? =some (.cells c e fr))(f:Array Value→Array Value):mapBlock w blk f=w.setRow blk (f c):=by
 rw[mapBlock_congr w blk f (fun _=>f c) fun c' e' fr' h'=>by rw[h] at h';cases h';rfl]
 unfold mapBlock World.setRow
 congr 1
end
def lw:List A→Option (List Int)
 |[]=>some []
 | .int .i64 n::r=>(lw r).map (n:: ·)
 |_=>none
theorem l3:∀{cs:List A} {zs:List Int},lw cs=some zs→cs=az zs
 |[],zs,h=>by rw[lw] at h;cases h;rfl
 |a::r,zs,h=>by
  unfold lw at h
  split at h
  ·rename_i e;cases e
  ·rename_i n r' e
   cases e
   obtain⟨q,h1,rfl⟩:=Option.map_eq_some_iff.1 h
   rw[l3 h1]
   rfl
  ·cases h
@[simp] theorem yH:∀zs:List Int,lw (az zs)=some zs
 |[]=>rfl
 |z::r=>by
  show(lw (az r)).map (z:: ·)=_
  rw[yH r]
  rfl
end AE
end Go.Proofs.YtmfdpijmholedaaGreatDoor
/- A row of elements that the library sorts by a function of the program. -/
set_option linter.unusedVariables false
set_option linter.unusedSimpArgs false
namespace Go.Proofs.YtmfdpijmholedaaGreatDoor
namespace AE
open Go Go.RowKit Go.Sort Go.Shelf Go.Lib
section
variable {P:Program} {gl:Nat→A} {w0:World} {g:Gh} {m:Mem} {w w':World}
theorem yC{vs:List Value}{us:Array Value}{ss rest:List Value}(h:us.toList=ss++rest)(hl:ss.length=vs.length):(putCells id 0 vs.toArray us).toList=vs++rest:=by
 apply List.ext_getElem?
 intro k
 have hk:us[k]? =(ss++rest)[k]? :=by rw[←h,Array.getElem?_toList]
 unfold putCells
 rw[Array.getElem?_toList,Array.getElem?_mapIdx,hk]
 simp only[List.size_toArray,Nat.zero_add,Nat.zero_le,true_and,Nat.sub_zero]
 rw[List.getElem?_append,List.getElem?_append,hl]
 by_cases h1:k<vs.length
 ·rw[if_pos h1,if_pos h1,List.getElem?_eq_getElem (by omega),List.getElem?_eq_getElem h1]
  simp[h1]
 ·rw[if_neg h1,if_neg h1]
  simp[h1]
theorem CZ(hs:SR P gl w0 g m w){i:Nat}{t:TypeId}{cs cs':List A}{vs:List Value}(hi:m.rw[i]? =some ⟨t,cs⟩)(h0:g.sh i=0)(hl:cs'.length=cs.length)(hv:VRs w g cs' vs)(n:Nat)(os:Array Obj):
  ∃g',SR P gl w0 g' ⟨m.bx,m.rw.set i ⟨t,cs'⟩⟩ (grow (putRow id (Sort.ahead w n) (g.br i) 0 vs.toArray) os)∧Ext w g (grow (putRow id (Sort.ahead w n) (g.br i) 0 vs.toArray) os) g'∧g'.br=g.br∧g'.cz=g.cz∧g'.es=g.es∧g'.rl[i]? =some cs'.length∧g'.sh i=0:=by
 obtain⟨us,ss,rest,h1,h2,h3,h4⟩:=hs.rw i _ hi
 rw[h0,List.drop_zero] at h3
 have e1:RowKit.Below w.heap.size w (Sort.ahead w n):=⟨rfl,rfl,rfl,Nat.le_refl _,fun _ _=>rfl⟩
 obtain⟨s1,x1⟩:=rV hs e1 (Nat.le_add_right _ _)
 have h1':(Sort.ahead w n).heap[g.br i]? =some (.cells us t (0,0)):=h1
 have hput:putRow id (Sort.ahead w n) (g.br i) 0 vs.toArray=(Sort.ahead w n).setRow (g.br i) (putCells id 0 vs.toArray us):=qP h1' _
 have hvl:=hv.length
 have hsl:=h4.length
 obtain⟨g',s2,x2,hb,hc,he,hr,hsh⟩:=s1.setRow (cs:=cs') (us:=putCells id 0 vs.toArray us) (ss:=vs) (rest:=rest) hi (by simp only;omega) (by rw[←h2];simp[putCells]) (by rw[h0,List.drop_zero];exact yC h3 (by simp only at hsl;omega)) (hv.mono x1)
 rw[←hput] at s2 x2
 have e3:RowKit.Below (putRow id (Sort.ahead w n) (g.br i) 0 vs.toArray).heap.size (putRow id (Sort.ahead w n) (g.br i) 0 vs.toArray) (grow (putRow id (Sort.ahead w n) (g.br i) 0 vs.toArray) os):=
  ⟨rfl,rfl,rfl,by rw[size_grow];omega,fun k hk=>heap_grow_old _ _ hk⟩
 obtain⟨s3,x3⟩:=rV s2 e3 (Nat.le_refl _)
 exact⟨g',s3,(x1.trans x2).trans x3,hb,hc,he,hr,by rw[hsh];exact h0⟩
def dl{β:Type}(k n:Nat)(cs:List β)(i:Nat):List β:=(cs.drop (k*min i (n-1))).take k
theorem iC{β:Type}{k n:Nat}{cs:List β}(hl:cs.length=n*k)(hn:0<n)(i:Nat):(dl k n cs i).length=k:=by
 unfold dl
 rw[List.length_take,List.length_drop,hl]
 have h1:min i (n-1)+1≤n:=by omega
 have h2:=Nat.mul_le_mul_right k h1
 rw[Nat.add_mul,Nat.mul_comm (min i (n-1)) k] at h2
 omega
theorem vC{α β:Type}{k:Nat}(hk:0<k){f:α→List β}(hf:∀x,(f x).length=k):∀(l:List α) (j:Nat),(l.map f).flatten[j]? =(l[j / k]?).bind fun x=>(f x)[j % k]?
 |[],j=>by simp
 |x::r,j=>by
  rw[List.map_cons,List.flatten_cons,List.getElem?_append,hf x]
  by_cases h:j<k
  ·rw[if_pos h,Nat.div_eq_of_lt h,Nat.mod_eq_of_lt h]
   rfl
  ·rw[if_neg h,vC hk hf r (j-k)]
   have h1:j / k=(j-k) / k+1:=by rw[←Nat.add_div_right _ hk];congr 1;omega
   have h2:j % k=(j-k) % k:=by rw[←Nat.add_mod_right (j-k) k];congr 1;omega
   rw[h1,h2]
   rfl
theorem Ch{k n:Nat}{cs:List A}{us:List Value}(h:VRs w g cs us)(i:Nat):VRs w g (dl k n cs i) (dl k n us i):=(h.drop _).take _
theorem qI{cs us:Nat→List _}(h:∀i,VRs w g (cs i) (us i)):∀l:List Nat,VRs w g (l.map cs).flatten (l.map us).flatten
 |[]=>VRs.mk_nil
 |x::r=>by
  rw[List.map_cons,List.map_cons,List.flatten_cons,List.flatten_cons]
  exact VRs.append (h x) (qI h r)
theorem tA{enc:Nat→List Value}{k:Nat}(hk:0<k)(he:∀x,(enc x).length=k)(d:Array Nat):(flatK enc k d).toList=(d.toList.map enc).flatten:=by
 apply List.ext_getElem?
 intro t
 rw[vC hk he,Array.getElem?_toList]
 by_cases ht:t<d.size*k
 ·have h1:t / k<d.size:=by
   rw[Nat.div_lt_iff_lt_mul hk]
   exact ht
  have ht':t<(flatK enc k d).size:=by simpa using ht
  have e0:d.toList[t / k]? =some d[t / k]:=by rw[Array.getElem?_toList];exact getElem?_pos d (t / k) h1
  have e1:(flatK enc k d)[t]? =some (flatK enc k d)[t]! :=by rw[Array.getElem?_eq_getElem ht',getElem!_pos (flatK enc k d) t ht']
  have e2:t % k<(enc d[t / k]).length:=by rw[he];exact Nat.mod_lt _ hk
  rw[e0,Option.bind_some,e1,get_flatK _ _ _ _ ht,show d[t / k]! =d[t / k] from getElem!_pos d (t / k) h1,List.getElem?_eq_getElem e2,getElem!_pos (enc d[t / k]) (t % k) e2]
 ·have h1:¬t / k<d.size:=by
   rw[Nat.div_lt_iff_lt_mul hk]
   exact ht
  have e0:d.toList[t / k]? =none:=by rw[Array.getElem?_toList];exact Array.getElem?_eq_none (by omega)
  have e1:(flatK enc k d)[t]? =none:=Array.getElem?_eq_none (by rw[size_flatK];omega)
  rw[e0,e1]
  rfl
theorem wl{β:Type}{k:Nat}:∀(n:Nat) (cs:List β),cs.length=n*k→((List.range n).map fun i=>(cs.drop (k*i)).take k).flatten=cs
 |0,cs,h=>by
  have:cs=[]:=List.eq_nil_of_length_eq_zero (by omega)
  subst this
  rfl
 |n+1,cs,h=>by
  rw[List.range_succ,List.map_append,List.flatten_append]
  have h1:(cs.take (n*k)).length=n*k:=by rw[List.length_take,h,Nat.add_mul];omega
  have h2:=wl n (cs.take (n*k)) h1
  have h3:((List.range n).map fun i=>(cs.drop (k*i)).take k)=((List.range n).map fun i=>((cs.take (n*k)).drop (k*i)).take k):=by
   apply List.map_congr_left
   intro i hi
   have hi'':i<n:=by simpa using hi
   have hi':i+1≤n:=hi''
   have h4:=Nat.mul_le_mul_right k hi'
   rw[Nat.add_mul,Nat.mul_comm i k] at h4
   rw[List.drop_take,List.take_take,Nat.min_eq_left (by omega)]
  rw[h3,h2]
  simp only[List.map_cons,List.map_nil,List.flatten_cons,List.flatten_nil,List.append_nil]
  rw[Nat.mul_comm k n,List.take_of_length_le (i:=k) (by rw[List.length_drop,h,Nat.add_mul];omega),List.take_append_drop]
theorem CT{β:Type}{k n:Nat}{cs:List β}(h:cs.length=n*k):((List.range n).map (dl k n cs)).flatten=cs:=by
 rw[←wl n cs h]
 congr 1
 apply List.map_congr_left
 intro i hi
 have hi':i<n:=by simpa using hi
 unfold dl
 rw[Nat.min_eq_left (by omega),wl n cs h]
end
noncomputable def yQ(n:Nat)(cf:Nat→Nat→Int):List Nat:=(pdq (ltOf cf) (Array.range n) 0 n (Lib.bitLen n) true true).toList
section
variable {P:Program} {gl:Nat→A} {w0:World} {g:Gh} {m:Mem} {w w':World}
theorem yc{W w':World}(h:RowKit.Below W.heap.size W w')(hd:W.drawn≤w'.drawn):∃q os',w'=grow (W.drewN q) os':=by
 refine⟨w'.drawn-W.drawn,w'.heap.extract W.heap.size w'.heap.size, ?_⟩
 have hh:w'.heap=W.heap++w'.heap.extract W.heap.size w'.heap.size:=by
  apply Array.ext_getElem?
  intro i
  rw[Array.getElem?_append]
  by_cases hi:i<W.heap.size
  ·rw[if_pos hi,h.block i hi]
  ·rw[if_neg hi,Array.getElem?_extract]
   have:=h.size
   by_cases hj:i<w'.heap.size
   ·rw[if_pos (by omega)]
    congr 1
    omega
   ·rw[if_neg (by omega),Array.getElem?_eq_none (by omega)]
 cases w' with
 |mk heap tape drawn os output=>
  unfold grow World.drewN
  simp only at hh hd⊢
  have h1:os=W.os:=h.os
  have h2:tape=W.tape:=h.tape
  have h3:output=W.output:=h.output
  rw[←hh,h1,h2,h3]
  congr 1
  omega
def tP(g:Gh)(w:World):Gh:={g with F:=fun k _=>k<w.heap.size,nb:=0,rl:=[]}
theorem Er(hs:SR P gl w0 g m w){a:A}{v:Value}(hc:closed 0 0 a=true)(hv:VR w g a v):VR w (tP g w) a v:=by
 have h1:=VR.cut (nb:=0) (nr:=0) _ _ hc hv
 refine VR.monoB (⟨fun k o hF=>⟨?_,rfl⟩,Nat.zero_le _,fun i hi=> ?_,fun i L hL=> ?_⟩:ExtB w (dc g 0 0) w _) _ _ h1
 ·rcases hF with hF|⟨id,L,_,h2,rfl,_⟩
  ·exact hs.lim k o hF
  ·exact hs.br_lt (List.getElem?_eq_some_iff.1 h2).1
 ·exact absurd hi (by simp[dc])
 ·simp[dc] at hL
theorem E1(gl':Nat→A)(hgl:∀n,VR w (tP g w) (gl' n) (.pointer (some ⟨n,0,none⟩)))(htb:gl' 1000000009= .undef):SR P gl' w (tP g w) ⟨[],[]⟩ w:={
 below:=Below.refl _ _
 nb:=rfl
 rl:=rfl
 es:=fun i r h=>by simp at h
 bx:=fun i r h=>by simp at h
 rw:=fun i r h=>by simp at h
 ownb:=fun i h=>by simp[tP] at h
 ownr:=fun i h=>by simp[tP] at h
 injb:=fun i j h=>by simp[tP] at h
 injr:=fun i j h=>by simp[tP] at h
 dis:=fun i j h=>by simp[tP] at h
 lim:=fun b o h=>h
 gl:=hgl
 dr:=fun _=>Nat.le_refl _
 tb:=fun h=>by rw[htb] at h;cases h}
def glD(n:Nat):A:=if n=1000000007 then .rp [] else .undef
theorem Hw(n:Nat):VR w g (glD n) (.pointer (some ⟨n,0,none⟩)):=by
 unfold glD
 split
 ·rw[VR]
  exact⟨n,0,[],rfl,VRs.mk_nil,fun j u hj=>by simp at hj⟩
 ·rw[VR];trivial
end
end AE
end Go.Proofs.YtmfdpijmholedaaGreatDoor
/- The order of values: plain laws. -/
set_option linter.unusedVariables false
set_option linter.unusedSimpArgs false
namespace Go.Proofs.YtmfdpijmholedaaGreatDoor
namespace AE
open Go
def cx(a b:Int):Int:=if a<b then -1 else if b<a then 1 else 0
def cZ:List Int→List Int→Int
 |[],[]=>0
 |[],_::_=> -1
 |_::_,[]=>1
 |x::r,y::q=>if cx x y=0 then cZ r q else cx x y
mutual
def aY:Val→Val→Int
 | .mk n l w,.mk n' l' w'=>if cx n n'=0 then(if bT l l'=0 then cZ w w' else bT l l') else cx n n'
def bT:List Val→List Val→Int
 |[],[]=>0
 |[],_::_=> -1
 |_::_,[]=>1
 |x::r,y::q=>if aY x y=0 then bT r q else aY x y
end
theorem vV(u v:Val):aY u v=if cx u.num v.num=0 then(if bT u.args v.args=0 then cZ u.ws v.ws else bT u.args v.args) else cx u.num v.num:=by cases u;cases v;rw[aY];rfl
theorem kx(a b:Int): -1≤cx a b∧cx a b≤1:=by
 unfold cx
 repeat' split
 all_goals omega
theorem cr{a b:Int}:cx a b=0↔a=b:=by
 unfold cx
 repeat' split
 all_goals omega
theorem mu(a b:Int):cx b a= -cx a b:=by
 unfold cx
 repeat' split
 all_goals omega
theorem sN{a b c:Int}(h:cx a b≤0)(k:cx b c≤0):cx a c≤0:=by
 unfold cx at*
 repeat' split at h
 all_goals repeat' split at k
 all_goals repeat' split
 all_goals omega
theorem tv:∀l r:List Int,-1≤cZ l r∧cZ l r≤1
 |[],[]=>by rw[cZ];omega
 |[],_::_=>by rw[cZ];omega
 |_::_,[]=>by rw[cZ];omega
 |x::r,y::q=>by
  rw[cZ]
  have:=tv r q
  have:=kx x y
  split<;>omega
theorem vq:∀l r:List Int,cZ l r=0↔l=r
 |[],[]=>by simp[cZ]
 |[],_::_=>by simp[cZ]
 |_::_,[]=>by simp[cZ]
 |x::r,y::q=>by
  rw[cZ,List.cons.injEq]
  by_cases h:cx x y=0
  ·rw[if_pos h,vq r q]
   simp[cr.1 h]
  ·rw[if_neg h]
   exact⟨fun e=>absurd e h,fun e=>absurd (cr.2 e.1) h⟩
theorem uH:∀l r:List Int,cZ r l= -cZ l r
 |[],[]=>by simp[cZ]
 |[],_::_=>by simp[cZ]
 |_::_,[]=>by simp[cZ]
 |x::r,y::q=>by
  rw[cZ,cZ,mu x y,uH r q]
  by_cases h:cx x y=0
  ·rw[if_pos h,if_pos (by omega)]
  ·rw[if_neg h,if_neg (by omega)]
theorem rC:∀{l r s:List Int},cZ l r≤0→cZ r s≤0→cZ l s≤0
 |[],_,[],_,_=>by rw[cZ];omega
 |[],_,_::_,_,_=>by rw[cZ];omega
 |_::_,[],s,h,_=>by rw[cZ] at h;omega
 |_::_,_::_,[],_,k=>by rw[cZ] at k;omega
 |x::r,y::q,z::s,h,k=>by
  rw[cZ] at h k⊢
  have a1:=kx x y
  have a2:=kx y z
  by_cases e1:cx x y=0
  ·rw[if_pos e1] at h
   rw[cr] at e1
   subst e1
   split
   ·rename_i e2
    rw[if_pos e2] at k
    exact rC h k
   ·rename_i e2
    rw[if_neg e2] at k
    exact k
  ·rw[if_neg e1] at h
   by_cases e2:cx y z=0
   ·rw[cr] at e2
    subst e2
    rw[if_neg e1]
    exact h
   ·rw[if_neg e2] at k
    have h3:=sN h k
    by_cases e3:cx x z=0
    ·exfalso
     rw[cr] at e3
     subst e3
     have:=mu x y
     omega
    ·rw[if_neg e3]
     exact h3
mutual
theorem rm:∀u v:Val,-1≤aY u v∧aY u v≤1
 | .mk n l w,.mk n' l' w'=>by
   rw[aY]
   have:=kx n n'
   have:=rO l l'
   have:=tv w w'
   repeat' split
   all_goals omega
theorem rO:∀l r:List Val,-1≤bT l r∧bT l r≤1
 |[],[]=>by rw[bT];omega
 |[],_::_=>by rw[bT];omega
 |_::_,[]=>by rw[bT];omega
 |x::r,y::q=>by
  rw[bT]
  have:=rO r q
  have:=rm x y
  split<;>omega
end
mutual
theorem bM:∀u v:Val,aY u v=0↔u=v
 | .mk n l w,.mk n' l' w'=>by
   rw[aY,Val.mk.injEq]
   by_cases h:cx n n'=0
   ·rw[if_pos h]
    by_cases h2:bT l l'=0
    ·rw[if_pos h2,vq w w']
     simp[cr.1 h,(iK l l').1 h2]
    ·rw[if_neg h2]
     exact⟨fun e=>absurd e h2,fun e=>absurd ((iK l l').2 e.2.1) h2⟩
   ·rw[if_neg h]
    exact⟨fun e=>absurd e h,fun e=>absurd (cr.2 e.1) h⟩
theorem iK:∀l r:List Val,bT l r=0↔l=r
 |[],[]=>by simp[bT]
 |[],_::_=>by simp[bT]
 |_::_,[]=>by simp[bT]
 |x::r,y::q=>by
  rw[bT,List.cons.injEq]
  by_cases h:aY x y=0
  ·rw[if_pos h,iK r q]
   simp[(bM x y).1 h]
  ·rw[if_neg h]
   exact⟨fun e=>absurd e h,fun e=>absurd ((bM x y).2 e.1) h⟩
end
mutual
theorem cR:∀u v:Val,aY v u= -aY u v
 | .mk n l w,.mk n' l' w'=>by
   rw[aY,aY,mu n n',pL l l',uH w w']
   by_cases h:cx n n'=0
   ·rw[if_pos h,if_pos (by omega)]
    by_cases h2:bT l l'=0
    ·rw[if_pos h2,if_pos (by omega)]
    ·rw[if_neg h2,if_neg (by omega)]
   ·rw[if_neg h,if_neg (by omega)]
theorem pL:∀l r:List Val,bT r l= -bT l r
 |[],[]=>by simp[bT]
 |[],_::_=>by simp[bT]
 |_::_,[]=>by simp[bT]
 |x::r,y::q=>by
  rw[bT,bT,cR x y,pL r q]
  by_cases h:aY x y=0
  ·rw[if_pos h,if_pos (by omega)]
  ·rw[if_neg h,if_neg (by omega)]
end
mutual
theorem nM:∀{u v w:Val},aY u v≤0→aY v w≤0→aY u w≤0
 | .mk n l w,.mk n' l' w',.mk n'' l'' w'',h,k=>by
   rw[aY] at h k⊢
   by_cases e1:cx n n'=0
   ·rw[if_pos e1] at h
    rw[cr] at e1
    subst e1
    by_cases e2:cx n n''=0
    ·rw[if_pos e2] at k⊢
     by_cases f1:bT l l'=0
     ·rw[if_pos f1] at h
      rw[iK] at f1
      subst f1
      by_cases f2:bT l l''=0
      ·rw[if_pos f2] at k⊢
       exact rC h k
      ·rw[if_neg f2] at k⊢
       exact k
     ·rw[if_neg f1] at h
      by_cases f2:bT l' l''=0
      ·rw[iK] at f2
       subst f2
       rw[if_neg f1]
       exact h
      ·rw[if_neg f2] at k
       have h3:=sI h k
       by_cases f3:bT l l''=0
       ·exfalso
        rw[iK] at f3
        subst f3
        have:=pL l l'
        omega
       ·rw[if_neg f3]
        exact h3
    ·rw[if_neg e2] at k⊢
     exact k
   ·rw[if_neg e1] at h
    by_cases e2:cx n' n''=0
    ·rw[cr] at e2
     subst e2
     rw[if_neg e1]
     exact h
    ·rw[if_neg e2] at k
     have h3:=sN h k
     by_cases e3:cx n n''=0
     ·exfalso
      rw[cr] at e3
      subst e3
      have:=mu n n'
      omega
     ·rw[if_neg e3]
      exact h3
theorem sI:∀{l r s:List Val},bT l r≤0→bT r s≤0→bT l s≤0
 |[],_,[],_,_=>by rw[bT];omega
 |[],_,_::_,_,_=>by rw[bT];omega
 |_::_,[],s,h,_=>by rw[bT] at h;omega
 |_::_,_::_,[],_,k=>by rw[bT] at k;omega
 |x::r,y::q,z::s,h,k=>by
  rw[bT] at h k⊢
  by_cases e1:aY x y=0
  ·rw[if_pos e1] at h
   rw[bM] at e1
   subst e1
   split
   ·rename_i e2
    rw[if_pos e2] at k
    exact sI h k
   ·rename_i e2
    rw[if_neg e2] at k
    exact k
  ·rw[if_neg e1] at h
   by_cases e2:aY y z=0
   ·rw[bM] at e2
    subst e2
    rw[if_neg e1]
    exact h
   ·rw[if_neg e2] at k
    have h3:=nM h k
    by_cases e3:aY x z=0
    ·exfalso
     rw[bM] at e3
     subst e3
     have:=cR x y
     omega
    ·rw[if_neg e3]
     exact h3
end
theorem mA(u:Val):aY u u=0:=(bM u u).2 rfl
theorem pA{l r:List Val}{i:Nat}(h:i<l.length)(h':i<r.length):bT (l.drop i) (r.drop i)=if aY l[i] r[i]=0 then bT (l.drop (i+1)) (r.drop (i+1)) else aY l[i] r[i]:=by
 rw[List.drop_eq_getElem_cons h,List.drop_eq_getElem_cons h',bT]
theorem pz{l r:List Val}{i:Nat}(h:i<l.length)(h':¬i<r.length):bT (l.drop i) (r.drop i)=1:=by
 rw[List.drop_eq_getElem_cons h,List.drop_eq_nil_of_le (show r.length≤i by omega),bT]
theorem mY{l r:List Val}{i:Nat}(h:¬i<l.length)(h':i<r.length):bT (l.drop i) (r.drop i)= -1:=by
 rw[List.drop_eq_nil_of_le (show l.length≤i by omega),List.drop_eq_getElem_cons h',bT]
theorem tC{l r:List Val}{i:Nat}(h:¬i<l.length)(h':¬i<r.length):bT (l.drop i) (r.drop i)=0:=by
 rw[List.drop_eq_nil_of_le (show l.length≤i by omega),List.drop_eq_nil_of_le (show r.length≤i by omega),bT]
theorem pw{l r:List Int}{i:Nat}(h:i<l.length)(h':i<r.length):cZ (l.drop i) (r.drop i)=if cx l[i] r[i]=0 then cZ (l.drop (i+1)) (r.drop (i+1)) else cx l[i] r[i]:=by
 rw[List.drop_eq_getElem_cons h,List.drop_eq_getElem_cons h',cZ]
theorem oQ{l r:List Int}{i:Nat}(h:i<l.length)(h':¬i<r.length):cZ (l.drop i) (r.drop i)=1:=by
 rw[List.drop_eq_getElem_cons h,List.drop_eq_nil_of_le (show r.length≤i by omega),cZ]
theorem nI{l r:List Int}{i:Nat}(h:¬i<l.length)(h':i<r.length):cZ (l.drop i) (r.drop i)= -1:=by
 rw[List.drop_eq_nil_of_le (show l.length≤i by omega),List.drop_eq_getElem_cons h',cZ]
theorem tc{l r:List Int}{i:Nat}(h:¬i<l.length)(h':¬i<r.length):cZ (l.drop i) (r.drop i)=0:=by
 rw[List.drop_eq_nil_of_le (show l.length≤i by omega),List.drop_eq_nil_of_le (show r.length≤i by omega),cZ]
def wtd(k:Int):Bool:=decide (k=6)||decide (k=7)
def bc(k:Int):Bool:=decide (k=5)||wtd k
def bN:Fun:= .mk 0 0 []
def aB(f:Fun)(N:Int)(i:Nat):Fun:=if f.kind=2 then f.args.getD i bN else if f.kind=3 then f.args.getD N.toNat bN else f.args.getD 0 bN
theorem tV{f:Fun}{N:Int}{i:Nat}(h:bc f.kind=true):aB f N i=f.args.getD 0 bN:=by
 unfold bc wtd at h
 unfold aB
 simp only[Bool.or_eq_true,decide_eq_true_eq] at h
 rw[if_neg (by omega),if_neg (by omega)]
def dv:List Int→Int→Bool
 |[],_=>true
 |w::r,s=>if w<1∨1048576-s<w then false else dv r (s+w)
theorem ee:∀(l:List Int) (s:Int),s≤1048576→(dv l s=true↔(∀w,w∈l→1≤w)∧s+l.sum≤1048576)
 |[],s,h=>by
  rw[dv]
  simp
  omega
 |w::r,s,h=>by
  rw[dv,List.sum_cons]
  split
  ·rename_i hc
   simp only[Bool.false_eq_true,false_iff,List.mem_cons,forall_eq_or_imp]
   rintro⟨⟨h1,h2⟩,h3⟩
   have h4:∀r:List Int,(∀a,a∈r→1≤a)→0≤r.sum:=by
    intro r
    induction r with
    |nil=>intro _;simp
    |cons a t ih=>intro hh;rw[List.sum_cons];have:=hh a List.mem_cons_self;have:=ih (fun b hb=>hh b (List.mem_cons_of_mem _ hb));omega
   have:=h4 r h2
   omega
  ·rename_i hc
   rw[ee r (s+w) (by omega)]
   simp only[List.mem_cons,forall_eq_or_imp]
   constructor
   ·rintro⟨a,b⟩;exact⟨⟨by omega,a⟩,by omega⟩
   ·rintro⟨a,b⟩;exact⟨a.2,by omega⟩
def bn(n:Int)(f:Fun)(k:Int)(many:Nat)(w:List Int):Bool:=
 (if f.kind=0∨f.kind=1 then decide (many=0) else if f.kind=2 then decide (f.args.length=many) else if f.kind=3 then decide (0≤k∧k≤1∧many=1) else if f.kind=4 then decide (f.num=many) else true)
 &&decide (0≤k∧k≤(if f.kind=0 then n-1 else if f.kind=1 then f.num-1 else if f.kind=3 then 1 else 0))
 &&(if wtd f.kind then dv w 0&&decide (w.length=many)&&(decide (f.kind=6)||decide (0<many)) else decide (w.length=0))
def eF:List Val→Bool
 |[]=>true
 |[_]=>true
 |x::y::r=>decide (aY x y<0)&&eF (y::r)
def mH(g:Nat)(l:List Int):Nat:=l.foldl (fun g w=>Nat.gcd g w.natAbs) g
def dz(l:List Int):Nat:=mH 0 l
def exN(f:Fun)(l:List Val)(w:List Int):Bool:=if bc f.kind then(!decide (f.kind=7)||decide (dz w=1))&&eF l else true
def exS(f:Fun)(l:List Val)(w:List Int):Bool:=(!bc f.kind||decide (l.length≤100))&&exN f l w
def exL(f:Fun)(l:List Val)(w:List Int):Bool:=true
mutual
def cB(ex:Fun→List Val→List Int→Bool)(n:Int):Val→Fun→Int→Bool×Int
 | .mk k l w,f,q=>if q-1<0∨bn n f k l.length w=false∨ex f l w=false then(false,q-1) else iG ex n l (aB f k) 0 (q-1)
def iG(ex:Fun→List Val→List Int→Bool)(n:Int):List Val→(Nat→Fun)→Nat→Int→Bool×Int
 |[],_,_,q=>(true,q)
 |v::r,g,i,q=>if(cB ex n v (g i) q).1 then iG ex n r g (i+1) (cB ex n v (g i) q).2 else(false,(cB ex n v (g i) q).2)
end
mutual
def okV(ex:Fun→List Val→List Int→Bool)(n:Int):Val→Fun→Bool
 | .mk k l w,f=>bn n f k l.length w&&ex f l w&&okL ex n l (aB f k) 0
def okL(ex:Fun→List Val→List Int→Bool)(n:Int):List Val→(Nat→Fun)→Nat→Bool
 |[],_,_=>true
 |v::r,g,i=>okV ex n v (g i)&&okL ex n r g (i+1)
end
mutual
theorem iJ(ex:Fun→List Val→List Int→Bool)(n:Int):∀(v:Val) (f:Fun) (q:Int),0≤q→((cB ex n v f q).1=true↔((v.nodes:Int)≤q∧okV ex n v f=true))∧((cB ex n v f q).1=true→(cB ex n v f q).2=q-v.nodes)
 | .mk k l w,f,q,h=>by
   rw[cB,Val.nodes_eq,okV]
   simp only[Val.args_mk]
   split
   ·rename_i hc
    simp only[Bool.false_eq_true,false_iff,false_implies,and_true,Bool.and_eq_true]
    rintro⟨h1,⟨h2,h3⟩,h4⟩
    rcases hc with hc|hc|hc
    ·omega
    ·rw[h2] at hc;cases hc
    ·rw[h3] at hc;cases hc
   ·rename_i hc
    simp only[not_or,Int.not_lt,Bool.not_eq_false] at hc
    have:=uM ex n l (aB f k) 0 (q-1) hc.1
    rw[hc.2.1,hc.2.2]
    simp only[Bool.true_and]
    refine⟨this.1.trans ⟨fun⟨a,b⟩=>⟨by omega,b⟩,fun⟨a,b⟩=>⟨by omega,b⟩⟩,fun hv=> ?_⟩
    rw[this.2 hv]
    omega
theorem uM(ex:Fun→List Val→List Int→Bool)(n:Int):∀(l:List Val) (g:Nat→Fun) (i:Nat) (q:Int),0≤q→((iG ex n l g i q).1=true↔((Val.nodesL l:Int)≤q∧okL ex n l g i=true))∧((iG ex n l g i q).1=true→(iG ex n l g i q).2=q-Val.nodesL l)
 |[],g,i,q,h=>by
  rw[iG,Val.nodesL,okL]
  simp
  omega
 |v::r,g,i,q,h=>by
  rw[iG,Val.nodesL,okL]
  have h1:=iJ ex n v (g i) q h
  simp only[Bool.and_eq_true]
  split
  ·rename_i hv
   have h2:=h1.2 hv
   have h3:=h1.1.1 hv
   have h4:=uM ex n r g (i+1) (q-v.nodes) (by omega)
   rw[h2]
   refine⟨h4.1.trans ⟨fun⟨a,b⟩=>⟨by omega,h3.2,b⟩,fun⟨a,b⟩=>⟨by omega,b.2⟩⟩,fun hv'=> ?_⟩
   rw[h4.2 hv']
   omega
  ·rename_i hv
   simp only[Bool.false_eq_true,false_iff,false_implies,and_true]
   rintro⟨a,b,c⟩
   exact hv (h1.1.2 ⟨by omega,b⟩)
end
def bg(u:Val)(w:Int):List (Val×Int)→List (Val×Int)
 |[]=>[(u,w)]
 |p::r=>if aY u p.1=0 then(p.1,p.2+w)::r else if aY u p.1<0 then(u,w)::p::r else p::bg u w r
def aI(o l:List (Val×Int)):List (Val×Int):=l.foldl (fun o p=>bg p.1 p.2 o) o
def bD(k:Int)(xs:List Val)(ws:List Int):List Int:=if wtd k then ws else xs.map fun _=>0
def aE(k:Int)(xs:List Val)(ws:List Int):List (Val×Int):=aI [] (xs.zip (bD k xs ws))
def bH(l:List Int):List Int:=l.map fun w=>w.tdiv (dz l)
def aW(kind k:Int)(xs:List Val)(ws:List Int):Val:=
 .mk k ((aE kind xs ws).map (·.1)) (if kind=7 then bH ((aE kind xs ws).map (·.2)) else if wtd kind then(aE kind xs ws).map (·.2) else [])
def LtP(a b:Val×Int):Prop:=aY a.1 b.1<0
theorem gZ{u v w:Val}(h:aY u v<0)(k:aY v w<0):aY u w<0:=by
 have h1:=nM (u:=u) (v:=v) (w:=w) (by omega) (by omega)
 by_cases h2:aY u w=0
 ·rw[bM] at h2
  subst h2
  have:=cR u v
  omega
 ·omega
theorem l9{u:Val}{w:Int}:∀{o:List (Val×Int)} {p:Val×Int},p∈bg u w o→p.1=u∨∃q,q∈o∧p.1=q.1
 |[],p,h=>by
  rw[bg] at h
  simp at h
  exact .inl (by rw[h])
 |x::r,p,h=>by
  rw[bg] at h
  split at h
  ·rcases List.mem_cons.1 h with rfl|h
   ·exact .inr ⟨x,List.mem_cons_self,rfl⟩
   ·exact .inr ⟨p,List.mem_cons_of_mem _ h,rfl⟩
  ·split at h
   ·rcases List.mem_cons.1 h with rfl|h
    ·exact .inl rfl
    ·exact .inr ⟨p,h,rfl⟩
   ·rcases List.mem_cons.1 h with rfl|h
    ·exact .inr ⟨p,List.mem_cons_self,rfl⟩
    ·rcases l9 h with h|⟨q,h1,h2⟩
     ·exact .inl h
     ·exact .inr ⟨q,List.mem_cons_of_mem _ h1,h2⟩
theorem lr{u:Val}{w:Int}:∀{o:List (Val×Int)},o.Pairwise LtP→(bg u w o).Pairwise LtP
 |[],_=>by rw[bg];exact List.pairwise_singleton _ _
 |x::r,h=>by
  rw[List.pairwise_cons] at h
  rw[bg]
  split
  ·exact List.pairwise_cons.2 ⟨fun b hb=>h.1 b hb,h.2⟩
  ·split
   ·rename_i hl
    refine List.pairwise_cons.2 ⟨fun b hb=> ?_,List.pairwise_cons.2 h⟩
    rcases List.mem_cons.1 hb with rfl|hb
    ·exact hl
    ·exact gZ hl (h.1 b hb)
   ·rename_i h0 hl
    refine List.pairwise_cons.2 ⟨fun b hb=> ?_,lr h.2⟩
    rcases l9 hb with hb|⟨q,h1,h2⟩
    ·unfold LtP
     rw[hb,cR u x.1]
     omega
    ·unfold LtP
     rw[h2]
     exact h.1 q h1
theorem eC:∀(l o:List (Val×Int)),o.Pairwise LtP→(aI o l).Pairwise LtP
 |[],o,h=>h
 |p::r,o,h=>eC r _ (lr h)
theorem kB:∀(l o:List (Val×Int)) (p:Val×Int),p∈aI o l→(∃q,q∈l∧p.1=q.1)∨∃q,q∈o∧p.1=q.1
 |[],o,p,h=> .inr ⟨p,h,rfl⟩
 |x::r,o,p,h=>by
  rcases kB r (bg x.1 x.2 o) p h with⟨q,h1,h2⟩|⟨q,h1,h2⟩
  ·exact .inl ⟨q,List.mem_cons_of_mem _ h1,h2⟩
  ·rcases l9 h1 with h3|⟨q',h3,h4⟩
   ·exact .inl ⟨x,List.mem_cons_self,by rw[h2,h3]⟩
   ·exact .inr ⟨q',h3,by rw[h2,h4]⟩
theorem wV(u:Val)(w:Int):∀o:List (Val×Int),((bg u w o).map (·.2)).sum=w+(o.map (·.2)).sum
 |[]=>by rw[bg];simp
 |x::r=>by
  rw[bg]
  split
  ·simp;omega
  ·split
   ·simp
   ·simp[wV u w r];omega
theorem eM:∀(l o:List (Val×Int)),((aI o l).map (·.2)).sum=(l.map (·.2)).sum+(o.map (·.2)).sum
 |[],o=>by simp[aI]
 |p::r,o=>by
  have:=eM r (bg p.1 p.2 o)
  rw[show aI o (p::r)=aI (bg p.1 p.2 o) r from rfl,this,wV]
  simp
  omega
theorem oz{u:Val}{w:Int}(hw:1≤w):∀{o:List (Val×Int)},(∀p,p∈o→1≤p.2)→∀p,p∈bg u w o→1≤p.2
 |[],_,p,h=>by
  rw[bg] at h
  simp at h
  rw[h]
  exact hw
 |x::r,ho,p,h=>by
  rw[bg] at h
  split at h
  ·rcases List.mem_cons.1 h with rfl|h
   ·have:=ho x List.mem_cons_self;simp only;omega
   ·exact ho p (List.mem_cons_of_mem _ h)
  ·split at h
   ·rcases List.mem_cons.1 h with rfl|h
    ·exact hw
    ·exact ho p h
   ·rcases List.mem_cons.1 h with rfl|h
    ·exact ho p List.mem_cons_self
    ·exact oz hw (fun q hq=>ho q (List.mem_cons_of_mem _ hq)) p h
theorem kP:∀(l o:List (Val×Int)),(∀p,p∈l→1≤p.2)→(∀p,p∈o→1≤p.2)→∀p,p∈aI o l→1≤p.2
 |[],o,_,h=>h
 |x::r,o,hl,ho=>kP r _ (fun q hq=>hl q (List.mem_cons_of_mem _ hq)) (oz (hl x List.mem_cons_self) ho)
theorem wq(u:Val)(w:Int)(o:List (Val×Int)):bg u w o≠[]:=by
 cases o with
 |nil=>rw[bg];simp
 |cons p r=>rw[bg];split<;>(try split)<;>simp
theorem jM:∀(l o:List (Val×Int)),o≠[]∨l≠[]→aI o l≠[]
 |[],o,h=>by simpa [aI] using h
 |p::r,o,_=>jM r _ (.inl (wq _ _ _))
theorem tF{u:Val}{w:Int}:∀{o:List (Val×Int)},(∀p,p∈o→aY p.1 u<0)→bg u w o=o++[(u,w)]
 |[],_=>by rw[bg];rfl
 |x::r,h=>by
  have h1:=h x List.mem_cons_self
  have h2:=cR x.1 u
  rw[bg,if_neg (by omega),if_neg (by omega),tF fun p hp=>h p (List.mem_cons_of_mem _ hp)]
  rfl
theorem u9:∀(l o:List (Val×Int)),(o++l).Pairwise LtP→aI o l=o++l
 |[],o,_=>by simp[aI]
 |p::r,o,h=>by
  have h1:=List.pairwise_append.1 h
  rw[show aI o (p::r)=aI (bg p.1 p.2 o) r from rfl,tF fun q hq=>h1.2.2 q hq p List.mem_cons_self,u9 r _ (by simpa using h)]
  simp
theorem fY:∀(l:List Int) (g:Nat),mH g l ∣ g∧∀w,w∈l→mH g l ∣ w.natAbs
 |[],g=>⟨Nat.dvd_refl _,fun w h=>by cases h⟩
 |x::r,g=>by
  have h:=fY r (Nat.gcd g x.natAbs)
  rw[show mH g (x::r)=mH (Nat.gcd g x.natAbs) r from rfl]
  refine⟨Nat.dvd_trans h.1 (Nat.gcd_dvd_left _ _),fun w hw=> ?_⟩
  rcases List.mem_cons.1 hw with rfl|hw
  ·exact Nat.dvd_trans h.1 (Nat.gcd_dvd_right _ _)
  ·exact h.2 w hw
theorem zp:∀(l:List Int) (g d:Nat),d ∣ g→(∀w,w∈l→d ∣ w.natAbs)→d ∣ mH g l
 |[],g,d,h,_=>h
 |x::r,g,d,h,k=>zp r _ d (Nat.dvd_gcd h (k x List.mem_cons_self)) fun w hw=>k w (List.mem_cons_of_mem _ hw)
theorem jQ{l:List Int}(hne:l≠[])(h:∀w,w∈l→1≤w):0<dz l:=by
 cases l with
 |nil=>exact absurd rfl hne
 |cons x r=>
  have h1:=(fY (x::r) 0).2 x List.mem_cons_self
  have h2:=h x List.mem_cons_self
  exact Nat.pos_of_dvd_of_pos h1 (by omega)
theorem lJ{w:Int}{g:Nat}(hw:1≤w)(hg:0<g)(hd:g ∣ w.natAbs):1≤w.tdiv g∧w.tdiv g≤w∧(w.tdiv g).natAbs*g=w.natAbs:=by
 obtain⟨n,rfl⟩:∃n:Nat,w=n:=⟨w.toNat,by omega⟩
 obtain⟨c,hc⟩:=hd
 simp only[Int.natAbs_natCast] at hc
 subst hc
 have h1:((g*c:Nat):Int).tdiv (g:Int)=(c:Int):=by
  rw[Int.tdiv_eq_ediv_of_nonneg (by omega),←Int.natCast_ediv,Nat.mul_div_cancel_left _ hg]
 rw[h1]
 have h2:0<c:=by
  rcases Nat.eq_zero_or_pos c with rfl|h
  ·simp at hw
  ·exact h
 refine⟨by omega, ?_, ?_⟩
 ·have:c≤g*c:=Nat.le_mul_of_pos_left _ hg
  omega
 ·rw[Int.natAbs_natCast,Int.natAbs_natCast,Nat.mul_comm]
theorem Ey{l:List Int}(h:∀w,w∈l→1≤w):∀w,w∈bH l→1≤w:=by
 intro w hw
 unfold bH at hw
 obtain⟨x,hx,rfl⟩:=List.mem_map.1 hw
 exact(lJ (h x hx) (jQ (by rintro rfl;cases hx) h) ((fY l 0).2 x hx)).1
theorem su{f:Int→Int}:∀{l:List Int},(∀w,w∈l→f w≤w)→(l.map f).sum≤l.sum
 |[],_=>by simp
 |x::r,h=>by
  have:=su fun w hw=>h w (List.mem_cons_of_mem _ hw)
  have:=h x List.mem_cons_self
  simp
  omega
theorem Eg{l:List Int}(h:∀w,w∈l→1≤w):(bH l).sum≤l.sum:=
 su fun w hw=>(lJ (h w hw) (jQ (by rintro rfl;cases hw) h) ((fY l 0).2 w hw)).2.1
theorem Ew{l:List Int}(hne:l≠[])(h:∀w,w∈l→1≤w):dz (bH l)=1:=by
 have hg:=jQ hne h
 have h1:dz (bH l)*dz l ∣ dz l:=by
  refine zp l 0 _ (Nat.dvd_zero _) fun w hw=> ?_
  have h2:=lJ (h w hw) hg ((fY l 0).2 w hw)
  rw[←h2.2.2]
  exact Nat.mul_dvd_mul_right ((fY (bH l) 0).2 _ (List.mem_map.2 ⟨w,hw,rfl⟩)) _
 have h3:=Nat.le_of_dvd hg h1
 have h4:0<dz (bH l):=Nat.pos_of_dvd_of_pos (Nat.dvd_trans (Nat.dvd_mul_right _ _) h1) hg
 rcases Nat.lt_or_ge 1 (dz (bH l)) with h5|h5
 ·have:=Nat.mul_le_mul_right (dz l) h5
  omega
 ·omega
theorem D5{l:List Int}(h:dz l=1):bH l=l:=by
 unfold bH
 rw[h]
 simp
theorem lY:∀l:List Val,eF l=true↔l.Pairwise fun a b=>aY a b<0
 |[]=>by simp[eF]
 |[x]=>by simp[eF]
 |x::y::r=>by
  rw[eF,Bool.and_eq_true,decide_eq_true_eq,lY (y::r),List.pairwise_cons (a:=x)]
  constructor
  ·rintro⟨h1,h2⟩
   refine⟨fun b hb=> ?_,h2⟩
   rcases List.mem_cons.1 hb with rfl|hb
   ·exact h1
   ·exact gZ h1 ((List.pairwise_cons.1 h2).1 b hb)
  ·rintro⟨h1,h2⟩
   exact⟨h1 y List.mem_cons_self,h2⟩
theorem yO{o:List (Val×Int)}(h:o.Pairwise LtP):eF (o.map (·.1))=true:=by
 rw[lY,List.pairwise_map]
 exact h
mutual
def ez(n:Int):Val→Fun→Option Val
 | .mk k l w,f=>if bn n f k l.length w then(cM n l (aB f k) 0).map (fun xs=>if bc f.kind then aW f.kind k xs w else .mk k xs w) else none
def cM(n:Int):List Val→(Nat→Fun)→Nat→Option (List Val)
 |[],_,_=>some []
 |v::r,g,i=>(ez n v (g i)).bind fun x=>(cM n r g (i+1)).map (x:: ·)
end
theorem kQ(n:Int):∀(l:List Val) (g:Nat→Fun) (i:Nat) (xs:List Val),cM n l g i=some xs→xs.length=l.length
 |[],g,i,xs,h=>by rw[cM] at h;cases h;rfl
 |v::r,g,i,xs,h=>by
  rw[cM] at h
  simp only[Option.bind_eq_some_iff,Option.map_eq_some_iff] at h
  obtain⟨x,h1,y,h2,rfl⟩:=h
  rw[List.length_cons,List.length_cons,kQ n r g (i+1) y h2]
theorem pi{ex:Fun→List Val→List Int→Bool}{n:Int}{c:Fun}:∀{l:List Val} {g:Nat→Fun} {i:Nat},(∀i,g i=c)→(okL ex n l g i=true↔∀x,x∈l→okV ex n x c=true)
 |[],g,i,h=>by simp[okL]
 |v::r,g,i,h=>by
  rw[okL,Bool.and_eq_true,pi h,h i]
  simp
theorem mj{α β:Type}:∀{l:List α} {r:List β} {p:α×β},p∈l.zip r→p.1∈l∧p.2∈r:=fun h=>List.of_mem_zip h
theorem fK{α β:Type}:∀{l:List α} {r:List β},r.length=l.length→(l.zip r).map (·.2)=r:=fun h=>List.map_snd_zip (by omega)
theorem qj{α β:Type}:∀{l:List α} {r:List β},r.length=l.length→(l.zip r).map (·.1)=l:=fun h=>List.map_fst_zip (by omega)
theorem fO{n:Int}{f:Fun}{k:Int}{m:Nat}{w:List Int}(hs:bc f.kind=true):bn n f k m w=true↔k=0∧(if wtd f.kind then dv w 0=true∧w.length=m∧(f.kind=6∨0<m) else w.length=0):=by
 unfold bc wtd at hs
 simp only[Bool.or_eq_true,decide_eq_true_eq] at hs
 unfold bn
 rw[if_neg (by omega),if_neg (by omega),if_neg (by omega),if_neg (by omega),if_neg (by omega),if_neg (by omega),if_neg (by omega)]
 simp only[Bool.true_and,Bool.and_eq_true,decide_eq_true_eq]
 cases wtd f.kind
 ·simp only[Bool.false_eq_true,if_false,decide_eq_true_eq]
  omega
 ·simp only[if_true,Bool.and_eq_true,Bool.or_eq_true,decide_eq_true_eq]
  constructor
  ·rintro⟨a,⟨b,c⟩,d⟩;exact⟨by omega,b,c,d⟩
  ·rintro⟨a,b,c,d⟩;exact⟨by omega,⟨b,c⟩,d⟩
theorem Ea{n:Int}{f:Fun}{k:Int}{xs:List Val}{w:List Int}(hs:bc f.kind=true)(hh:bn n f k xs.length w=true)(hx:∀x,x∈xs→okV exN n x (f.args.getD 0 bN)=true):okV exN n (aW f.kind k xs w) f=true:=by
 rw[fO hs] at hh
 unfold aW
 rw[okV,Bool.and_eq_true,Bool.and_eq_true]
 have hsort:(aE f.kind xs w).Pairwise LtP:=eC _ _ List.Pairwise.nil
 have hlen:(bD f.kind xs w).length=xs.length:=by
  unfold bD
  cases hw:wtd f.kind
  ·simp
  ·rw[hw] at hh;simp only[if_true] at hh;simpa using hh.2.2.1
 have hmem:∀p,p∈aE f.kind xs w→p.1∈xs:=by
  intro p hp
  rcases kB _ _ p hp with⟨q,h1,h2⟩|⟨q,h1,_⟩
  ·rw[h2];exact(mj h1).1
  ·cases h1
 refine⟨⟨?_, ?_⟩, ?_⟩
 ·rw[fO hs]
  refine⟨hh.1, ?_⟩
  cases hw:wtd f.kind
  ·simp only[Bool.false_eq_true,if_false]
   have:¬f.kind=7:=by intro h;rw[h] at hw;cases hw
   rw[if_neg this]
   rfl
  ·rw[hw] at hh
   simp only[if_true] at hh⊢
   rw[ee _ _ (by omega)] at hh
   have hz:bD f.kind xs w=w:=by unfold bD;rw[hw,if_pos rfl]
   rw[hz] at hlen
   have hpos:∀x,x∈(aE f.kind xs w).map (·.2)→1≤x:=by
    intro x hx
    obtain⟨p,hp,rfl⟩:=List.mem_map.1 hx
    refine kP _ _ (fun q hq=> ?_) (fun q hq=>by cases hq) p hp
    rw[hz] at hq
    exact hh.2.1.1 _ (mj hq).2
   have hsum:((aE f.kind xs w).map (·.2)).sum=w.sum:=by
    unfold aE
    rw[eM,hz,fK hlen]
    simp
   have hne:f.kind=6∨0<(aE f.kind xs w).length:=by
    rcases hh.2.2.2 with h|h
    ·exact .inl h
    ·refine .inr (List.length_pos_iff.2 (jM _ _ (.inr ?_)))
     intro h0
     have:=congrArg List.length h0
     rw[List.length_zip,hz,hlen] at this
     simp at this
     rw[this] at h
     cases h
   rw[ee _ _ (by omega)]
   split
   ·refine⟨⟨Ey hpos, ?_⟩,by unfold bH;simp,by simpa using hne⟩
    have:=Eg hpos
    omega
   ·refine⟨⟨hpos,by omega⟩,by simp,by simpa using hne⟩
 ·unfold exN
  rw[if_pos hs,Bool.and_eq_true]
  refine⟨?_,yO hsort⟩
  by_cases h7:f.kind=7
  ·have hw:wtd f.kind=true:=by rw[h7];rfl
   rw[hw] at hh
   simp only[if_true] at hh
   rw[ee _ _ (by omega)] at hh
   have hz:bD f.kind xs w=w:=by unfold bD;rw[hw,if_pos rfl]
   rw[hz] at hlen
   have hpos:∀x,x∈(aE f.kind xs w).map (·.2)→1≤x:=by
    intro x hx
    obtain⟨p,hp,rfl⟩:=List.mem_map.1 hx
    refine kP _ _ (fun q hq=> ?_) (fun q hq=>by cases hq) p hp
    rw[hz] at hq
    exact hh.2.1.1 _ (mj hq).2
   rw[if_pos h7]
   simp only[h7,decide_true,Bool.not_true,Bool.false_or,decide_eq_true_eq]
   rw[←h7]
   refine Ew ?_ hpos
   intro h0
   have h0':=List.map_eq_nil_iff.1 h0
   refine jM _ _ (.inr ?_) h0'
   intro h1
   have:=congrArg List.length h1
   rw[List.length_zip,hz,hlen] at this
   simp at this
   have h8:=hh.2.2.2
   rw[this] at h8
   simp at h8
   omega
  ·simp[h7]
 ·rw[pi (c:=f.args.getD 0 bN) fun i=>tV hs]
  intro x hx'
  obtain⟨p,hp,rfl⟩:=List.mem_map.1 hx'
  exact hx _ (hmem p hp)
theorem Ez{n:Int}{f:Fun}{k:Int}{xs:List Val}{w:List Int}(hs:bc f.kind=true)(hh:bn n f k xs.length w=true)(he:exN f xs w=true):aW f.kind k xs w= .mk k xs w:=by
 rw[fO hs] at hh
 unfold exN at he
 rw[if_pos hs,Bool.and_eq_true,lY] at he
 have hlen:(bD f.kind xs w).length=xs.length:=by
  unfold bD
  cases hw:wtd f.kind
  ·simp
  ·rw[hw] at hh;simp only[if_true] at hh;simpa using hh.2.2.1
 have h1:aE f.kind xs w=xs.zip (bD f.kind xs w):=by
  unfold aE
  rw[u9,List.nil_append]
  rw[List.nil_append]
  have:=he.2
  rw[←qj hlen,List.pairwise_map] at this
  exact this
 unfold aW
 rw[h1,qj hlen,fK hlen]
 unfold bD
 cases hw:wtd f.kind
 ·rw[hw] at hh
  simp only[Bool.false_eq_true,if_false] at hh⊢
  have:¬f.kind=7:=by intro h;rw[h] at hw;cases hw
  rw[if_neg this,List.eq_nil_of_length_eq_zero hh.2]
 ·simp only[if_true]
  split
  ·rename_i h7
   rw[D5 (by simpa [h7] using he.1)]
  ·rfl
mutual
theorem rj(n:Int):∀(v:Val) (f:Fun) (y:Val),ez n v f=some y→okV exN n y f=true
 | .mk k l w,f,y,h=>by
   rw[ez] at h
   split at h
   ·rename_i hh
    simp only[Option.map_eq_some_iff] at h
    obtain⟨xs,hx,rfl⟩:=h
    have hl:=kQ n _ _ _ _ hx
    have ho:=xw n l (aB f k) 0 xs hx
    split
    ·rename_i hs
     rw[←hl] at hh
     rw[pi (c:=f.args.getD 0 bN) fun i=>tV hs] at ho
     exact Ea hs hh ho
    ·rename_i hs
     rw[okV,hl,hh,ho]
     unfold exN
     rw[if_neg hs]
     rfl
   ·cases h
theorem xw(n:Int):∀(l:List Val) (g:Nat→Fun) (i:Nat) (xs:List Val),cM n l g i=some xs→okL exN n xs g i=true
 |[],g,i,xs,h=>by rw[cM] at h;cases h;rw[okL]
 |v::r,g,i,xs,h=>by
  rw[cM] at h
  simp only[Option.bind_eq_some_iff,Option.map_eq_some_iff] at h
  obtain⟨x,h1,y,h2,rfl⟩:=h
  rw[okL,rj n v (g i) x h1,xw n r g (i+1) y h2]
  rfl
end
mutual
theorem rg(n:Int):∀(v:Val) (f:Fun),okV exN n v f=true→ez n v f=some v
 | .mk k l w,f,h=>by
   rw[okV,Bool.and_eq_true,Bool.and_eq_true] at h
   rw[ez,if_pos h.1.1,zq n l _ _ h.2,Option.map_some]
   split
   ·rename_i hs
    rw[Ez hs h.1.1 h.1.2]
   ·rfl
theorem zq(n:Int):∀(l:List Val) (g:Nat→Fun) (i:Nat),okL exN n l g i=true→cM n l g i=some l
 |[],g,i,h=>by rw[cM]
 |v::r,g,i,h=>by
  rw[okL,Bool.and_eq_true] at h
  rw[cM,rg n v _ h.1,zq n r _ _ h.2]
  rfl
end
mutual
def eo:Val→Fun→Bool
 | .mk k l w,f=>(bc f.kind&&decide (100<l.length))||fT l (aB f k) 0
def fT:List Val→(Nat→Fun)→Nat→Bool
 |[],_,_=>false
 |v::r,g,i=>eo v (g i)||fT r g (i+1)
end
mutual
theorem Bl(n:Int):∀(v:Val) (f:Fun),okV exS n v f=(okV exN n v f&& !eo v f)
 | .mk k l w,f=>by
   rw[okV,okV,eo,zd n l (aB f k) 0]
   unfold exS
   have:decide (l.length≤100)= !decide (100<l.length):=by rw[Bool.eq_iff_iff];simp
   rw[this]
   cases bc f.kind<;>cases decide (100<l.length)<;>cases bn n f k l.length w<;>cases exN f l w<;>cases okL exN n l (aB f k) 0<;>cases fT l (aB f k) 0<;>rfl
theorem zd(n:Int):∀(l:List Val) (g:Nat→Fun) (i:Nat),okL exS n l g i=(okL exN n l g i&& !fT l g i)
 |[],g,i=>by rw[okL,okL,fT];rfl
 |v::r,g,i=>by
  rw[okL,okL,fT,Bl n v (g i),zd n r g (i+1)]
  cases okV exN n v (g i)<;>cases eo v (g i)<;>cases okL exN n r g (i+1)<;>cases fT r g (i+1)<;>rfl
end
def E6(n:Int)(v:Val)(f:Fun):Bool:=match ez n v f with
 |some w=> !eo w f&&decide (aY w v=0)
 |none=>false
theorem E5(n:Int)(v:Val)(f:Fun):E6 n v f=okV exS n v f:=by
 rw[Bl]
 unfold E6
 cases h:ez n v f with
 |none=>
  cases h1:okV exN n v f
  ·rfl
  ·rw[rg n v f h1] at h;cases h
 |some w=>
  simp only
  by_cases hc:aY w v=0
  ·rw[decide_eq_true hc,Bool.and_true]
   rw[bM] at hc
   subst hc
   rw[rj n _ _ _ h,Bool.true_and]
  ·rw[decide_eq_false hc,Bool.and_false]
   cases h1:okV exN n v f
   ·rfl
   ·rw[rg n v f h1] at h
    cases h
    exact absurd (mA _) hc
end AE
end Go.Proofs.YtmfdpijmholedaaGreatDoor
/- Elements with weights that the library sorts. -/
set_option linter.unusedVariables false
set_option linter.unusedSimpArgs false
namespace Go.Proofs.YtmfdpijmholedaaGreatDoor
namespace AE
open Go Go.RowKit Go.Sort Go.Shelf Go.Lib
mutual
def aP:Val→Prop
 | .mk _ l w=>w.length≤1000000000∧bS l
def bS:List Val→Prop
 |[]=>True
 |f::r=>aP f∧bS r
end
theorem bj(f:Val):aP f=(f.ws.length≤1000000000∧bS f.args):=by cases f;rw[aP];rfl
theorem cq:∀{l:List Val} {f:Val},bS l→f∈l→aP f
 |g::r,f,h,hm=>by
  rw[bS] at h
  rcases List.mem_cons.1 hm with rfl|hm
  ·exact h.1
  ·exact cq h.2 hm
theorem zi:∀{a b:List Int},az a=az b→a=b
 |[],[],_=>rfl
 |[],_::_,h=>by cases h
 |_::_,[],h=>by cases h
 |x::r,y::q,h=>by
  have h':A.int .i64 x::az r=A.int .i64 y::az q:=h
  simp only[List.cons.injEq,A.int.injEq,true_and] at h'
  rw[h'.1,zi h'.2]
mutual
theorem Val.cells_inj:∀(u v:Val),u.cells=v.cells→u=v
 | .mk n l w,.mk n' l' w',h=>by
   rw[Val.cells,Val.cells] at h
   simp only[List.cons.injEq,A.int.injEq,A.isl.injEq,true_and,and_true] at h
   obtain⟨h1,⟨h2,h3⟩,h4,h5⟩:=h
   rw[h1,Val.cellsL_inj l l' h2 h3,zi h5]
theorem Val.cellsL_inj:∀(l l':List Val),l.length=l'.length→Val.cellsL l=Val.cellsL l'→l=l'
 |[],[],_,_=>rfl
 |[],_::_,h,_=>by cases h
 |_::_,[],h,_=>by cases h
 |x::r,y::q,h,k=>by
  rw[Val.cellsL,Val.cellsL] at k
  have:=List.append_inj k (by rw[Val.cells_length,Val.cells_length])
  rw[Val.cells_inj x y this.1,Val.cellsL_inj r q (by simpa using h) this.2]
end
def cO(p:Val×Int):List A:=p.1.cells++[.int .i64 p.2]
@[simp] theorem eZ(p:Val×Int):(cO p).length=4:=by unfold cO;rw[List.length_append,Val.cells_length];rfl
theorem C5{p q:Val×Int}(h:cO p=cO q):p=q:=by
 have:=List.append_inj h (by rw[Val.cells_length,Val.cells_length])
 have h2:=this.2
 simp only[List.cons.injEq,A.int.injEq,true_and,and_true] at h2
 exact Prod.ext (Val.cells_inj _ _ this.1) h2
def bh(l:List (Val×Int)):List A:=(l.map cO).flatten
theorem cP:∀l:List (Val×Int),(bh l).length=l.length*4
 |[]=>rfl
 |p::r=>by
  show(cO p++bh r).length=_
  rw[List.length_append,eZ,cP r,List.length_cons]
  omega
theorem sL:∀{l r:List (Val×Int)},bh l=bh r→l=r
 |[],[],_=>rfl
 |[],q::t,h=>by have:=congrArg List.length h;rw[cP,cP] at this;simp at this
 |p::s,[],h=>by have:=congrArg List.length h;rw[cP,cP] at this;simp at this
 |p::s,q::t,h=>by
  have h':cO p++bh s=cO q++bh t:=h
  have:=List.append_inj h' (by rw[eZ,eZ])
  rw[C5 this.1,sL this.2]
theorem wx(p:Val×Int):closed 0 0 (.agg (cO p))=true:=by
 rw[closed]
 have h:(cO p).all (closed 0 0)=true:=by unfold cO;rw[List.all_append,Val.closed_cells];rfl
 have:∀cs:List A,cs.all (closed 0 0)=true→closed.closedL 0 0 cs=true:=by
  intro cs
  induction cs with
  |nil=>intro _;rw[closed.closedL]
  |cons a r ih=>intro h;rw[List.all_cons,Bool.and_eq_true] at h;rw[closed.closedL,h.1,ih h.2];rfl
 exact this _ h
def gc(ps:List (Val×Int))(i:Nat):Val×Int:=ps.getD (min i (ps.length-1)) (.mk 0 [] [],0)
def ln(ps:List (Val×Int))(i j:Nat):Int:=aY (gc ps i).1 (gc ps j).1
noncomputable def i6(ps:List (Val×Int)):List (Val×Int):=(yQ ps.length (ln ps)).map (gc ps)
theorem nB{ps:List (Val×Int)}(h:0<ps.length)(i:Nat):dl 4 ps.length (bh ps) i=cO (gc ps i):=by
 apply List.ext_getElem?
 intro j
 have hlt:min i (ps.length-1)<ps.length:=by omega
 have he:gc ps i=ps[min i (ps.length-1)]:=by unfold gc;rw[List.getD_eq_getElem?_getD,List.getElem?_eq_getElem hlt];rfl
 unfold dl
 by_cases hj:j<4
 ·rw[List.getElem?_take_of_lt hj,List.getElem?_drop]
  unfold bh
  rw[vC (by omega) eZ,Nat.mul_add_div (by omega),Nat.div_eq_of_lt hj,Nat.mul_add_mod,Nat.mod_eq_of_lt hj,Nat.add_zero,List.getElem?_eq_getElem hlt,he]
  rfl
 ·rw[List.getElem?_eq_none (by rw[List.length_take];omega),List.getElem?_eq_none (by rw[eZ];omega)]
theorem sJ(ps:List (Val×Int)):SWO (ltOf (ln ps)) where
 irrefl x:=by unfold ltOf ln;rw[mA];rfl
 trans x y z h1 h2:=by
  unfold ltOf ln at*
  rw[decide_eq_true_eq] at*
  exact gZ h1 h2
 ntrans x y z h1 h2:=by
  unfold ltOf ln at*
  rw[decide_eq_false_iff_not,Int.not_lt] at*
  have a1:=cR (gc ps x).1 (gc ps y).1
  have a2:=cR (gc ps y).1 (gc ps z).1
  have a3:=cR (gc ps x).1 (gc ps z).1
  have:=nM (u:=(gc ps z).1) (v:=(gc ps y).1) (w:=(gc ps x).1) (by omega) (by omega)
  omega
end AE
end Go.Proofs.YtmfdpijmholedaaGreatDoor
/- slices.SortFunc at elements with weights, as an answer from outside. -/
set_option linter.unusedVariables false
set_option linter.unusedSimpArgs false
namespace Go.Proofs.YtmfdpijmholedaaGreatDoor
namespace AE
open Go Go.RowKit Go.Sort Go.Shelf Go.Lib
theorem nu(n:Nat){cf:Nat→Nat→Int}(hO:SWO (ltOf cf)):PermIn 0 n (Array.range n) (pdq (ltOf cf) (Array.range n) 0 n (Lib.bitLen n) true true)∧SortedIn (ltOf cf) 0 n (pdq (ltOf cf) (Array.range n) 0 n (Lib.bitLen n) true true):=
 pdq_sorts (ltOf cf) hO (Array.range n) 0 n (Lib.bitLen n) true true (Nat.zero_le _) (by simp) (Or.inl rfl)
theorem nd(n:Nat){cf:Nat→Nat→Int}(hO:SWO (ltOf cf)):(pdq (ltOf cf) (Array.range n) 0 n (Lib.bitLen n) true true).size=n:=by
 have:=(nu n hO).1.1
 rw[this,Array.size_range]
theorem xk(n:Nat){cf:Nat→Nat→Int}(hO:SWO (ltOf cf)):(yQ n cf).Perm (List.range n):=by
 have h:=(nu n hO).1.2.2
 have e1:((pdq (ltOf cf) (Array.range n) 0 n (Lib.bitLen n) true true).extract 0 n).toList=yQ n cf:=by
  unfold yQ
  rw[Array.toList_extract,List.extract_eq_take_drop]
  simp only[List.drop_zero,Nat.sub_zero]
  rw[List.take_of_length_le]
  rw[Array.length_toList,nd n hO]
  exact Nat.le_refl _
 have e2:((Array.range n).extract 0 n).toList=List.range n:=by
  rw[Array.toList_extract,List.extract_eq_take_drop]
  simp
 rwa [e1,e2] at h
theorem Aj(ps:List (Val×Int)):(List.range ps.length).map (gc ps)=ps:=by
 apply List.ext_getElem?
 intro i
 rw[List.getElem?_map]
 by_cases h:i<ps.length
 ·rw[List.getElem?_range h,Option.map_some,List.getElem?_eq_getElem h]
  unfold gc
  rw[Nat.min_eq_left (by omega),List.getD_eq_getElem?_getD,List.getElem?_eq_getElem h]
  rfl
 ·rw[List.getElem?_eq_none (by simpa using h),List.getElem?_eq_none (by simpa using h)]
  rfl
theorem rX(ps:List (Val×Int)):(i6 ps).Perm ps:=by
 have h:=(xk ps.length (sJ ps)).map (gc ps)
 rw[Aj] at h
 exact h
theorem wP(ps:List (Val×Int)):(i6 ps).length=ps.length:=(rX ps).length_eq
theorem wB(ps:List (Val×Int)):(i6 ps).Pairwise fun p q=>aY p.1 q.1≤0:=by
 have key:∀B:Array Nat,B.size=ps.length→SortedIn (ltOf (ln ps)) 0 ps.length B→(B.toList.map (gc ps)).Pairwise fun p q=>aY p.1 q.1≤0:=by
  intro B hz hs
  rw[List.pairwise_map,List.pairwise_iff_getElem]
  intro i j hi hj hij
  have hi':i<B.size:=by simpa using hi
  have hj':j<B.size:=by simpa using hj
  have h:=hs i j (Nat.zero_le _) hij (by omega)
  rw[getElem!_pos B j hj',getElem!_pos B i hi'] at h
  unfold ltOf ln at h
  rw[decide_eq_false_iff_not,Int.not_lt] at h
  simp only[Array.getElem_toList]
  have:=cR (gc ps B[i]).1 (gc ps B[j]).1
  omega
 exact key _ (nd ps.length (sJ ps)) (nu ps.length (sJ ps)).2
structure ElP (g g':FuncId) (ver n:Nat) (cs:List A) (ps:List (Val×Int)):Prop where
 cs:cs=bh ps
 fn:g'=g
 ver:ver=ps.length*4
 len:n=ps.length
 pos:0<n
 lt:n<4611686018427387904
 small:∀p,p∈ps→p.1.nodes≤1000000000∧aP p.1
open Classical in
noncomputable def nH(g g':FuncId)(ver n:Nat)(cs:List A):Option (List (Val×Int)):=if h:∃ps,ElP g g' ver n cs ps then some (Classical.choose h) else none
theorem ur{g g':FuncId}{ver n:Nat}{cs:List A}{ps:List (Val×Int)}(h:nH g g' ver n cs=some ps):ElP g g' ver n cs ps:=by
 unfold nH at h
 split at h
 ·rename_i hx
  have:=Classical.choose_spec hx
  rw[Option.some.inj h] at this
  exact this
 ·cases h
theorem Ce{g g':FuncId}{ver n:Nat}{cs:List A}{ps:List (Val×Int)}(h:ElP g g' ver n cs ps):nH g g' ver n cs=some ps:=by
 cases hp:nH g g' ver n cs with
 |none=>
  unfold nH at hp
  rw[dif_pos ⟨ps,h⟩] at hp
  cases hp
 |some qs=>
  have:=(ur hp).cs
  rw[h.cs] at this
  rw[sL this]
noncomputable def jB(g:FuncId):List A→Mem→Option (Res×Mem)
 |[.nils,_],m=>some (.ret (.tup []),m)
 |[.sl id ver 0 n,.fn g' []],m=>
  match m.rw[id]? with
  |some r=>match nH g g' ver n r.cs with
   |some ps=>some (.ret (.tup []),⟨m.bx,m.rw.set id ⟨r.el,bh (i6 ps)⟩⟩)
   |none=>none
  |none=>none
 |_,_=>none
theorem AU(g:FuncId)(a:A)(m:Mem):jB g [.nils,a] m=some (.ret (.tup []),m):=rfl
theorem AO{g:FuncId}{id:Nat}{m:Mem}{t:TypeId}{ps:List (Val×Int)}{ver n:Nat}(hr:m.rw[id]? =some ⟨t,bh ps⟩)(h1:ver=ps.length*4)(h2:n=ps.length)(h3:0<n)(h4:n<4611686018427387904)(h5:∀p,p∈ps→p.1.nodes≤1000000000∧aP p.1):
  jB g [.sl id ver 0 n,.fn g []] m=some (.ret (.tup []),⟨m.bx,m.rw.set id ⟨t,bh (i6 ps)⟩⟩):=by
 unfold jB
 simp only[hr]
 rw[Ce (ps:=ps) ⟨rfl,rfl,h1,h2,h3,h4,h5⟩]
section
variable {P:Program} {gl:Nat→A} {w0:World} {g:Gh} {m:Mem} {w w':World}
theorem Ao(hs:SR P gl w0 g m w){i n:Nat}{t:TypeId}{cs:List A}(hi:m.rw[i]? =some ⟨t,cs⟩)(h0:g.sh i=0)(hn:0<n)(hl:cs.length=n*4):
  ∃us:List Value,VRs w g cs us∧us.length=n*4∧HoldsK (dl 4 n us) 4 w (g.br i) 0 (Array.range n)∧g.br i<w.heap.size:=by
 obtain⟨us,ss,rest,h1,h2,h3,h4⟩:=hs.rw i _ hi
 rw[h0,List.drop_zero] at h3
 have hsl:=h4.length
 have hss:ss.length=n*4:=by rw[hsl];exact hl
 refine⟨ss,h4,hss, ?_,(Array.getElem?_eq_some_iff.1 h1).1⟩
 have hf:(flatK (dl 4 n ss) 4 (Array.range n)).toList=ss:=by
  rw[tA (by omega) (fun x=>iC hss hn x),Array.toList_range,CT hss]
 have hz:(flatK (dl 4 n ss) 4 (Array.range n)).size=ss.length:=by rw[size_flatK,Array.size_range,hss]
 intro j hj
 rw[hz] at hj
 constructor
 ·have h5:us[0+j]? =some ss[j]:=by
   rw[Nat.zero_add,←Array.getElem?_toList,h3,List.getElem?_append_left hj,List.getElem?_eq_getElem hj]
  simp only[World.cell?,h1,h5]
  rw[getElem!_pos _ j (by omega),←Array.getElem_toList]
  simp only[hf]
  rfl
 ·simp[World.frozen?,h1]
theorem Af {C C':Cfg} {f gF:FuncId} (hP:C'.P=C.P) (hgl:C'.gl=glD) (hf:rM C.P f)
  (h0:∀fv w,Calls C.P f #[.slice none 0 0,fv] w fun e w'=>e= .returned (.tuple #[])∧w'=w)
  (h1:∀(enc:Nat→List Value) (cf:Nat→Nat→Int) (blk cap:Nat) (d:Array Nat) (w:World),(∀x,(enc x).length=4)→(∀x,∀v∈enc x,v.oneCell'=true)→SWO (ltOf cf)→CmpLays C.P gF #[] enc 4 cf blk 0 d.size w→HoldsK enc 4 w blk 0 d→blk<w.heap.size→d.size<4611686018427387904→
   Calls C.P f #[.slice (some ⟨blk,0,none⟩) d.size cap,.func (.func gF) #[] #[]] w fun e w'=>e= .returned (.tuple #[])∧∃n os,w'=sortWorldK enc 4 w blk 0 n (pdq (ltOf cf) d 0 d.size (Lib.bitLen d.size) true true) os)
  (hc:∀p q:Val×Int,p.1.nodes≤1000000000→aP p.1→aV C' gF [.agg (cO p),.agg (cO q)] ⟨[],[]⟩ (.ret (.int .i64 (aY p.1 q.1)),⟨[],[]⟩))
  {args:List A} {m:Mem} {r:Res×Mem} (h:jB gF args m=some r):aV C f args m r:=by
 refine⟨hf,fun w0 g w vals hs hv=> ?_⟩
 unfold jB at h
 split at h
 ·cases h
  rw[VRs] at hv
  obtain⟨u,t,rfl,hu,ht⟩:=hv
  rw[VRs] at ht
  obtain⟨u2,t2,rfl,hu2,ht2⟩:=ht
  rw[VRs] at ht2
  subst ht2
  rw[VR] at hu
  subst hu
  refine Calls.mono (h0 u2 w) ?_
  rintro e w' ⟨rfl,rfl⟩
  refine⟨g,hs,Ext.refl _ _, ?_⟩
  show VR _ _ _ _
  rw[VR]
  exact⟨[],rfl,VRs.mk_nil⟩
 ·rename_i _ id ver n g'
  cases hr:m.rw[id]? with
  |none=>rw[hr] at h;cases h
  |some row=>
   rw[hr] at h
   obtain⟨el,cs⟩:=row
   simp only at h
   cases hpk:nH gF g' ver n cs with
   |none=>rw[hpk] at h;cases h
   |some ps=>
   rw[hpk] at h
   obtain⟨rfl,rfl,rfl,rfl,hpos,hlt,hb⟩:=ur hpk
   cases h
   have hlen:(bh ps).length=ps.length*4:=cP ps
   rw[VRs] at hv
   obtain⟨u,t,rfl,hu,ht⟩:=hv
   rw[VRs] at ht
   obtain⟨u2,t2,rfl,hu2,ht2⟩:=ht
   rw[VRs] at ht2
   subst ht2
   have hu':VR w g (.sl id (bh ps).length 0 ps.length) u:=by rw[hlen];exact hu
   rw[VR] at hu2
   obtain⟨bs,rfl,hbs⟩:=hu2
   rw[VRs] at hbs
   subst hbs
   have hL2:g.rl[id]? =some (bh ps).length:=by rw[hs.rl,List.getElem?_map,hr];rfl
   obtain⟨hsh,c,rfl,hc1,hc2⟩:=hu'.sl_zero hL2
   obtain⟨us,hvs,hul,hH,hbr⟩:=Ao hs hr hsh hpos hlen
   have hch:∀i,VRs w g (dl 4 ps.length (bh ps) i) (dl 4 ps.length us i):=fun i=>Ch hvs i
   have hflat:∀(dk:Array Nat),(flatK (dl 4 ps.length us) 4 dk)=((dk.toList.map (dl 4 ps.length us)).flatten).toArray:=fun dk=>by
    rw[←tA (by omega) (fun x=>iC hul hpos x)]
   have hput:∀(dk:Array Nat) (k:Nat) (os:Array Obj),dk.size=ps.length→∃g',SR C.P C.gl w0 g' ⟨m.bx,m.rw.set id ⟨el,(dk.toList.map (dl 4 ps.length (bh ps))).flatten⟩⟩ (sortWorldK (dl 4 ps.length us) 4 w (g.br id) 0 k dk os)∧Ext w g (sortWorldK (dl 4 ps.length us) 4 w (g.br id) 0 k dk os) g':=fun dk k os hd=>by
    have hcl:(dk.toList.map (dl 4 ps.length (bh ps))).flatten.length=(bh ps).length:=by
     have:∀l:List Nat,(l.map (dl 4 ps.length (bh ps))).flatten.length=l.length*4:=by
      intro l
      induction l with
      |nil=>rfl
      |cons x r ih=>rw[List.map_cons,List.flatten_cons,List.length_append,ih,iC hlen hpos,List.length_cons];omega
     rw[this,Array.length_toList,hlen,hd]
    obtain⟨g',s',x',_⟩:=CZ hs hr hsh hcl (qI hch dk.toList) k os
    refine⟨g', ?_, ?_⟩
    ·unfold sortWorldK putRowK
     rw[hflat dk]
     exact s'
    ·unfold sortWorldK putRowK
     rw[hflat dk]
     exact x'
   have hone:∀x,∀v∈dl 4 ps.length us x,v.oneCell'=true:=fun x=>by
    have h2:=hch x
    rw[nB hpos] at h2
    refine VRs.flats h2 ?_
    unfold cO
    rw[Val.cells_eq]
    rfl
   have hcmp:CmpLays C.P g' #[] (dl 4 ps.length us) 4 (ln ps) (g.br id) 0 (Array.range ps.length).size w:=by
    intro k os dk hdk x y
    rw[Array.size_range] at hdk
    obtain⟨g1,s1,x1⟩:=hput dk k os hdk
    generalize sortWorldK (dl 4 ps.length us) 4 w (g.br id) 0 k dk os=W at s1 x1⊢
    have hel:∀z,VR W (tP g1 W) (.agg (cO (gc ps z))) (.agg (dl 4 ps.length us z).toArray):=fun z=>by
     refine Er s1 (wx _) ?_
     rw[VR]
     refine⟨_,rfl, ?_⟩
     have h2:=(hch z).mono x1
     rw[nB hpos] at h2
     exact h2
    have hmem:∀z,gc ps z∈ps:=fun z=>by
     unfold gc
     rw[List.getD_eq_getElem?_getD,List.getElem?_eq_getElem (by omega)]
     exact List.getElem_mem _
    have h3:=(hc (gc ps x) (gc ps y) (hb _ (hmem x)).1 (hb _ (hmem x)).2).2 W (tP g1 W) W [.agg (dl 4 ps.length us x).toArray,.agg (dl 4 ps.length us y).toArray] (by
     rw[hgl]
     exact E1 glD (fun n=>Hw n) (if_neg (by decide))) (.mk_cons (hel x) (.mk_cons (hel y) VRs.mk_nil))
    rw[hP] at h3
    refine Calls.mono h3 ?_
    rintro e w' ⟨g2,s2,x2,hres⟩
    refine⟨?_, ?_⟩
    ·cases e with
     |returned v=>
      have h4:VR w' g2 (.int .i64 (aY (gc ps x).1 (gc ps y).1)) v:=hres
      rw[VR] at h4
      rw[h4]
      rfl
     |panicked c=>exact absurd hres (by simp[oL])
     |_=>exact absurd hres (by simp[oL])
    ·exact yc s2.below (s2.dr (by rw[hgl];rfl))
   refine Calls.mono (h1 (dl 4 ps.length us) (ln ps) (g.br id) c (Array.range ps.length) w (fun x=>iC hul hpos x) hone (sJ ps) hcmp hH hbr (by rw[Array.size_range];exact hlt)|>fun z=>by simpa using z) ?_
   rintro e w' ⟨rfl,k,os,rfl⟩
   obtain⟨g',s',x'⟩:=hput (pdq (ltOf (ln ps)) (Array.range ps.length) 0 ps.length (Lib.bitLen ps.length) true true) k os (nd ps.length (sJ ps))
   have hrow:((pdq (ltOf (ln ps)) (Array.range ps.length) 0 ps.length (Lib.bitLen ps.length) true true).toList.map (dl 4 ps.length (bh ps))).flatten=bh (i6 ps):=by
    have e1:dl 4 ps.length (bh ps)=fun i=>cO (gc ps i):=funext fun i=>nB hpos i
    rw[e1]
    unfold bh i6 yQ
    rw[List.map_map]
    rfl
   rw[hrow] at s'
   refine⟨g',s',x', ?_⟩
   show VR _ _ _ _
   rw[VR]
   exact⟨[],rfl,VRs.mk_nil⟩
 ·cases h
end
end AE
end Go.Proofs.YtmfdpijmholedaaGreatDoor
/- slices.Clone over numbers: the answer by the shelf's contract: a row of the caller's own. -/
set_option linter.unusedVariables false
set_option linter.unusedSimpArgs false
namespace Go.Proofs.YtmfdpijmholedaaGreatDoor
namespace AE
open Go Go.RowKit Go.Lib
def jo:FuncId:=118
def jS(cs:List A)(n:Nat)(m:Mem):Option (Res×Mem):=
 match lw cs with
 |some zs=>if zs.length=n∧n*8≤140737488355328 then some (.ret (.sl m.rw.length n 0 n),⟨m.bx,m.rw++[⟨3,cs⟩]⟩) else none
 |none=>none
def sH:List A→Mem→Option (Res×Mem)
 |[.nils],m=>some (.ret .nils,m)
 |[.isl f n cs],m=>if n=0∧cs.length=0 then some (.ret (.isl false 0 []),m) else if 0<n then jS cs n m else none
 |[.sl id ver off n],m=>
  match m.rw[id]? with
  |some r=>if r.cs.length=ver∧off+n≤ver then jS ((r.cs.drop off).take n) n m else none
  |none=>none
 |_,_=>none
section
variable {C:Cfg} {w0 w:World} {g:Gh} {m:Mem}
theorem Gx{gl:Nat→A}{P:Program}{w':World}(hs:SR P gl w0 g m w)(hbel:Below w.heap.size w w')(hd:gl 1000000007≠ .rp []):SR P gl w0 g m w'∧Ext w g w' g:=by
 have hcell:∀k o,k<w.heap.size→w'.cell? ⟨k,o,none⟩=w.cell? ⟨k,o,none⟩:=fun k o hk=>hbel.cell (p:=⟨k,o,none⟩) hk
 have hext:Ext w g w' g:=⟨⟨fun k o hF=>⟨hF,hcell k o (hs.lim k o hF)⟩,Nat.le_refl _,fun _ _=>rfl,fun i L h=>⟨L,h,Nat.le_refl _,fun _=>⟨rfl,rfl,rfl⟩,rfl⟩⟩,fun b hb hl=>⟨hbel.block b hb,hl⟩,hbel.size⟩
 refine⟨?_,hext⟩
 exact {
  below:=hs.below.trans (hbel.mono hs.szB)
  nb:=hs.nb
  rl:=hs.rl
  es:=hs.es
  bx:=fun i cs hi=>by
   obtain⟨us,e,h1,h2⟩:=hs.bx i cs hi
   exact⟨us,e,by rw[hbel.block _ (Array.getElem?_eq_some_iff.1 h1).1];exact h1,h2.mono hext⟩
  rw:=fun i r hi=>by
   obtain⟨us,ss,rest,h1,h2,h3,h4⟩:=hs.rw i r hi
   exact⟨us,ss,rest,by rw[hbel.block _ (Array.getElem?_eq_some_iff.1 h1).1];exact h1,h2,h3,h4.mono hext⟩
  ownb:=hs.ownb
  ownr:=hs.ownr
  injb:=hs.injb
  injr:=hs.injr
  dis:=hs.dis
  lim:=fun b o hF=>Nat.lt_of_lt_of_le (hs.lim b o hF) hbel.size
  gl:=fun n=>(hs.gl n).mono hext
  dr:=fun h=>absurd h hd
  tb:=hs.tb}
theorem BJ(hs:SR C.P C.gl w0 g m w)(hd:C.gl 1000000007≠ .rp []){w':World}{e:TypeId}{v:Value}{n:Nat}{zs:List Int}(hsz:ao C.P e=1)(hbel:Below w.heap.size w w')(hown:w'.ownsRow w.heap.size e 1 v n (zs.map (Value.int .i64)))(hne:v≠ .slice none 0 0):
  ∃g',SR C.P C.gl w0 g' ⟨m.bx,m.rw++[⟨e,az zs⟩]⟩ w'∧Ext w g w' g'∧VR w' g' (.sl m.rw.length n 0 n) v:=by
 obtain⟨s1,x1⟩:=Gx hs hbel hd
 obtain⟨hl,hor⟩:=hown
 rcases hor with⟨h1,_⟩|⟨b,cap,cur,rfl,hb,hh,hnc,hmx,hcs,htk⟩
 ·exact absurd h1 hne
 have hloose:dj g b:=⟨fun i hi q=>by have:=hs.bb_lt hi;omega,fun i hi q=>by have:=hs.br_lt hi;omega,fun o hF=>by have:=hs.lim _ _ hF;omega⟩
 obtain⟨g',s2,x2,h3,h4,h5,h6,h7,h8⟩:=s1.adoptRow (b:=b) (us:=cur) (ss:=zs.map (Value.int .i64)) (rest:=cur.toList.drop (n*1)) (e:=e) (z:=az zs) (Nat.le_trans hs.szB hb) hloose hh (by rw[←htk,List.take_append_drop]) (xE zs)
 have hzn:zs.length=n:=by simpa using hl
 refine⟨g',s2,⟨x1.toExtB.trans x2,fun b' hb' hl'=>⟨hbel.block b' hb',h8 b' (by omega) hl'⟩,hbel.size⟩, ?_⟩
 have:=VR.mk_sl (w:=w') h6 h7 hnc (by rw[h5,h4,hsz,hcs];exact Nat.le_refl _) (by rw[h5,hsz,Nat.mul_one];simp[az,hzn];exact hnc)
 rw[h3,show(az zs).length=n from by rw[←hzn];simp[az]] at this
 exact this
theorem zh(hP:C.P=Tryz.prog)(hd:C.gl 1000000007≠ .rp []){args:List A}{m:Mem}{r:Res×Mem}(h:sH args m=some r):aV C jo args m r:=by
 unfold aV
 refine⟨by rw[hP];exact⟨_,_,Tryz.func118,rfl,by decide⟩,fun w0 g w vals hs hv=> ?_⟩
 have hsz:ao C.P 3=1:=by rw[hP];kernel_rfl
 have row:∀(cs:List A) (n:Nat) (us:List Value) (b o c:Nat) (r:Res×Mem),jS cs n m=some r→VRs w g cs us→(∀j u,us[j]? =some u→w.cell? ⟨b,o+j,none⟩=some u)→vals=[.slice (some ⟨b,o,none⟩) n c]→
   Calls C.P jo vals.toArray w fun e w'=>∃g',SR C.P C.gl w0 g' r.2 w'∧Ext w g w' g'∧oL w' g' r.1 e:=by
  intro cs n us b o c r h hu hl hvals
  unfold jS at h
  split at h
  case h_2=>cases h
  case h_1 zs hz=>
  split at h
  case isFalse=>cases h
  case isTrue hc=>
  obtain⟨hc1,hc2⟩:=hc
  simp only[Option.some.injEq] at h
  subst h
  have hcs:=l3 hz
  subst hcs
  have hus:=xh hu
  subst hus hvals
  rw[hP]
  refine(Tryz.slices_Clone_int b o n c zs w (by omega) hc2 (fun j hj=> ?_)).mono ?_
  ·refine hl j _ ?_
   rw[List.getElem?_map,List.getElem?_eq_getElem hj,List.getD_eq_getElem?_getD,List.getElem?_eq_getElem hj]
   rfl
  ·rintro e w' ⟨v',rfl,hown,hne,hbel⟩
   rw[List.take_of_length_le (by omega)] at hown
   obtain⟨g',s1,x1,v1⟩:=BJ hs hd hsz hbel hown hne
   rw[hP] at s1
   exact⟨g',s1,x1,v1⟩
 unfold sH at h
 split at h
 case h_4=>cases h
 case h_1=>
  rw[VRs.cons_iff] at hv
  obtain⟨u,t,rfl,h1,h2⟩:=hv
  rw[VRs.nil_iff] at h2
  subst h2
  simp only[Option.some.injEq] at h
  subst h
  rw[VR] at h1
  subst h1
  rw[hP]
  refine(Tryz.slices_Clone_int_nil 0 0 w).mono ?_
  rintro e w' ⟨rfl,rfl⟩
  rw[hP] at hs
  exact⟨g,hs,Ext.refl _ _,by show VR w' g .nils _;rw[VR]⟩
 case h_2 f n cs=>
  rw[VRs.cons_iff] at hv
  obtain⟨u,t,rfl,h1,h2⟩:=hv
  rw[VRs.nil_iff] at h2
  subst h2
  rw[VR] at h1
  obtain⟨a,c,us,rfl,_,hnc,hu,hl⟩:=h1
  split at h
  ·rename_i h0
   obtain⟨rfl,h0⟩:=h0
   simp only[Option.some.injEq] at h
   subst h
   cases a with
   |none=>
    rw[hP]
    refine(Tryz.slices_Clone_int_nil 0 c w).mono ?_
    rintro e w' ⟨rfl,rfl⟩
    rw[hP] at hs
    exact⟨g,hs,Ext.refl _ _,by show VR w' g (.isl false 0 []) _;rw[VR];exact⟨none,0,[],rfl,by simp,Nat.le_refl _,VRs.mk_nil,by simp⟩⟩
   |some a=>
    rw[hP]
    refine(Tryz.slices_Clone_int_zero a c w).mono ?_
    rintro e w' ⟨v',rfl,hown,hne,hbel⟩
    obtain⟨s1,x1⟩:=Gx hs hbel hd
    rw[hP] at s1
    refine⟨g,s1,x1, ?_⟩
    show VR w' g (.isl false 0 []) _
    rw[VR]
    rcases hown.2 with⟨q,_⟩|⟨b,cap,cur,rfl,_,_,hnc,_⟩
    ·exact absurd q hne
    ·exact⟨_,cap,[],rfl,by simp,hnc,VRs.mk_nil,by simp⟩
  ·rename_i h0
   split at h
   case isFalse=>cases h
   case isTrue hn=>
   have hlen:=hu.length
   have hune:us≠[]:=by
    rintro rfl
    unfold jS at h
    split at h
    case h_2=>cases h
    case h_1 zs hz=>
    split at h
    case isFalse=>cases h
    case isTrue hc=>
    have:=l3 hz
    subst this
    simp[az] at hlen
    omega
   obtain⟨b,o,rfl,hl2⟩:=hl hune
   exact row cs n us b o c r h hu (fun j u hj=>(hl2 j u hj).2) rfl
 case h_3 id ver off n=>
  rw[VRs.cons_iff] at hv
  obtain⟨u,t,rfl,h1,h2⟩:=hv
  rw[VRs.nil_iff] at h2
  subst h2
  cases hr:m.rw[id]? with
  |none=>rw[hr] at h;cases h
  |some rr=>
   rw[hr] at h
   simp only at h
   split at h
   case isFalse=>cases h
   case isTrue hc=>
   obtain⟨hc1,hc2⟩:=hc
   rw[VR] at h1
   obtain⟨_,L,hL,_,k3⟩:=h1
   have hL2:L=rr.cs.length:=by
    rw[hs.rl,List.getElem?_map,hr] at hL
    simpa using hL.symm
   obtain⟨hsh,c,hnc,hat⟩:=k3 (by omega)
   rcases hat with⟨rfl,q2,b,o,rfl⟩|⟨rfl,_⟩
   ·have hn0:n=0:=by omega
    subst hn0
    unfold jS at h
    rw[List.take_zero,lw] at h
    simp only[List.length_nil,true_and] at h
    rw[if_pos (by omega)] at h
    simp only[Option.some.injEq] at h
    subst h
    rw[hP]
    refine(Tryz.slices_Clone_int_zero ⟨b,o,none⟩ 0 w).mono ?_
    rintro e w' ⟨v',rfl,hown,hne,hbel⟩
    obtain⟨g',s1,x1,v1⟩:=BJ (zs:=[]) hs hd hsz hbel hown hne
    rw[hP] at s1
    exact⟨g',s1,x1,v1⟩
   ·obtain⟨us,ss,rest,h1,h2,h3,h4⟩:=hs.rw id rr hr
    have hat:=(At.of_block h1 h3).sub (off-g.sh id) n
    rw[Nat.zero_add,ow _ hsh] at hat
    exact row _ n _ _ _ c r h (h4.sub off n) (fun j u hj=>hat j u hj) rfl
end
end AE
end Go.Proofs.YtmfdpijmholedaaGreatDoor
/- The evaluator's configuration; the fixed calls are answered by their own proof. -/
set_option linter.unusedVariables false
set_option linter.unusedSimpArgs false
namespace Go.Proofs.YtmfdpijmholedaaGreatDoor
namespace AE
open Go
def nv:List A:=[(0,0),(16,0),(0,2),(0,2),(4,1),(0,1),(0,1),(0,1)].flatMap fun p:Int×Int=>[.int .i64 p.1,.int .i64 p.2]
def gl0(n:Nat):A:=if n=0 then .rp nv else if n=8 then .rp [.ifc 270 .undef] else if n=1000000009 then .rp [] else .undef
def wO:List A→Mem→Option (Res×Mem)
 |[],m=>some (.ret (.bool true),m)
 |_,_=>none
def ny:FuncId:=10
def o7:FuncId:=167
def Bn:FuncId:=168
def sq:List A→Mem→Option (Res×Mem)
 |[.str s],m=>if s.length≤1000000 then(match Lib.atoiAll s with
  | .ok v=>some (.ret (.tup [.int .i64 v,.nili]),m)
  | .range=>some (.ret (.tup [.int .i64 (Lib.atoiSat s),.ifc 252 .undef]),m)
  |_=>none) else none
 |_,_=>none
def uN:List A→Mem→Option (Res×Mem)
 |[.int .i64 n],m=>if -9223372036854775808≤n∧n≤9223372036854775807 then some (.ret (.str (Lib.itoa n)),m) else none
 |_,_=>none
def o5:FuncId:=49
def oS:FuncId:=182
def aS:FuncId:=19
def aR:FuncId:=17
def noG:List A→Mem→Option (Res×Mem):=fun _ _=>none
noncomputable def jJ(f:FuncId):Option (List A→Mem→Option (Res×Mem)):=
 if f=ny then some wO else if f=o7 then some (jB Bn) else if f=jo then some sH else if f=oS then some sq else if f=o5 then some uN else if f=nn then some oG else if f=kA then some lA else if f=aS then some noG else if f=aR then some noG else none
noncomputable def C0:Cfg:={P:=Tryz.prog,gl:=gl0,ann:=ann,ext:=jJ}
@[simp] theorem ay:C0.P=Tryz.prog:=_root_.id rfl
@[simp] theorem ae:C0.ann=ann:=_root_.id rfl
@[simp] theorem lS:C0.gl=gl0:=_root_.id rfl
theorem aj(f:FuncId)(h:(f==ny||f==o7||f==jo||f==oS||f==o5||f==nn||f==kA||f==aS||f==aR)=false):C0.ext f=none:=by
 simp only[Bool.or_eq_false_iff,beq_eq_false_iff_ne,ne_eq] at h
 show jJ f=none
 unfold jJ
 rw[if_neg h.1.1.1.1.1.1.1.1,if_neg h.1.1.1.1.1.1.1.2,if_neg h.1.1.1.1.1.1.2,if_neg h.1.1.1.1.1.2,if_neg h.1.1.1.1.2,if_neg h.1.1.1.2,if_neg h.1.1.2,if_neg h.1.2,if_neg h.2]
theorem xT:C0.ext ny=some wO:=by
 show jJ ny=_
 unfold jJ
 rw[if_pos rfl]
theorem yg:C0.ext o7=some (jB Bn):=by
 show jJ o7=_
 unfold jJ
 rw[if_neg (by decide),if_pos rfl]
theorem D0:C0.ext jo=some sH:=by
 show jJ jo=_
 unfold jJ
 rw[if_neg (by decide),if_neg (by decide),if_pos rfl]
theorem Bb:C0.ext oS=some sq:=by
 show jJ oS=_
 unfold jJ
 rw[if_neg (by decide),if_neg (by decide),if_neg (by decide),if_pos rfl]
theorem Bw:C0.ext o5=some uN:=by
 show jJ o5=_
 unfold jJ
 rw[if_neg (by decide),if_neg (by decide),if_neg (by decide),if_neg (by decide),if_pos rfl]
theorem Bp:C0.ext nn=some oG:=by
 show jJ nn=_
 unfold jJ
 rw[if_neg (by decide),if_neg (by decide),if_neg (by decide),if_neg (by decide),if_neg (by decide),if_pos rfl]
theorem yj:C0.ext kA=some lA:=by
 show jJ kA=_
 unfold jJ
 rw[if_neg (by decide),if_neg (by decide),if_neg (by decide),if_neg (by decide),if_neg (by decide),if_neg (by decide),if_pos rfl]
theorem mt:C0.ext aS=some noG:=by
 show jJ aS=_
 unfold jJ
 rw[if_neg (by decide),if_neg (by decide),if_neg (by decide),if_neg (by decide),if_neg (by decide),if_neg (by decide),if_neg (by decide),if_pos rfl]
theorem ku:C0.ext aR=some noG:=by
 show jJ aR=_
 unfold jJ
 rw[if_neg (by decide),if_neg (by decide),if_neg (by decide),if_neg (by decide),if_neg (by decide),if_neg (by decide),if_neg (by decide),if_neg (by decide),if_pos rfl]
attribute [irreducible] C0
@[simp] theorem gl0_0:gl0 0= .rp nv:=rfl
theorem rU(m:Mem):ai C0 10 [] m=some (.ret (.bool true),m):=by
 have h:C0.ext 10=some wO:=xT
 rw[ai,h]
 rfl
theorem qG(args:List A)(m:Mem):ai C0 167 args m=jB 168 args m:=by
 have h:C0.ext 167=some (jB 168):=yg
 rw[ai,h]
theorem om(n:Int)(h0: -9223372036854775808≤n)(h1:n≤9223372036854775807)(m:Mem):ai C0 49 [.int .i64 n] m=some (.ret (.str (Lib.itoa n)),m):=by
 have h:C0.ext 49=some uN:=Bw
 rw[ai,h]
 simp only[uN]
 rw[if_pos ⟨h0,h1⟩]
theorem n9(args:List A)(m:Mem):ai C0 94 args m=oG args m:=by
 have h:C0.ext 94=some oG:=Bp
 rw[ai,h]
theorem zr(s:List UInt8)(c:UInt8)(m:Mem):ai C0 200 [.str s,.int .u8 c.toNat] m=some (.ret (.int .i64 (Lib.indexByte s c)),m):=by
 have h:C0.ext 200=some lA:=yj
 rw[ai,h]
 show lA _ _=_
 simp only[lA]
 rw[show(c.toNat:Int).toNat.toUInt8=c by rw[Int.toNat_natCast];exact UInt8.ofNat_toNat]
end AE
end Go.Proofs.YtmfdpijmholedaaGreatDoor
/- The fixed calls, run by the kernel: system.Parse and system.String by their own runs. -/
set_option linter.unusedVariables false
set_option linter.unusedSimpArgs false
namespace Go.Proofs.YtmfdpijmholedaaGreatDoor
namespace AE
open Go Go.RowKit
def fg:Code→List (Nat×Array Oper)
 | .region id ops true=>[(id,ops)]
 | .seq a b=>fg a++fg b
 | .cond _ a b=>fg a++fg b
 | .block _ b=>fg b
 | .loop b=>fg b
 | .rangeFunc _ _ a b=>fg a++fg b
 | .scope b=>fg b
 |_=>[]
theorem eB{id:Nat}{ops:Array Oper}:∀{c:Code},Sub c (.region id ops true)→(id,ops)∈fg c
 | .seq a b,h=>by
   rw[Sub] at h
   rcases h with h|h|h
   ·cases h
   ·rw[fg];exact List.mem_append_left _ (eB h)
   ·rw[fg];exact List.mem_append_right _ (eB h)
 | .cond _ a b,h=>by
   rw[Sub] at h
   rcases h with h|h|h
   ·cases h
   ·rw[fg];exact List.mem_append_left _ (eB h)
   ·rw[fg];exact List.mem_append_right _ (eB h)
 | .block _ b,h=>by
   rw[Sub] at h
   rcases h with h|h
   ·cases h
   ·rw[fg];exact eB h
 | .loop b,h=>by
   rw[Sub] at h
   rcases h with h|h
   ·cases h
   ·rw[fg];exact eB h
 | .region i o d,h=>by
   simp only[Sub] at h
   cases h
   rw[fg]
   exact List.mem_cons_self
 | .skip,h=>by simp only[Sub] at h;cases h
 | .rangeFunc _ _ a b,h=>by
   rw[Sub] at h
   rcases h with h|h|h
   ·cases h
   ·rw[fg];exact List.mem_append_left _ (eB h)
   ·rw[fg];exact List.mem_append_right _ (eB h)
 | .exit _,h=>by simp only[Sub] at h;cases h
 | .scope b,h=>by
   rw[Sub] at h
   rcases h with h|h
   ·cases h
   ·rw[fg];exact eB h
 | .label _,h=>by simp only[Sub] at h;cases h
 | .goto _,h=>by simp only[Sub] at h;cases h
 | .ret,h=>by simp only[Sub] at h;cases h
 | .refuse _,h=>by simp only[Sub] at h;cases h
def EM(f:FuncId)(fn:Func):Bool:=match fn.body with
 |some b=>(fg b).all fun p=> !ann.dok f p.1||sE p.2 (ann.draw f p.1)
 |none=>true
def sO:Nat→List Func→Bool
 |_,[]=>true
 |n,fn::r=>EM n fn&&sO (n+1) r
theorem ul:∀(l:List Func) (n i:Nat) (fn:Func),sO n l=true→l[i]? =some fn→EM (n+i) fn=true
 |fn::r,n,0,fn',h,hi=>by
  rw[sO,Bool.and_eq_true] at h
  simp at hi
  subst hi
  exact h.1
 |fn::r,n,i+1,fn',h,hi=>by
  rw[sO,Bool.and_eq_true] at h
  have:=ul r (n+1) i fn' h.2 (by simpa using hi)
  rwa [show n+1+i=n+(i+1) by omega] at this
 |[],n,i,fn',h,hi=>by simp at hi
theorem EJ:sO 0 Tryz.prog.funcs.toList=true:=by kernel_rfl
theorem gV:Tryz.prog.follows .mixedOrders=true:=by kernel_rfl
def HU(f:FuncId):Option (List A→Mem→Option (Res×Mem)):=if f=nn then some oG else if f=kA then some lA else none
noncomputable def Cb:Cfg:={P:=Tryz.prog,gl:=gl0,ann:=ann,ext:=HU}
theorem okb:CfgOk Cb where
 gl:=fun n=>by
  show closed 0 0 (gl0 n)=true
  unfold gl0
  split
  ·decide
  split
  ·rfl
  split
  ·rfl
  ·rfl
 mixed:=gV
 dok:=by
  rintro f id ops ⟨fn,b,h1,h2,h3⟩ hd
  have h4:Tryz.prog.funcs.toList[f]? =some fn:=by rw[Array.getElem?_toList];exact h1
  have h5:=ul _ 0 f fn EJ h4
  rw[Nat.zero_add,EM,h2] at h5
  have h6:=List.all_eq_true.1 h5 _ (eB h3)
  have hd':ann.dok f id=true:=hd
  simp only[hd',Bool.not_true,Bool.false_or] at h6
  exact h6
 ext:=fun f h he args m r hr=>by
  have he':HU f=some h:=he
  unfold HU at he'
  split at he'
  ·rename_i hf;cases he';subst hf;exact Bt rfl hr
  split at he'
  ·rename_i hf;cases he';subst hf;exact wZ rfl hr
  ·cases he'
def bE(f:Func):Code:=f.body.getD .skip
def sq1:Code→Code| .seq a _=>a|c=>c
def sq2:Code→Code| .seq _ b=>b|c=>c
def fw:Code→Code| .block _ b=>b| .loop b=>b|c=>c
def vT:Code→Array Oper| .region _ ops _=>ops|_=> #[]
def BL:Code→Nat| .region id _ _=>id|_=>0
def zj:Code→Array Tmp| .rangeFunc _ ps _ _=>ps|_=> #[]
def ic:Code→Code| .rangeFunc _ _ a _=>a|c=>c
def lM:Code→Code| .rangeFunc _ _ _ b=>b|c=>c
def vY:FuncId:=55
def dI:FuncId:=98
noncomputable def pB:Code:=bE Tryz.f19
noncomputable def pB5:Code:=sq2 (sq2 (sq2 (sq2 (sq2 pB))))
noncomputable def pRF:Code:=fw (sq2 (sq1 pB5))
noncomputable def lB:Code:=bE Tryz.f98
noncomputable def lL:Code:=fw (fw (sq2 lB))
noncomputable def lIn:Code:=fw (sq1 (sq2 lL))
noncomputable def pP:RF where
 R0:=sq1 pB
 c1:=sq1 (sq2 pB)
 R3:=sq1 (sq2 (sq2 pB))
 R4:=sq1 (sq2 (sq2 (sq2 pB)))
 R5:=sq1 (sq2 (sq2 (sq2 (sq2 pB))))
 post:=sq2 pB5
 assign:=ic pRF
 body:=lM pRF
 id6:=BL (sq1 (sq1 pB5))
 ops6:=vT (sq1 (sq1 pB5))
 ps:=zj pRF
 gf:=vY
 h:=dI
 hd:=sq1 lL
 I0:=sq1 lB
 I3:=sq1 lIn
 I5:=sq2 (sq2 lIn)
 I2:=sq2 (sq2 lL)
 id4:=BL (sq1 (sq1 (sq2 lIn)))
 ops4:=vT (sq1 (sq1 (sq2 lIn)))
theorem Bs:Tryz.f19.body=some pP.code:=by kernel_rfl
theorem Bj:Tryz.f98.body=some (.seq pP.I0 (.block 0 (.loop (.seq pP.hd (.seq (.block 1 (.seq pP.I3 (.seq (.seq (.region pP.id4 pP.ops4 false) (.cond (.tmp 25) .ret .skip)) pP.I5))) pP.I2))))):=by kernel_rfl
noncomputable def NN:Nat:=1000000
def na:List UInt8:=[116,121,112,101,32,50,32,42,32,68,40,88,41,10,48,32,61,32,40,48,44,32,123,49,32,58,32,49,44,32,50,32,58,32,50,125,41,10,49,32,61,32,40,49,44,32,123,49,32,58,32,49,125,41,10,50,32,61,32,40,49,44,32,123,50,32,58,32,49,125,41,10]
noncomputable def vx(l:Nat):Option (List Nat×(Ex×Mem)×A×Mem):=l4 Tryz.prog ((evR Cb NN).code aS 140) ((evR Cb NN).code dI 27) ((evR Cb NN).call vY) Tryz.f19.results.toList pP 1000 [.str na] ⟨[],[]⟩ l
def mkv(n:Int)(args:List (List A))(ws:List Int):List A:=[.int .i64 n,.isl false args.length args.flatten,.isl false ws.length (az ws)]
def mkf(k n:Int)(args:List (List A)):List A:=[.int .i64 k,.int .i64 n,.isl false args.length args.flatten]
def CP:A:= .tup [.agg (mkf 2 0 [mkf 1 2 [],mkf 7 0 [mkf 0 0 []]]++[.isl false 3 (mkv 0 [mkv 0 [] [],mkv 0 [mkv 1 [] [],mkv 2 [] []] [1,2]] []++mkv 0 [mkv 1 [] [],mkv 0 [mkv 1 [] []] [1]] []++mkv 0 [mkv 1 [] [],mkv 0 [mkv 2 [] []] [1]] [])]),.int .i64 0]
def qB:Option (Res×Mem)→A→Bool
 |some (.ret a,⟨[],[]⟩),v=>eqA a v
 |_,_=>false
theorem xI{x:Option (Res×Mem)}{v:A}(h:qB x v=true):x=some (.ret v,⟨[],[]⟩):=by
 unfold qB at h
 split at h
 ·rw[th _ _ h]
 ·cases h
set_option maxRecDepth 1000000 in
theorem B9(l:Nat):qB ((vx l).bind fun y=>lO Tryz.prog ⟨[],[]⟩ (.ret y.2.2.1) y.2.2.2) CP=true:=by kernel_rfl
set_option maxRecDepth 1000000 in
theorem DD(l:Nat):(vx l).map (·.1)=some [l,l,l,l]:=by kernel_rfl
theorem CN:∃(x:Nat→Ex×Mem) (b:Nat→A) (m8:Nat→Mem),(∀l,vx l=some ([l,l,l,l],x l,b l,m8 l))∧∀l,lO Tryz.prog ⟨[],[]⟩ (.ret (b l)) (m8 l)=some (.ret CP,⟨[],[]⟩):=by
 have h:∀l,∃y:(Ex×Mem)×A×Mem,vx l=some ([l,l,l,l],y)∧lO Tryz.prog ⟨[],[]⟩ (.ret y.2.1) y.2.2=some (.ret CP,⟨[],[]⟩):=fun l=>by
  have h1:=xI (B9 l)
  have h2:=DD l
  obtain⟨y,h3,h4⟩:=Option.bind_eq_some_iff.1 h1
  rw[h3] at h2
  simp only[Option.map_some,Option.some.injEq] at h2
  obtain⟨y1,y2⟩:=y
  simp only at h2
  subst h2
  exact⟨y2,h3,h4⟩
 obtain⟨y,hy⟩:=Classical.axiomOfChoice h
 exact⟨fun l=>(y l).1,fun l=>(y l).2.1,fun l=>(y l).2.2,fun l=>(hy l).1,fun l=>(hy l).2⟩
set_option maxRecDepth 1000000 in
theorem CB:closed 0 0 CP=true:=by kernel_rfl
theorem Ev:jU pP.ops4:=⟨_,_,_,_,_,_,_,_,_,_,_,_,_,_,_,_,_,rfl⟩
theorem GI:ops6 pP.gf pP.ops6:=⟨_,_,_,_,_,_,_,rfl⟩
theorem yw(m:Mem):aV Cb aS [.str na] m (.ret CP,m):=by
 obtain⟨x,b,m8,h1,h2⟩:=CN
 exact eO okb.gl rfl CB (vj okb (f:=aS) (nt:=140) (nth:=27) (p:=pP) (fun c s x h=>(nA okb NN).code _ _ _ _ _ h) (fun c s x h=>(nA okb NN).code _ _ _ _ _ h) (fun args m r h=>(nA okb NN).call _ _ _ _ h)
  Tryz.func19 Bs rfl (by decide) (by decide) Tryz.func98 Bj rfl (by decide) rfl (by decide) Ev GI (by decide) rfl (args:=[.str na]) (by decide) (ls:=fun l=>[l,l,l,l]) h1 (fun l z hz=>by simpa using hz) (fun l=>ut (h2 l))) m
def unB:List A→Option (List UInt8)
 |[]=>some []
 | .int .u8 n::r=>if 0≤n∧n<256 then(unB r).map (UInt8.ofNat n.toNat:: ·) else none
 |_=>none
theorem Dw:∀{cs:List A} {l:List UInt8},unB cs=some l→cs=l.map fun b=> .int .u8 (b.toNat:Int)
 |[],l,h=>by have h':some []=some l:=h;cases h';rfl
 |a::r,l,h=>by
  unfold unB at h
  split at h
  ·rename_i heq;cases heq
  ·rename_i n r' heq
   cases heq
   by_cases hn:0≤n∧n<256
   ·rw[if_pos hn] at h
    obtain⟨l',h1,rfl⟩:=Option.map_eq_some_iff.1 h
    rw[Dw h1,List.map_cons]
    have h8:((UInt8.ofNat n.toNat).toNat:Int)=n:=by
     rw[UInt8.toNat_ofNat']
     omega
    rw[h8]
   ·rw[if_neg hn] at h;cases h
  ·cases h
noncomputable def sB:Code:=bE Tryz.f17
noncomputable def sR3:Code:=sq1 (sq2 (sq2 sB))
noncomputable def Ck:Code:=sq1 (sq2 (sq2 (sq2 (sq2 sB))))
noncomputable def J6:Code:=sq1 (sq2 (sq2 (sq2 (sq2 (sq2 sB)))))
noncomputable def Et(args:List A):Option (List UInt8):=
 (nrm ((evR Cb NN).code aR 36 (sq1 sB) ⟨bi 0 args,⟨[],[]⟩⟩)).bind fun s0=>(nrm ((evR Cb NN).code aR 36 (sq1 (sq2 sB)) s0)).bind fun s1=>
  (nrm ((evR Cb NN).code aR 36 (sq1 (sq2 (sq2 (sq2 sB)))) ⟨(4,.rptr s1.m.rw.length 2 0)::s1.tm,⟨s1.m.bx,s1.m.rw++[⟨78,[.nilp,.nils]⟩]⟩⟩)).bind fun s4=>(nrm ((evR Cb NN).code aR 36 Ck s4)).bind fun s5=>
   match lk 4 s5.tm with
   | .rptr id 2 0=>
     match s5.m.rw[id]? with
     |some ⟨t,[a0,.sl rid v 0 n]⟩=>
      match s5.m.rw[rid]? with
      |some ⟨t2,cs⟩=>(unB cs).bind fun l=>if t=78∧t2=5∧v=l.length∧n=l.length∧0<l.length∧l.length≤9223372036854775807 then some l else none
      |none=>none
     |_=>none
   |_=>none
theorem BD:Tryz.f17.body=some (.seq (sq1 sB) (.seq (sq1 (sq2 sB)) (.seq (.region (BL sR3) (vT sR3) false) (.seq (sq1 (sq2 (sq2 (sq2 sB)))) (.seq Ck (.seq (.region (BL J6) (vT J6) false) .ret)))))):=by kernel_rfl
theorem wg{args:List A}{l:List UInt8}(hlen:args.length≤36)(h:Et args=some l):aV Cb aR args ⟨[],[]⟩ (.ret (.tup [.str l,.int .i64 0]),⟨[],[]⟩):=by
 unfold Et at h
 obtain⟨s0,k0,h⟩:=Option.bind_eq_some_iff.1 h
 obtain⟨s1,k1,h⟩:=Option.bind_eq_some_iff.1 h
 obtain⟨s4,k4,h⟩:=Option.bind_eq_some_iff.1 h
 obtain⟨s5,k5,h⟩:=Option.bind_eq_some_iff.1 h
 split at h
 case h_2=>cases h
 case h_1 id h4=>
 split at h
 case h_2=>cases h
 case h_1 t a0 rid v n hr1=>
 split at h
 case h_2=>cases h
 case h_1 t2 cs hr2=>
 obtain⟨l',hl,hq⟩:=Option.bind_eq_some_iff.1 h
 by_cases hc:t=78∧t2=5∧v=l'.length∧n=l'.length∧0<l'.length∧l'.length≤9223372036854775807
 case neg=>rw[if_neg hc] at hq;cases hq
 rw[if_pos hc] at hq
 obtain rfl:l'=l:=Option.some.inj hq
 obtain⟨rfl,rfl,rfl,rfl,h6,h7⟩:=hc
 rw[Dw hl] at hr2
 exact xU okb rfl (f:=aR) (nt:=36) (K:=(evR Cb NN).code aR 36) (fun c s x h=>(nA okb NN).code _ _ _ _ _ h) Tryz.func17 BD rfl (by decide) (by decide) rfl ⟨_,_,_,rfl⟩ ⟨_,_,_,_,_,_,_,_,_,_,rfl⟩ hlen (fk k0) (fk k1) (fk k4) (fk k5) h4 hr1 hr2 (by intro e;rw[e] at h6;simp at h6) h7
noncomputable def Ie:List A→Mem→Option (Res×Mem):=fun args m=>if closed.closedL 0 0 args=true∧args.length≤36 then(Et args).map fun l=>(.ret (.tup [.str l,.int .i64 0]),m) else none
theorem Gp{args:List A}{m:Mem}{r:Res×Mem}(h:Ie args m=some r):aV Cb aR args m r:=by
 unfold Ie at h
 split at h
 ·rename_i hc
  obtain⟨l,hl,rfl⟩:=Option.map_eq_some_iff.1 h
  exact eO okb.gl hc.1 rfl (wg hc.2 hl) m
 ·cases h
noncomputable def Bh:List A→Mem→Option (Res×Mem)
 |[.str s],m=>if s=na then some (.ret CP,m) else none
 |_,_=>none
noncomputable def Hr(f:FuncId):Option (List A→Mem→Option (Res×Mem)):=if f=aS then some Bh else if f=aR then some Ie else if f=jo then some sH else none
noncomputable def Cp:Cfg:={P:=Tryz.prog,gl:=gl0,ann:=ann,ext:=Hr}
theorem okp:CfgOk Cp where
 gl:=okb.gl
 mixed:=gV
 dok:=okb.dok
 ext:=fun f h he args m r hr=>by
  have he':Hr f=some h:=he
  unfold Hr at he'
  split at he'
  ·rename_i hf
   cases he'
   subst hf
   unfold Bh at hr
   split at hr
   ·split at hr
    ·rename_i hs
     simp only[Option.some.injEq] at hr
     subst hr
     subst hs
     exact yw m
    ·cases hr
   ·cases hr
  split at he'
  ·rename_i hf;cases he';subst hf;exact Gp hr
  split at he'
  ·rename_i hf;cases he';subst hf;exact zh rfl (by show gl0 1000000007≠_;unfold gl0;rw[if_neg (by decide),if_neg (by decide),if_neg (by decide)];simp) hr
  ·cases he'
end AE
end Go.Proofs.YtmfdpijmholedaaGreatDoor
/- The fixed calls answer true: each fw call by its own run. -/
set_option linter.unusedVariables false
namespace Go.Proofs.YtmfdpijmholedaaGreatDoor
namespace AE
open Go Go.RowKit
def lN:A:= .agg (mkf 2 0 [mkf 1 2 [],mkf 7 0 [mkf 0 0 []]]++[.isl false 3 (mkv 0 [mkv 0 [] [],mkv 0 [mkv 1 [] [],mkv 2 [] []] [1,2]] []++mkv 0 [mkv 1 [] [],mkv 0 [mkv 1 [] []] [1]] []++mkv 0 [mkv 1 [] [],mkv 0 [mkv 2 [] []] [1]] [])])
def EH:A:= .agg (mkf 2 0 [mkf 1 2 [],mkf 7 0 [mkf 0 0 []]]++[.isl false 2 (mkv 0 [mkv 0 [] [],mkv 0 [mkv 1 [] []] [1]] []++mkv 0 [mkv 1 [] [],mkv 0 [mkv 1 [] []] [1]] [])])
def p1A:A:= .agg (mkf 2 0 [mkf 1 2 [],mkf 7 0 [mkf 0 0 []]]++[.isl false 1 (mkv 0 [mkv 1 [] [],mkv 0 [mkv 0 [] []] [1]] [])])
def zA:A:= .agg [.int .i64 0,.int .i64 0,.isl false 0 [],.isl false 0 []]
def Gr:List UInt8:=[116,121,112,101,32,50,32,42,32,68,40,88,41,10,48,32,61,32,40,48,44,32,123,49,32,58,32,49,125,41,10,49,32,61,32,40,49,44,32,123,49,32,58,32,49,125,41,10]
def ii(l:List Int):A:= .isl true l.length (az l)
def DF:FuncId:=14
def GD:FuncId:=27
def En:FuncId:=11
def KA:A:= .tup [EH,.int .i64 0]
def JQ:A:= .tup [zA,.int .i64 4]
def JS:A:= .tup [p1A,.isl false 1 (az [1]),.int .i64 0]
def Kk:A:= .tup [.bool true,.int .i64 0]
set_option maxRecDepth 1000000 in
theorem DH:qB ((evR Cp NN).call DF [lN,ii [0,1,1]] ⟨[],[]⟩) KA=true:=by kernel_rfl
set_option maxRecDepth 1000000 in
theorem CV:qB ((evR Cp NN).call DF [lN,ii [0,0,1]] ⟨[],[]⟩) JQ=true:=by kernel_rfl
set_option maxRecDepth 1000000 in
theorem Dj:qB ((evR Cp NN).call GD [lN,ii [1]] ⟨[],[]⟩) JS=true:=by kernel_rfl
set_option maxRecDepth 1000000 in
theorem HA:qB ((evR Cp NN).call En [lN,EH,ii [0,1,1]] ⟨[],[]⟩) Kk=true:=by kernel_rfl
def BA:Option (List UInt8)→List UInt8→Bool
 |some l,k=>l==k
 |_,_=>false
theorem y8{x:Option (List UInt8)}{k:List UInt8}(h:BA x k=true):x=some k:=by
 unfold BA at h
 split at h
 ·rw[eq_of_beq h]
 ·cases h
set_option maxRecDepth 1000000 in
theorem E0:BA (Et [lN]) na=true:=by kernel_rfl
set_option maxRecDepth 1000000 in
theorem EF:BA (Et [EH]) Gr=true:=by kernel_rfl
def B1(tbl:List (List A×A))(args:List A)(m:Mem):Option (Res×Mem):=(tbl.find? fun p=>eqA (.tup args) (.tup p.1)).map fun p=>(.ret p.2,m)
theorem sR{C:Cfg}{f:FuncId}{tbl:List (List A×A)}(ht:∀p∈tbl,∀m,aV C f p.1 m (.ret p.2,m)){args:List A}{m:Mem}{r:Res×Mem}(h:B1 tbl args m=some r):aV C f args m r:=by
 obtain⟨p,h1,rfl⟩:=Option.map_eq_some_iff.1 h
 have h2:=List.find?_some h1
 have h3:=th _ _ h2
 simp only[A.tup.injEq] at h3
 rw[h3]
 exact ht p (List.mem_of_find?_eq_some h1) m
def Dt:List (List A×A):=[([.str na],.tup [lN,.int .i64 0])]
def Br:List (List A×A):=[([lN],.tup [.str na,.int .i64 0]),([EH],.tup [.str Gr,.int .i64 0])]
def Hd:List (List A×A):=[([lN,ii [0,1,1]],KA),([lN,ii [0,0,1]],JQ)]
def Hg:List (List A×A):=[([lN,ii [1]],JS)]
def isT:List (List A×A):=[([lN,EH,ii [0,1,1]],Kk)]
noncomputable def HX(f:FuncId):Option (List A→Mem→Option (Res×Mem)):=
 if f=aS then some (B1 Dt) else if f=aR then some (B1 Br) else if f=DF then some (B1 Hd) else if f=GD then some (B1 Hg) else if f=En then some (B1 isT) else none
noncomputable def Cw:Cfg:={P:=Tryz.prog,gl:=gl0,ann:=ann,ext:=HX}
theorem wm{f:FuncId}{args:List A}{v:A}(ha:closed.closedL 0 0 args=true)(hv:closed 0 0 v=true)(h:qB ((evR Cp NN).call f args ⟨[],[]⟩) v=true)(m:Mem):aV Cw f args m (.ret v,m):=
 eO okp.gl ha hv ((nA okp NN).call _ _ _ _ (xI h)) m
theorem okw:CfgOk Cw where
 gl:=okb.gl
 mixed:=gV
 dok:=okb.dok
 ext:=fun f h he args m r hr=>by
  have he':HX f=some h:=he
  unfold HX at he'
  split at he'
  ·rename_i hf
   cases he'
   subst hf
   refine sR (fun p hp m=> ?_) hr
   simp only[Dt,List.mem_singleton] at hp
   subst hp
   exact yw m
  split at he'
  ·rename_i hf
   cases he'
   subst hf
   refine sR (fun p hp m=> ?_) hr
   simp only[Br,List.mem_cons,List.not_mem_nil,or_false] at hp
   rcases hp with rfl|rfl
   ·exact eO okb.gl (by kernel_rfl) rfl (wg (by decide) (y8 E0)) m
   ·exact eO okb.gl (by kernel_rfl) rfl (wg (by decide) (y8 EF)) m
  split at he'
  ·rename_i hf
   cases he'
   subst hf
   refine sR (fun p hp m=> ?_) hr
   simp only[Hd,List.mem_cons,List.not_mem_nil,or_false] at hp
   rcases hp with rfl|rfl
   ·exact wm (by kernel_rfl) (by kernel_rfl) DH m
   ·exact wm (by kernel_rfl) (by kernel_rfl) CV m
  split at he'
  ·rename_i hf
   cases he'
   subst hf
   refine sR (fun p hp m=> ?_) hr
   simp only[Hg,List.mem_singleton] at hp
   subst hp
   exact wm (by kernel_rfl) (by kernel_rfl) Dj m
  split at he'
  ·rename_i hf
   cases he'
   subst hf
   refine sR (fun p hp m=> ?_) hr
   simp only[isT,List.mem_singleton] at hp
   subst hp
   exact wm (by kernel_rfl) (by kernel_rfl) HA m
  ·cases he'
set_option maxRecDepth 1000000 in
theorem AP:sx ((evR Cw NN).call ny [] ⟨[],[]⟩)=true:=by kernel_rfl
theorem Ed(m:Mem):aV C0 ny [] m (.ret (.bool true),m):=by
 obtain⟨m1,h⟩:=xK AP
 have h1:=eO okw.gl rfl rfl ((nA okw NN).call _ _ _ _ h) m
 unfold aV at h1⊢
 rw[ay,lS]
 exact h1
end AE
end Go.Proofs.YtmfdpijmholedaaGreatDoor
/- Values: how many nodes, how they compare; evaluated. -/
set_option linter.unusedVariables false
set_option linter.unusedSimpArgs false
namespace Go.Proofs.YtmfdpijmholedaaGreatDoor
namespace AE
open Go
mutual
def iZ:Val→Int→Int
 | .mk _ l _,most=>max (gm l (most-1)) 0
def gm:List Val→Int→Int
 |[],most=>most
 |f::r,most=>if 0<most then gm r (iZ f most) else most
end
theorem Di(f:Val)(most:Int):iZ f most=max (gm f.args (most-1)) 0:=by cases f;rw[iZ];rfl
theorem qA{l:List Val}{i:Nat}(h:i<l.length)(most:Int):gm (l.drop i) most=if 0<most then gm (l.drop (i+1)) (iZ l[i] most) else most:=by
 rw[List.drop_eq_getElem_cons h,gm]
mutual
theorem s8:∀(f:Val) (most:Int),0≤iZ f most∧iZ f most≤max (most-1) 0
 | .mk n l w,most=>by
   rw[iZ]
   have:=vb l (most-1)
   omega
theorem vb:∀(l:List Val) (most:Int),gm l most≤max most 0
 |[],most=>by rw[gm];omega
 |f::r,most=>by
  rw[gm]
  split
  ·have h1:=s8 f most
   have h2:=vb r (iZ f most)
   omega
  ·omega
end
mutual
theorem jt:∀(f:Val) (most:Int),1≤most→iZ f most=max (most-f.nodes) 0
 | .mk k l w,most,h=>by
   rw[iZ,nO l (most-1) (by omega),Val.nodes_eq]
   simp only[Val.args_mk]
   omega
theorem nO:∀(l:List Val) (q:Int),0≤q→gm l q=max (q-Val.nodesL l) 0
 |[],q,h=>by rw[gm,Val.nodesL];omega
 |f::r,q,h=>by
  rw[gm,Val.nodesL]
  split
  ·rw[jt f q (by omega),nO r _ (by omega)]
   omega
  ·have:=f.nodes_pos
   omega
end
set_option maxHeartbeats 1000000 in
theorem yS(N:Nat):∀(f:Val),f.nodes≤N→∀(most:Int) (m:Mem),-1000000000≤most→most≤1000000000→ai C0 124 [.agg f.cells,.int .i64 most] m=some (.ret (.int .i64 (iZ f most)),m):=by
 induction N with
 |zero=>intro f hN;have:=f.nodes_pos;omega
 |succ N ih=>
 intro f hN most m h1 h2
 rw[ab C0 (aj _ (by decide)) (by rw[ay];exact Tryz.func124) rfl (by rw[ae];rfl) (by rw[ae];rfl) (by decide) (by simp[Tryz.f124])]
 have w1:IntKind.i64.wrap (most-1)=most-1:=al _ (by omega)
 simp[Tryz.f124,a124,reg124,loop124,w1]
 refine aC (fun x:Nat×Int=>⟨[(1,.int .i64 x.2),(2,.ptr m.bx.length 0),(5,.int .i64 x.1)],⟨m.bx++[f.cells],m.rw⟩⟩)
  (fun x=>some (.ret (.int .i64 (max (gm (f.args.drop x.1) x.2) 0)),m)) (fun x=>f.args.length-x.1) (fun x=>x.1≤f.args.length∧x.2≤1000000000-x.1∧ -1000000001≤x.2) (0,most-1) ?_ ?_ ?_ ?_ ?_
 ·simp
 ·simp[Di]
 ·simp;omega
 ·intro x;simp[Tryz.f124,a124,reg124,loop124]
 ·rintro⟨i,q⟩ hI hrec
  simp only at hI
  obtain⟨hi,hq1,hq2⟩:=hI
  by_cases hlt:i<f.args.length
  ·by_cases hq:0<q
   ·have w2:IntKind.i64.wrap (i+1)=i+1:=al _ (by omega)
    have he:=ih f.args[i] (by have:=Val.nodes_arg (List.getElem_mem hlt);omega) q
    simp at he
    have hle:=s8 f.args[i] q
    clear ih
    have h3:(i+1)*3≤f.args.length*3:=by omega
    simp[round,Tryz.f124,a124,reg124,loop124,hlt,hq,w2,h3,he _ (show -1000000000≤q by omega) (show q≤1000000000 by omega)]
    refine hrec (i+1,iZ f.args[i] q) _ _ ?_ ?_ ?_ ?_
    ·simp;omega
    ·simp;omega
    ·simp
    ·simp only
     rw[qA hlt,if_pos hq]
   ·clear hrec ih
    simp[round,Tryz.f124,a124,reg124,loop124,hlt,hq]
    rw[qA hlt,if_neg hq]
  ·clear hrec ih
   simp[round,Tryz.f124,a124,reg124,loop124,hlt]
   rw[List.drop_eq_nil_of_le (by omega),gm]
mutual
def kJ:Val→Int→Bool
 | .mk _ l w,most=>hU l most&&decide ((w.length:Int)≤most)
def hU:List Val→Int→Bool
 |[],_=>true
 |f::r,most=>kJ f most&&hU r most
end
theorem Cs(f:Val)(most:Int):kJ f most=(hU f.args most&&decide ((f.ws.length:Int)≤most)):=by cases f;rw[kJ];rfl
theorem vR{l:List Val}{i:Nat}(h:i<l.length)(most:Int):hU (l.drop i) most=(kJ l[i] most&&hU (l.drop (i+1)) most):=by
 rw[List.drop_eq_getElem_cons h,hU]
set_option maxHeartbeats 2000000 in
theorem DL(most:Int)(N:Nat):∀(f:Val),f.nodes≤N→f.nodes≤1000000000→∀(m:Mem),ai C0 125 [.agg f.cells,.int .i64 most] m=some (.ret (.bool (kJ f most)),m):=by
 induction N with
 |zero=>intro f hN;have:=f.nodes_pos;omega
 |succ N ih=>
 intro f hN hb m
 rw[ab C0 (aj _ (by decide)) (by rw[ay];exact Tryz.func125) rfl (by rw[ae];rfl) (by rw[ae];rfl) (by decide) (by simp[Tryz.f125])]
 have hlen:=f.length_args
 rw[Cs]
 simp[Tryz.f125,a125,reg125,loop125]
 refine aC (fun i:Nat=>⟨[(1,.int .i64 most),(2,.ptr m.bx.length 0),(8,.isl false f.args.length (Val.cellsL f.args)),(9,.int .i64 f.args.length),(10,.int .i64 i)],⟨m.bx++[f.cells],m.rw⟩⟩)
  (fun i=>some (.ret (.bool (hU (f.args.drop i) most&&decide ((f.ws.length:Int)≤most))),m)) (fun i=>f.args.length-i) (fun i=>i≤f.args.length) 0 ?_ ?_ ?_ ?_ ?_
 ·simp
 ·simp
 ·omega
 ·intro x;simp[Tryz.f125,a125,reg125,loop125]
 ·intro i hi hrec
  by_cases hlt:i<f.args.length
  ·have w2:IntKind.i64.wrap (i+1)=i+1:=al _ (by omega)
   have hmem:=Val.nodes_arg (List.getElem_mem hlt)
   have he:=ih f.args[i] (by omega) (by omega)
   simp at he
   clear ih
   have h3:(i+1)*3≤f.args.length*3:=by omega
   rw[vR hlt]
   cases hc:kJ f.args[i] most
   ·simp[hc] at he
    simp[round,Tryz.f125,a125,reg125,loop125,hlt,w2,h3,he]
   ·simp[hc] at he
    simp[round,Tryz.f125,a125,reg125,loop125,hlt,w2,h3,he,aZ]
    refine hrec (i+1) _ _ ?_ ?_ ?_ ?_
    ·omega
    ·omega
    ·simp
    ·simp
  ·clear hrec ih
   simp[round,Tryz.f125,a125,reg125,loop125,hlt]
   rw[List.drop_eq_nil_of_le (by omega),hU]
   simp
def pg(v:Val)(most:Int):Bool:=decide (0<iZ v (most+1))&&kJ v most
theorem F8(f:Val)(most:Int)(m:Mem)(h1: -100000000≤most)(h2:most≤100000000):ai C0 81 [.agg f.cells,.int .i64 most] m=some (.ret (.bool (pg f most)),m):=by
 rw[ab C0 (aj _ (by decide)) (by rw[ay];exact Tryz.func81) rfl (by rw[ae];rfl) (by rw[ae];rfl) (by decide) (by simp[Tryz.f81])]
 have w1:IntKind.i64.wrap (most+1)=most+1:=al _ (by omega)
 have he:=yS f.nodes f (Nat.le_refl _) (most+1)
 simp at he
 unfold pg
 by_cases hm:1≤most+1
 ·have hn:=jt f (most+1) hm
  by_cases hc:0<iZ f (most+1)
  ·have hl:=DL most f.nodes f (Nat.le_refl _) (by omega)
   simp at hl
   simp[Tryz.f81,a81,reg81,w1,he _ (show -1000000000≤most+1 by omega) (show most+1≤1000000000 by omega),hc,hl]
  ·simp[Tryz.f81,a81,reg81,w1,he _ (show -1000000000≤most+1 by omega) (show most+1≤1000000000 by omega),hc]
 ·have hc:¬0<iZ f (most+1):=by have:=s8 f (most+1);omega
  simp[Tryz.f81,a81,reg81,w1,he _ (show -1000000000≤most+1 by omega) (show most+1≤1000000000 by omega),hc]
theorem Ay{v:Val}{most:Int}(h0:0≤most)(h:pg v most=true):(v.nodes:Int)≤most:=by
 unfold pg at h
 simp only[Bool.and_eq_true,decide_eq_true_eq] at h
 rw[jt v _ (by omega)] at h
 omega
theorem ot(a b:Int)(m:Mem):ai C0 126 [.int .i64 a,.int .i64 b] m=some (.ret (.int .i64 (cx a b)),m):=by
 rw[ab C0 (aj _ (by decide)) (by rw[ay];exact Tryz.func126) rfl (by rw[ae];rfl) (by rw[ae];rfl) (by decide) (by simp[Tryz.f126])]
 unfold cx
 by_cases h1:a<b
 ·simp[Tryz.f126,a126,reg126,h1]
 by_cases h2:b<a
 ·simp[Tryz.f126,a126,reg126,h1,h2]
 simp[Tryz.f126,a126,reg126,h1,h2]
set_option maxHeartbeats 2000000 in
theorem AH(f1 f2:Bool)(a b:List Int)(ha:a.length≤1000000000)(m:Mem):ai C0 166 [.isl f1 a.length (az a),.isl f2 b.length (az b),.fn 126 []] m=some (.ret (.int .i64 (cZ a b)),m):=by
 rw[ab C0 (aj _ (by decide)) (by rw[ay];exact Tryz.func166) rfl (by rw[ae];rfl) (by rw[ae];rfl) (by decide) (by simp[Tryz.f166])]
 simp[Tryz.f166,a166,reg166,loop166]
 refine aC (fun i:Nat=>⟨[(0,.isl f1 a.length (az a)),(1,.isl f2 b.length (az b)),(2,.fn 126 []),(11,.isl f1 a.length (az a)),(12,.int .i64 a.length),(13,.int .i64 i)],m⟩)
  (fun i=>some (.ret (.int .i64 (cZ (a.drop i) (b.drop i))),m)) (fun i=>a.length-i) (fun i=>i≤a.length∧i≤b.length) 0 ?_ ?_ ?_ ?_ ?_
 ·simp
 ·simp
 ·simp
 ·intro x;simp[Tryz.f166,a166,reg166,loop166]
 ·rintro i ⟨hi,hi'⟩ hrec
  by_cases hlt:i<a.length
  ·have w2:IntKind.i64.wrap (i+1)=i+1:=al _ (by omega)
   have h3:i+1≤a.length:=by omega
   by_cases hlt':i<b.length
   ·have h3':i+1≤b.length:=by omega
    have h4:¬b.length≤i:=by omega
    rw[pw hlt hlt']
    by_cases hc:cx a[i] b[i]=0
    ·simp[round,Tryz.f166,a166,reg166,loop166,hlt,hlt',w2,h3,h3',h4,bq hlt,bq hlt',ot,hc,aA]
     refine hrec (i+1) _ _ ?_ ?_ ?_ ?_
     ·omega
     ·omega
     ·simp
     ·simp
    ·simp[round,Tryz.f166,a166,reg166,loop166,hlt,hlt',w2,h3,h3',h4,bq hlt,bq hlt',ot,hc]
   ·have h4:b.length≤i:=by omega
    rw[oQ hlt hlt']
    simp[round,Tryz.f166,a166,reg166,loop166,hlt,w2,h3,h4,bq hlt]
  ·clear hrec
   by_cases hlt':i<b.length
   ·have h5:a.length<b.length:=by omega
    rw[nI hlt hlt']
    simp[round,Tryz.f166,a166,reg166,loop166,hlt,h5]
   ·have h5:¬a.length<b.length:=by omega
    rw[tc hlt hlt']
    simp[round,Tryz.f166,a166,reg166,loop166,hlt,h5]
theorem wr(f1 f2:Bool)(a b:List Int)(ha:a.length≤1000000000)(m:Mem):ai C0 128 [.isl f1 a.length (az a),.isl f2 b.length (az b),.fn 126 []] m=some (.ret (.int .i64 (cZ a b)),m):=by
 rw[ab C0 (aj _ (by decide)) (by rw[ay];exact Tryz.func128) rfl (by rw[ae];rfl) (by rw[ae];rfl) (by decide) (by simp[Tryz.f128])]
 simp[Tryz.f128,a128,reg128,AH f1 f2 a b ha]
set_option maxHeartbeats 2000000 in
theorem z7(a b:List Val)(f1 f2:Bool)(ha:a.length≤1000000000)(ih:∀u,u∈a→∀(v:Val) (m:Mem),ai C0 83 [.agg u.cells,.agg v.cells] m=some (.ret (.int .i64 (aY u v)),m))(m:Mem):
  ai C0 165 [.isl f1 a.length (Val.cellsL a),.isl f2 b.length (Val.cellsL b),.fn 83 []] m=some (.ret (.int .i64 (bT a b)),m):=by
 rw[ab C0 (aj _ (by decide)) (by rw[ay];exact Tryz.func165) rfl (by rw[ae];rfl) (by rw[ae];rfl) (by decide) (by simp[Tryz.f165])]
 simp[Tryz.f165,a165,reg165,loop165]
 refine aC (fun i:Nat=>⟨[(0,.isl f1 a.length (Val.cellsL a)),(1,.isl f2 b.length (Val.cellsL b)),(2,.fn 83 []),(11,.isl f1 a.length (Val.cellsL a)),(12,.int .i64 a.length),(13,.int .i64 i)],m⟩)
  (fun i=>some (.ret (.int .i64 (bT (a.drop i) (b.drop i))),m)) (fun i=>a.length-i) (fun i=>i≤a.length∧i≤b.length) 0 ?_ ?_ ?_ ?_ ?_
 ·simp
 ·simp
 ·simp
 ·intro x;simp[Tryz.f165,a165,reg165,loop165]
 ·rintro i ⟨hi,hi'⟩ hrec
  by_cases hlt:i<a.length
  ·have w2:IntKind.i64.wrap (i+1)=i+1:=al _ (by omega)
   have h3:(i+1)*3≤a.length*3:=by omega
   by_cases hlt':i<b.length
   ·have h3':(i+1)*3≤b.length*3:=by omega
    have h4:¬b.length≤i:=by omega
    have he:=ih a[i] (List.getElem_mem hlt) b[i]
    simp at he
    rw[pA hlt hlt']
    by_cases hc:aY a[i] b[i]=0
    ·simp[hc] at he
     simp[round,Tryz.f165,a165,reg165,loop165,hlt,hlt',w2,h3,h3',h4,he,hc,aZ]
     refine hrec (i+1) _ _ ?_ ?_ ?_ ?_
     ·omega
     ·omega
     ·simp
     ·simp
    ·simp[round,Tryz.f165,a165,reg165,loop165,hlt,hlt',w2,h3,h3',h4,he,hc]
   ·have h4:b.length≤i:=by omega
    rw[pz hlt hlt']
    simp[round,Tryz.f165,a165,reg165,loop165,hlt,w2,h3,h4]
  ·clear hrec
   by_cases hlt':i<b.length
   ·have h5:a.length<b.length:=by omega
    rw[mY hlt hlt']
    simp[round,Tryz.f165,a165,reg165,loop165,hlt,h5]
   ·have h5:¬a.length<b.length:=by omega
    rw[tC hlt hlt']
    simp[round,Tryz.f165,a165,reg165,loop165,hlt,h5]
mutual
theorem ta{most:Int}(h:most≤1000000000):∀v:Val,kJ v most=true→aP v
 | .mk n l w,hl=>by
   rw[kJ,Bool.and_eq_true,decide_eq_true_eq] at hl
   rw[aP]
   exact⟨by omega,qr h l hl.1⟩
theorem qr{most:Int}(h:most≤1000000000):∀l:List Val,hU l most=true→bS l
 |[],_=>by rw[bS];trivial
 |f::r,hl=>by
  rw[hU,Bool.and_eq_true] at hl
  rw[bS]
  exact⟨ta h f hl.1,qr h r hl.2⟩
end
theorem vy(a b:List Val)(f1 f2:Bool)(ha:a.length≤1000000000)(ih:∀u,u∈a→∀(v:Val) (m:Mem),ai C0 83 [.agg u.cells,.agg v.cells] m=some (.ret (.int .i64 (aY u v)),m))(m:Mem):
  ai C0 127 [.isl f1 a.length (Val.cellsL a),.isl f2 b.length (Val.cellsL b),.fn 83 []] m=some (.ret (.int .i64 (bT a b)),m):=by
 rw[ab C0 (aj _ (by decide)) (by rw[ay];exact Tryz.func127) rfl (by rw[ae];rfl) (by rw[ae];rfl) (by decide) (by simp[Tryz.f127])]
 simp[Tryz.f127,a127,reg127,z7 a b f1 f2 ha ih]
set_option maxHeartbeats 2000000 in
theorem sP(N:Nat):∀(u:Val),u.nodes≤N→u.nodes≤1000000000→aP u→∀(v:Val) (m:Mem),ai C0 83 [.agg u.cells,.agg v.cells] m=some (.ret (.int .i64 (aY u v)),m):=by
 induction N with
 |zero=>intro f hN;have:=f.nodes_pos;omega
 |succ N ih=>
 intro u hN hb hs v m
 have hlen:=u.length_args
 rw[bj] at hs
 have hargs:=vy u.args v.args false false (by omega) (fun x hx w m=>ih x (by have:=Val.nodes_arg hx;omega) (by have:=Val.nodes_arg hx;omega) (cq hs.2 hx) w m)
 have hws:=wr false false u.ws v.ws hs.1
 clear ih
 rw[ab C0 (aj _ (by decide)) (by rw[ay];exact Tryz.func83) rfl (by rw[ae];rfl) (by rw[ae];rfl) (by decide) (by simp[Tryz.f83])]
 rw[vV]
 by_cases c1:cx u.num v.num=0
 ·by_cases c2:bT u.args v.args=0
  ·simp[c2] at hargs
   simp[Tryz.f83,a83,reg83,ot,c1,hargs,hws,c2]
  ·simp[Tryz.f83,a83,reg83,ot,c1,hargs,c2]
 ·simp[Tryz.f83,a83,reg83,ot,c1]
end AE
end Go.Proofs.YtmfdpijmholedaaGreatDoor
