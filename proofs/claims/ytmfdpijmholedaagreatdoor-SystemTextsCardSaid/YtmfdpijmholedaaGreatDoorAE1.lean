/- An abstract evaluator of the model's code: values without addresses, two lists of cells in place of the heap. Definitions alone. -/
import Derived.Test.YtmfdpijmholedaaGreatDoorProg
import Derived.WalkKit
import Derived.KernelRfl
set_option linter.unusedVariables false
namespace Go.Proofs.YtmfdpijmholedaaGreatDoor
namespace AE
open Go
inductive A where
 |undef
 |int (k:IntKind) (n:Int)
 |bool (b:Bool)
 |str (s:List UInt8)
 |nilp|nili|nilf|nils
 |ifc (t:TypeId) (x:A)
 |agg (cs:List A)
 |tup (vs:List A)
 |isl (full:Bool) (len:Nat) (cs:List A)
 |rp (cs:List A)
 |ptr (id off:Nat)
 |sl (id ver off len:Nat)
 |rptr (id ver off:Nat)
 |fn (f:FuncId) (caps:List A)
 |yld (l:Nat)
 deriving Inhabited
structure Row where
 el:TypeId
 cs:List A
structure Mem where
 bx:List (List A)
 rw:List Row
structure St where
 tm:List (Nat×A)
 m:Mem
inductive Ex where
 |normal|exit (id:Nat)|ret|pan (a:A)
inductive Res where
 |ret (a:A)|pan (a:A)
def A.cells:A→List A
 | .agg cs=>cs
 |a=>[a]
def A.ofF:Value→A
 | .int k n=> .int k n
 | .bool b=> .bool b
 | .string s=> .str s.data.toList
 | .pointer none=> .nilp
 | .nilIface=> .nili
 | .nilFunc=> .nilf
 | .slice none 0 0=> .nils
 | .tuple ⟨[]⟩=> .tup []
 |_=> .undef
def A.ofCell:Value→A
 | .agg _=> .undef
 | .tuple _=> .undef
 |v=>A.ofF v
def A.ofV:Value→A
 | .agg cs=> .agg (cs.toList.map A.ofCell)
 |v=>A.ofF v
def lk(t:Nat):List (Nat×A)→A
 |[]=> .undef
 |(u,a)::r=>if u=t then a else lk t r
def put(d:Option Nat)(a:A)(tm:List (Nat×A)):List (Nat×A):=
 match d with
 |some d=>(d,a)::tm
 |none=>tm
def ao(P:Program)(t:TypeId):Nat:=((P.info? t).map (·.size)).getD 0
def bt(P:Program)(t:TypeId):Option Nat:=(P.info? t).map (·.bytes)
def bk(P:Program)(t:TypeId):Option (List A):=((P.info? t).bind (·.zero)).map fun z=>z.cells.toList.map A.ofCell
def dV(P:Program)(t:TypeId):Option Bool:=(P.underlying t).map fun| .struct _| .array _ _=>true|_=>false
def bI(P:Program)(t:TypeId):Option TypeId:=(P.underlying t).bind fun| .slice e=>some e|_=>none
def ga(P:Program)(t:TypeId):Option (Nat×TypeId):=(P.underlying t).bind fun| .array n e=>some (n,e)|_=>none
def bB(P:Program)(t:TypeId)(i:Nat):Option (Nat×TypeId):=(P.underlying t).bind fun| .struct fs=>(fs[i]?).map fun f=>(f.offset,f.type)|_=>none
def di(P:Program)(t:TypeId):Bool:=match P.underlying t with|some .string=>true|_=>false
def cv(P:Program)(t:TypeId):Bool:=match P.underlying t with|some .bool=>true|_=>false
def dN(P:Program)(t:TypeId):Bool:=match P.underlying t with|some (.interface _)=>true|_=>false
def gJ(P:Program)(t:TypeId):Bool:=match P.underlying t with|some (.int .u8)=>true|_=>false
def dM(P:Program)(t:TypeId):Bool:=match P.underlying t with|some (.pointer _)=>true|_=>false
def js(g:Bool)(cs:List A):Option A:=
 if g then some (.agg cs) else match cs with|[a]=>some a|_=>none
def setCells(cs:List A)(off:Nat)(xs:List A):List A:=cs.take off++xs++cs.drop (off+xs.length)
def iw(P:Program)(t:TypeId)(a:A)(m:Mem):Option A:=do
 let g ←dV P t
 let n:=if g then ao P t else 1
 match a with
 | .ptr id off=>do
   let cs ←m.bx[id]?
   if off+n≤cs.length then js g ((cs.drop off).take n) else none
 | .rptr id ver off=>do
   let r ←m.rw[id]?
   if r.cs.length=ver∧off+n≤r.cs.length then js g ((r.cs.drop off).take n) else none
 | .rp cs=>if n≤cs.length then js g (cs.take n) else none
 |_=>none
def flat:A→Bool
 | .agg _| .tup _| .undef=>false
 |_=>true
def dY(P:Program)(t:TypeId)(a x:A)(m:Mem):Option Mem:=
 if ao P t=0 then
  match a with
  | .ptr _ _| .rptr _ _ _=>if x.cells.length=0∧(dV P t).isSome∧x.cells.all flat then some m else none
  |_=>none
 else if x.cells.length=ao P t∧0<ao P t∧x.cells.all flat then
  match a with
  | .ptr id off=>do
    let cs ←m.bx[id]?
    if off+x.cells.length≤cs.length then some {m with bx:=m.bx.set id (setCells cs off x.cells)} else none
  | .rptr id ver off=>do
    let r ←m.rw[id]?
    if r.cs.length=ver∧off+x.cells.length≤r.cs.length then some {m with rw:=m.rw.set id {r with cs:=setCells r.cs off x.cells}} else none
  |_=>none
 else none
def eV(P:Program)(t:TypeId)(a:A)(i:Nat):Option A:=do
 let (o,ft) ←bB P t i
 if 0<ao P ft then
  match a with
  | .ptr id off=>some (.ptr id (off+o))
  | .rptr id ver off=>some (.rptr id ver (off+o))
  | .rp cs=>some (.rp (cs.drop o))
  |_=>none
 else none
def part(P:Program)(t:TypeId)(cs:List A)(o:Nat):Option A:=do
 let g ←dV P t
 let n:=if g then ao P t else 1
 if o+n≤cs.length then js g ((cs.drop o).take n) else none
def pb(P:Program)(t:TypeId)(a:A)(i:Nat):Option A:=do
 let (o,ft) ←bB P t i
 match a with
 | .agg cs=>part P ft cs o
 |_=>none
def gQ(P:Program)(t:TypeId)(a i:A):Option A:=
 match i with
 | .int _ i=>
   match bI P t with
   |some e=>match a with
    | .isl _ n cs=>if 0≤i∧i<n∧0<ao P e∧(i.toNat+1)*ao P e≤cs.length then some (.rp ((cs.drop (i.toNat*ao P e)).take (ao P e))) else none
    | .sl id ver off n=>if 0≤i∧i<n∧0<ao P e then some (.rptr id ver (off+i.toNat*ao P e)) else none
    |_=>none
   |none=>match ga P t with
    |some (n,e)=>
     if 0≤i∧i<n∧0<ao P e then
      match a with
      | .ptr id off=>some (.ptr id (off+i.toNat*ao P e))
      | .rptr id ver off=>some (.rptr id ver (off+i.toNat*ao P e))
      | .rp cs=>some (.rp (cs.drop (i.toNat*ao P e)))
      |_=>none
     else none
    |none=>none
 |_=>none
def ph(P:Program)(t:TypeId)(a i:A):Option A:=
 match a,i with
 | .str s,.int _ i=>if 0≤i∧i<s.length∧di P t then some (.int .u8 ((s.getD i.toNat 0).toNat:Int)) else none
 | .agg cs,.int _ i=>do
   let (n,e) ←ga P t
   if 0≤i∧i<n then part P e cs (i.toNat*ao P e) else none
 |_,_=>none
def bnd(x:Option A)(d:Nat):Option Int:=match x with|none=>some d|some (.int _ n)=>some n|_=>none
def pf(P:Program)(t:TypeId)(a:A)(lo hi mx:Option A):Option A:=
 match a with
 | .str s=>do
   let l ←bnd lo 0
   let h ←bnd hi s.length
   if mx.isNone∧di P t∧0≤l∧l≤h∧h≤s.length then some (.str ((s.take h.toNat).drop l.toNat)) else none
 | .isl f n cs=>do
   let e ←bI P t
   let l ←bnd lo 0
   let h ←bnd hi n
   let x ←bnd mx n
   if(mx.isNone∨hi.isSome)∧0≤l∧l≤h∧h≤x∧x≤n∧cs.length=n*ao P e∧0<ao P e then some (.isl (mx.isSome∧h=x∨f∧mx.isNone∧h=n) (h-l).toNat ((cs.take (h.toNat*ao P e)).drop (l.toNat*ao P e))) else none
 | .sl id ver off n=>do
   let e ←bI P t
   let l ←bnd lo 0
   let h ←bnd hi n
   if mx.isNone∧0≤l∧l≤h∧h≤n∧0<ao P e∧off+n*ao P e≤ver then some (if l=h∧ao P e≠1 then .isl false 0 [] else .sl id ver (off+l.toNat*ao P e) (h-l).toNat) else none
 | .nils=>do
   let e ←bI P t
   let l ←bnd lo 0
   let h ←bnd hi 0
   if mx.isNone∧l=0∧h=0∧0<ao P e then some .nils else none
 |_=>none
def pk(P:Program)(t:TypeId)(a:A):Option A:=
 match a with
 | .rp cs=>
   match ga P t with
   |some (n,e)=>if 0<ao P e∧n*ao P e≤cs.length then some (.isl true n (cs.take (n*ao P e))) else none
   |none=>none
 |_=>none
def pd:A→Bool
 | .agg _=>true
 |a=>flat a
def qa(place:Nat→Option (Nat×Nat))(cells:List A):List (Nat×A)→Option (List A)
 |[]=>some cells
 |(i,v)::rest=>
  match place i with
  |none=>none
  |some (off,size)=>
   if v.cells.length=size∧off+size≤cells.length∧pd v then qa place (setCells cells off v.cells) rest else none
def bQ(P:Program)(t:TypeId):Bool:=match P.underlying t with|some (.struct fs)=>fs.all fun f=>(P.info? f.type).isSome|some (.array _ e)=>(P.info? e).isSome|_=>true
def pj(P:Program)(t:TypeId)(parts:List (Nat×A)):Option A:=do
 let z ←bk P t
 if bQ P t=false then none else
 match P.underlying t with
 |some (.struct _)=>(qa (fun i=>(bB P t i).map fun p=>(p.1,ao P p.2)) z parts).map .agg
 |some (.array _ e)=>(qa (fun i=>some (i*ao P e,ao P e)) z parts).map .agg
 |_=>none
def fI(P:Program)(t:TypeId)(len:Nat)(parts:List (Nat×A)):Option A:=do
 let e ←bI P t
 let z ←bk P e
 if len*ao P e≤65536∧z.length=ao P e then
  let cs ←qa (fun i=>some (i*ao P e,ao P e)) (List.replicate len z).flatten parts
  some (.isl true len cs)
 else none
def i7(op:BinOp)(k:IntKind)(a b:Int):Option A:=
 match op with
 | .add=>some (.int k (k.wrap (a+b)))
 | .sub=>some (.int k (k.wrap (a-b)))
 | .mul=>some (.int k (k.wrap (a*b)))
 | .quo=>if b=0 then none else some (.int k (k.wrap (a.tdiv b)))
 | .rem=>if b=0 then none else some (.int k (a.tmod b))
 | .eql=>some (.bool (a==b))
 | .neq=>some (.bool (a !=b))
 | .lss=>some (.bool (a<b))
 | .leq=>some (.bool (a≤b))
 | .gtr=>some (.bool (a>b))
 | .geq=>some (.bool (a≥b))
 |_=>none
def oK(op:BinOp)(a b:List UInt8):Option A:=
 match op with
 | .add=>if a.length+b.length≤9223372036854775807 then some (.str (a++b)) else none
 | .eql=>some (.bool (a==b))
 | .neq=>some (.bool (!(a==b)))
 | .lss=>some (.bool (Op.bytesLess a b))
 | .leq=>some (.bool (Op.bytesLess a b||a==b))
 | .gtr=>some (.bool (!(Op.bytesLess a b||a==b)))
 | .geq=>some (.bool (!Op.bytesLess a b))
 |_=>none
def CQ(P:Program)(op:BinOp)(t:TypeId)(c:Bool)(x y:A):Option A:=
 match x,y with
 | .int k a,.int k' b=>if k=k' then(match op with| .shl| .shr| .and| .or| .xor| .andNot=>none|_=>i7 op k a b) else none
 | .str a,.str b=>oK op a b
 | .bool a,.bool b=>if cv P t then(match op with| .eql=>some (.bool (a==b))| .neq=>some (.bool (!(a==b)))|_=>none) else none
 | .ifc _ _,.nili=>if dN P t then(match op with| .eql=>some (.bool false)| .neq=>some (.bool true)|_=>none) else none
 | .nili,.nili=>if dN P t∧c then(match op with| .eql=>some (.bool true)| .neq=>some (.bool false)|_=>none) else none
 | .ptr _ _,.nilp| .rptr _ _ _,.nilp| .rp _,.nilp=>if dM P t then(match op with| .eql=>some (.bool false)| .neq=>some (.bool true)|_=>none) else none
 | .nilp,.nilp=>if dM P t then(match op with| .eql=>some (.bool true)| .neq=>some (.bool false)|_=>none) else none
 |_,_=>none
def unA(op:UnOp)(x:A):Option A:=
 match op,x with
 | .neg,.int k n=>some (.int k (k.wrap (0-n)))
 | .not,.bool b=>some (.bool (!b))
 |_,_=>none
def sQ(P:Program)(src dst:TypeId)(x:A):Option A:=
 match P.underlying dst,x with
 |some (.int k),.int _ n=>if(P.underlying src).isSome then some (.int k (k.wrap n)) else none
 |some .string,.str s=>if(P.underlying src).isSome then some (.str s) else none
 |some .string,.int _ n=>if(P.underlying src).isSome then some (.str (Utf8.encode n).data.toList) else none
 |_,_=>none
def pN(P:Program)(src dst:TypeId)(x:A):Option A:=
 match x,bI P dst with
 | .str s,some e=>if gJ P e∧(P.underlying src).isSome then some (.isl false s.length (s.map fun b=> .int .u8 (b.toNat:Int))) else none
 |_,_=>none
def kV:List A→Option (List Int)
 |[]=>some []
 | .int .u8 n::r=>(kV r).map (n:: ·)
 |_=>none
def pG(P:Program)(src dst:TypeId)(x:A)(m:Mem):Option A:=
 match x with
 | .sl id ver off n=>
   match m.rw[id]?,bI P src with
   |some r,some e=>
    if gJ P e∧di P dst∧r.cs.length=ver∧off+n≤ver then(kV ((r.cs.drop off).take n)).map fun ns=> .str (ns.map fun b=>UInt8.ofNat b.toNat) else none
   |_,_=>none
 |_=>none
def qW(x:A):Option Nat:=
 match x with
 | .str s=>some s.length
 | .isl _ n _=>some n
 | .sl _ _ _ n=>some n
 | .nils=>some 0
 |_=>none
def Fu(P:Program)(t:TypeId)(x:A):Option A:=
 match P.underlying t,x with
 |some .string,.str s=>some (.int .i64 s.length)
 |some (.slice _),.isl _ n _=>some (.int .i64 n)
 |some (.slice _),.sl _ _ _ n=>some (.int .i64 n)
 |some (.slice _),.nils=>some (.int .i64 0)
 |some (.array n _),_=>some (.int .i64 n)
 |_,_=>none
def jj(size n:Nat)(x:A)(m:Mem):Option (List A):=
 match x with
 | .str s=>if size=1 then some ((s.take n).map fun b=> .int .u8 (b.toNat:Int)) else none
 | .isl _ k cs=>if cs.length=k*size∧n≤k then some (cs.take (n*size)) else none
 | .sl id ver off k=>do
   let r ←m.rw[id]?
   if r.cs.length=ver∧n≤k∧off+k*size≤r.cs.length then some ((r.cs.drop off).take (n*size)) else none
 | .nils=>if n=0 then some [] else none
 |_=>none
def ie(P:Program)(t:TypeId):Bool:=match P.underlying t with|some (.slice _)|some .string=>true|_=>false
def re(P:Program)(ts tx:TypeId)(s x:A)(m:Mem):Option (A×Mem):=do
 let e ←bI P ts
 let z ←bk P e
 let by_ ←bt P e
 let n ←qW x
 let l ←qW s
 let cs ←jj (ao P e) n x m
 if z.length=ao P e∧0<ao P e∧0<by_∧by_≤1024∧(l+n)*by_≤70368744177664∧(l+n)≤70368744177664∧cs.length=n*ao P e∧cs.all flat∧ie P tx then
  match s with
  | .nils=>if n=0 then some (s,m) else some (.sl m.rw.length (n*ao P e) 0 n,{m with rw:=m.rw++[⟨e,cs⟩]})
  | .isl true l os=>if os.length=l*ao P e then(if n=0 then some (s,m) else some (.sl m.rw.length ((l+n)*ao P e) 0 (l+n),{m with rw:=m.rw++[⟨e,os++cs⟩]})) else none
  | .sl id ver off l=>do
    let r ←m.rw[id]?
    if r.cs.length=ver∧r.el=e∧ver=off+l*ao P e∧(off=0∨ao P e=1) then some (.sl id (off+(l+n)*ao P e) off (l+n),{m with rw:=m.rw.set id ⟨e,r.cs++cs⟩})
    else if off=0∧r.cs.length=ver∧r.el=e∧l*ao P e≤ver then some (.sl id (max ver ((l+n)*ao P e)) 0 (l+n),{m with rw:=m.rw.set id ⟨e,r.cs.take (l*ao P e)++cs++r.cs.drop ((l+n)*ao P e)⟩}) else none
  |_=>none
 else none
def dW(P:Program)(t:TypeId)(l c:A)(m:Mem):Option (A×Mem):=do
 let e ←bI P t
 let z ←bk P e
 let by_ ←bt P e
 match l,c with
 | .int _ l,.int _ c=>
   if l=c∧0≤l∧l*by_≤70368744177664∧l≤70368744177664∧z.length=ao P e∧0<ao P e then
    some (.sl m.rw.length (l.toNat*ao P e) 0 l.toNat,{m with rw:=m.rw++[⟨e,(List.replicate l.toNat z).flatten⟩]})
   else none
 |_,_=>none
def Dk(x y:A):Option A:=match x,y with| .int k a,.int k' b=>if k=k' then some (.int k (if b>a then b else a)) else none|_,_=>none
def D6(x y:A):Option A:=match x,y with| .int k a,.int k' b=>if k=k' then some (.int k (if b<a then b else a)) else none|_,_=>none
def il(P:Program)(b:Builtin)(ts:List TypeId)(xs:List A)(m:Mem):Option (A×Mem):=
 match b,ts,xs with
 | .len,t::_,x::_=>(Fu P t x).map (·,m)
 | .max,_,[x,y]=>(Dk x y).map (·,m)
 | .min,_,[x,y]=>(D6 x y).map (·,m)
 | .append,ts::tx::_,s::x::_=>re P ts tx s x m
 |_,_,_=>none
def t8(c a b:A):Option A:=match c with| .bool t=>some (if t then a else b)|_=>none
def Cm(a:A):Option A:=match a with
    | .ptr id off=>some (.ptr id off)
    | .rptr id v off=>some (.rptr id v off)
    | .rp cs=>some (.rp cs)
    |_=>none
def l5(a:A)(i:Nat):Option A:=match a with| .tup vs=>vs[i]? |_=>none
def gu(P:Program)(t:TypeId):Bool:=match P.underlying t with|some (.interface _)=>true|none=>true|_=>false
def aX(P:Program)(t:TypeId):Bool:=match P.underlying t with|some .string|some (.slice _)=>true|_=>false
def oB(P:Program)(t:TypeId)(ok:Bool)(a:A):Option A:=
 match a with
 | .ifc u x=>if u=t∧gu P t=false then some (if ok then .tup [x,.bool true] else x) else none
 |_=>none
def fy:Operand→Bool| .const _=>true|_=>false
def rF(a:A)(want:Bool):Option Bool:=
 match a with
 | .bool b=>some (b==want)
 | .tup []=>some false
 |_=>none
section
variable (P:Program) (gl:Nat→A)
def opd(tm:List (Nat×A)):Operand→A
 | .tmp t=>lk t tm
 | .const v=>A.ofV v
 | .global g=>gl g
 | .func f=> .fn f []
def opA(o:Op)(ρ:Operand→A)(m:Mem):Option (A×Mem):=
 match o with
 | .move x| .assign x=>some (ρ x,m)
 | .pick c a b=>(t8 (ρ c) (ρ a) (ρ b)).map (·,m)
 | .alloc e=>(bk P e).bind fun z=>some (.ptr m.bx.length 0,{m with bx:=m.bx++[z]})
 | .box e x=>if pd (ρ x) then some (.ptr m.bx.length 0,{m with bx:=m.bx++[(ρ x).cells]}) else none
 | .build t ps=>(pj P t (ps.toList.map fun p=>(p.1,ρ p.2))).map (·,m)
 | .buildSlice t n ps=>(fI P t n (ps.toList.map fun p=>(p.1,ρ p.2))).map (·,m)
 | .load t a=>(iw P t (ρ a) m).map (·,m)
 | .store t a x=>(dY P t (ρ a) (ρ x) m).map (.tup [],·)
 | .nilCheck x=>(Cm (ρ x)).map (·,m)
 | .binOp op t x y _=>(CQ P op t (fy x||fy y) (ρ x) (ρ y)).map (·,m)
 | .unOp op _ x=>(unA op (ρ x)).map (·,m)
 | .convert s d x=>(match sQ P s d (ρ x) with|some a=>some a|none=>pN P s d (ρ x)).map (·,m)
 | .makeInterface t x=>if gu P t then none else some (.ifc t (ρ x),m)
 | .makeFunc (.func f) first caps=>if first.size=0 then some (.fn f (caps.toList.map ρ),m) else none
 | .makeSlice t l c=>dW P t (ρ l) (ρ c) m
 | .slice t x lo hi mx=>(if aX P t then pf P t (ρ x) (lo.map ρ) (hi.map ρ) (mx.map ρ) else if lo.isNone&&hi.isNone&&mx.isNone then pk P t (ρ x) else none).map (·,m)
 | .fieldAddr t x i=>(eV P t (ρ x) i).map (·,m)
 | .field t x i=>(pb P t (ρ x) i).map (·,m)
 | .indexAddr t x i=>(gQ P t (ρ x) (ρ i)).map (·,m)
 | .index t x i=>(ph P t (ρ x) (ρ i)).map (·,m)
 | .typeAssert x _ t ok=>(oB P t ok (ρ x)).map (·,m)
 | .extract t i=>(l5 (ρ t) i).map (·,m)
 | .call {callee:= .builtin b,args,argTypes}=>il P b argTypes.toList (args.toList.map ρ) m
 |_=>none
def cW(o:Oper)(all:List Oper)(tm:List (Nat×A)):Option Bool:=
 match o.guard with
 |none=>some true
 |some (j,want)=>
  match(all[j]?).bind (·.dst) with
  |none=>some false
  |some d=>rF (lk d tm) want
end
def closed(nb nr:Nat):A→Bool
 | .ifc _ x=>closed nb nr x
 | .agg cs| .tup cs| .isl _ _ cs| .rp cs| .fn _ cs=>closedL cs
 | .ptr id _=>id<nb
 | .sl id _ _ _| .rptr id _ _=>id<nr
 |_=>true
where
 closedL:List A→Bool
  |[]=>true
  |a::r=>closed nb nr a&&closedL r
def er1(nb nr:Nat)(g:Nat→Nat→Nat→Nat→A):A→A
 | .nils=> .isl false 0 []
 | .ifc t x=> .ifc t (er1 nb nr g x)
 | .agg cs=> .agg (er1L cs)
 | .tup cs=> .tup (er1L cs)
 | .isl _ n cs=> .isl false n (er1L cs)
 | .rp cs=> .rp (er1L cs)
 | .fn f cs=> .fn f (er1L cs)
 | .ptr id off=>if id<nb then .ptr id off else .undef
 | .rptr id ver off=>if id<nr then .rptr id ver off else .undef
 | .sl id ver off n=>if id<nr then .sl id ver off n else g id ver off n
 |a=>a
where
 er1L:List A→List A
  |[]=>[]
  |a::r=>er1 nb nr g a::er1L r
def erG(P:Program)(nb nr:Nat)(rw:List Row):Nat→Nat→Nat→Nat→Nat→A
 |0=>fun _ _ _ _=> .undef
 |k+1=>fun id ver off n=>
  match rw[id]? with
  |some r=>if r.cs.length=ver∧off+n*ao P r.el≤ver then .isl false n (((r.cs.drop off).take (n*ao P r.el)).map (er1 nb nr (erG P nb nr rw k))) else .undef
  |none=> .undef
def er(P:Program)(nb nr:Nat)(rw:List Row)(k:Nat):A→A:=er1 nb nr (erG P nb nr rw k)
def E3(m0 m:Mem):Prop:=
 m0.bx.length≤m.bx.length∧m0.rw.length≤m.rw.length∧
 (∀i,i<m0.bx.length→m.bx[i]? =m0.bx[i]? ∨∃cs,m.bx[i]? =some cs∧cs.all (closed m0.bx.length m0.rw.length)=true)∧
 (∀i,i<m0.rw.length→m.rw[i]? =m0.rw[i]? ∨∃r,m.rw[i]? =some r∧r.cs.all (closed m0.bx.length m0.rw.length)=true)
def Ft(m0 m:Mem):Mem:=⟨m.bx.take m0.bx.length,m.rw.take m0.rw.length⟩
structure LateAnn where
 i:Nat
 t:TypeId
 ka:Option Nat
 sa:Nat
 j:Nat
 u:TypeId
 kb:Option Nat
 sb:Nat
structure DrawAnn where
 pre:List (List Nat)
 need:List (Nat×List Nat×Bool)
 late:List LateAnn
structure Ann where
 reg:FuncId→Nat→Option (List Nat):=fun _ _=>none
 loop:FuncId→Nat→Option (List Nat):=fun _ _=>none
 draw:FuncId→Nat→DrawAnn:=fun _ _=>⟨[],[],[]⟩
 dok:FuncId→Nat→Bool:=fun _ _=>false
 keep:FuncId→Bool:=fun _=>false
 recov:FuncId→Bool:=fun _=>false
 all:FuncId→Bool:=fun _=>false
def eE:Op→Bool
 | .store .. | .alloc _| .box .. | .makeSlice .. =>true
 | .call {callee:= .builtin .append,..}=>true
 | .call {callee:= .builtin _,..}=>false
 | .call _=>true
 |_=>false
inductive EKind where
 |pure|eff
 |load (t:TypeId) (x:A)
structure Ent where
 kd:EKind
 v:A
 m:Mem
def qy(op:Op)(ρ:Operand→A):EKind:=
 match op with
 | .load t x=> .load t (ρ x)
 |op=>if eE op then .eff else .pure
def qz(op:Op):EKind:=if eE op then .eff else .pure
def iz(P:Program)(tr:List Ent)(fin:Mem):List (Nat×List Nat×Bool)→Prop
 |[]=>True
 |(p,es,f)::r=>
  (match tr[p]? with
   |some ⟨.load t x,v,_⟩=>(∀e∈es,∀en,tr[e]? =some en→iw P t x en.m=some v)∧(f=true→iw P t x fin=some v)
   |_=>True)∧iz P tr fin r
def cI(ops:Array Oper)(o:Oper):List Nat:=
 (o.op.operands.toList.filterMap fun| .tmp t=>some t|_=>none)++(match o.guard with|some (j,_)=>((ops[j]?).bind (·.dst)).toList|none=>[])
def kZ(pre:List (List Nat))(p:Nat):List Nat→List Nat×Bool
 |[]=>([],true)
 |e::r=>if(pre.getD p []).contains e then kZ pre p r else if(pre.getD e []).contains p then([e],false) else(e::(kZ pre p r).1,(kZ pre p r).2)
def kt(ops:Array Oper):List Nat:=(List.range ops.size).filter fun i=>((ops[i]?).map (eE ·.op)).getD false
def EG:Op→Bool
 | .alloc _| .makeSlice _ _ _=>true
 |_=>false
def EY(t:TypeId)(s:Nat):Op→Bool
 | .store u (.tmp k) _=>u==t&&k==s
 |_=>false
def Kl:Op→Bool
 | .load _ _=>true
 |_=>false
def Bo(ops:Array Oper)(i:Nat)(k:Option Nat)(s:Nat):Bool:=match k with
 |some k=>decide (k<i)&&decide (k<ops.size)&&((ops[k]?).getD default).dst==some s
 |none=>(List.range ops.size).all fun q=>((ops[q]?).getD default).dst !=some s
def GS(ops:Array Oper)(d:DrawAnn)(l:LateAnn):Bool:=
 let at_:Nat→Oper:=fun i=>(ops[i]?).getD default
 EY l.t l.sa (at_ l.i).op&&EY l.u l.sb (at_ l.j).op&&(at_ l.i).guard.isNone&&(at_ l.j).guard.isNone&&(at_ l.i).dst.isNone&&(at_ l.j).dst.isNone&&
 Bo ops l.i l.ka l.sa&&Bo ops l.j l.kb l.sb&&
 (List.range ops.size).all fun k=>(!(eE (at_ k).op)||k==l.i||k==l.j||(decide (k<l.i)&&(d.pre.getD l.i []).contains k&&(d.pre.getD l.j []).contains k))&&(!(Kl (at_ k).op)||(d.pre.getD l.j []).contains k)
def gr(tr:List Ent)(tm:List (Nat×A))(k:Option Nat)(s:Nat):A:=match k with
 |some k=>((tr[k]?).map (·.v)).getD .undef
 |none=>lk s tm
def n8(n k:Nat)(a b:A):Prop:=match a,b with
 | .ptr _ _,.rptr _ _ _=>True
 | .rptr _ _ _,.ptr _ _=>True
 | .ptr i o,.ptr j q=>i≠j∨o+n≤q∨q+k≤o
 | .rptr i _ o,.rptr j _ q=>i≠j∨o+n≤q∨q+k≤o
 |_,_=>False
def iR(P:Program)(tr:List Ent)(tm:List (Nat×A)):List LateAnn→Prop
 |[]=>True
 |l::r=>n8 (ao P l.t) (ao P l.u) (gr tr tm l.ka l.sa) (gr tr tm l.kb l.sb)∧iR P tr tm r
def sE(ops:Array Oper)(d:DrawAnn):Bool:=
 let n:=ops.size
 let at_:=fun i=>(ops[i]?).getD default
 (List.range n).all fun i=>
  (at_ i).after.toList.all (fun e=> !Region.binds .any e||decide (e.on<i))&&
  (d.pre.getD i []).all (fun j=>(at_ i).after.toList.any fun e=>Region.binds .any e&&(e.on==j||(d.pre.getD e.on []).contains j))&&
  (List.range n).all (fun j=>i==j||(at_ i).dst.isNone||(at_ i).dst !=(at_ j).dst)&&
  (cI ops (at_ i)).all (fun t=>(List.range n).all fun j=>(at_ j).dst !=some t||(decide (j<i)&&(d.pre.getD i []).contains j)||(decide (i<j)&&(d.pre.getD j []).contains i))&&
  (List.range n).all (fun j=> !(eE (at_ i).op)|| !(eE (at_ j).op)|| !decide (i<j)||(d.pre.getD j []).contains i||
   (EG (at_ j).op&&(at_ j).guard.isNone&&(List.range n).all fun k=>(cI ops (at_ k)).all fun t=>(at_ j).dst !=some t||(List.range j).all fun e=> !(eE (at_ e).op)||(d.pre.getD k []).contains e)||
   d.late.any fun l=>l.i==i&&l.j==j&&GS ops d l)&&
  (match(at_ i).op with| .load .. =>d.need.any fun p=>p.1==i&&p.2.1==(kZ d.pre i (kt ops)).1&&p.2.2==(kZ d.pre i (kt ops)).2|_=>true)&&
  (match(at_ i).op with| .panic _=>false|_=>true)
def prune(k:Option (List Nat))(tm:List (Nat×A)):List (Nat×A):=
 match k with
 |none=>tm
 |some l=>l.map fun t=>(t,lk t tm)
open Classical in
noncomputable def endRound(k:Option (List Nat))(m0:Mem)(s:St):Option St:=
 match k with
 |none=>some s
 |some l=>
  if(∀t∈l,closed m0.bx.length s.m.rw.length (lk t s.tm)=true)∧m0.bx.length≤s.m.bx.length∧
   (∀i,i<m0.bx.length→s.m.bx[i]? =m0.bx[i]? ∨∃cs,s.m.bx[i]? =some cs∧cs.all (closed m0.bx.length s.m.rw.length)=true)∧
   (∀i,i<s.m.rw.length→s.m.rw[i]? =m0.rw[i]? ∨∃r,s.m.rw[i]? =some r∧r.cs.all (closed m0.bx.length s.m.rw.length)=true)
  then some ⟨prune k s.tm,⟨s.m.bx.take m0.bx.length,s.m.rw⟩⟩ else none
def cu:Code→Nat
 | .block _ b=>cu b
 | .seq a _=>cu a
 | .region id _ _=>id
 |_=>0
def Ad(P:Program)(tm:List (Nat×A))(m:Mem):ResultVar→Option A
 | .tmp t=>some (lk t tm)
 | .cell a t=>iw P t (lk a tm) m
def wW(P:Program)(tm:List (Nat×A))(m:Mem):List ResultVar→Option (List A)
 |[]=>some []
 |r::l=>(Ad P tm m r).bind fun a=>(wW P tm m l).map (a:: ·)
def bl(P:Program)(rs:List ResultVar)(tm:List (Nat×A))(m:Mem):Option A:=
 match rs with
 |[r]=>Ad P tm m r
 |rs=>(wW P tm m rs).map .tup
def erR(e:A→A):Res→Res
 | .ret a=> .ret (e a)
 | .pan a=> .pan (e a)
def G1(m0 m:Mem):Prop:=
 m0.bx.length≤m.bx.length∧
 (∀i,i<m0.bx.length→m.bx[i]? =m0.bx[i]? ∨∃cs,m.bx[i]? =some cs∧cs.all (closed m0.bx.length m.rw.length)=true)∧
 (∀i,i<m.rw.length→m.rw[i]? =m0.rw[i]? ∨∃r,m.rw[i]? =some r∧r.cs.all (closed m0.bx.length m.rw.length)=true)
def Res.val:Res→A
 | .ret a=>a
 | .pan a=>a
open Classical in
noncomputable def bC(P:Program)(keep:Bool)(m0:Mem)(r:Res)(m:Mem):Option (Res×Mem):=
 if keep then(if G1 m0 m∧closed m0.bx.length m.rw.length r.val=true then some (r,⟨m.bx.take m0.bx.length,m.rw⟩) else none)
 else if E3 m0 m then
  let e:=er P m0.bx.length m0.rw.length m.rw 4
  some (erR e r,Ft m0 m)
 else none
structure Cfg where
 P:Program
 gl:Nat→A
 ann:Ann
 ext:FuncId→Option (List A→Mem→Option (Res×Mem))
noncomputable def jE(C:Cfg)(f:FuncId)(m0:Mem)(r:Res)(m:Mem):Option (Res×Mem):=if C.ann.all f then some (r,m) else bC C.P (C.ann.keep f) m0 r m
def bi(n:Nat):List A→List (Nat×A)
 |[]=>[]
 |a::r=>(n,a)::bi (n+1) r
def dG(P:Program)(gl:Nat→A)(nt:Nat)(d:DrawAnn)(all:List Oper)(p:Nat):Nat→List Oper→St→Option (List Ent×St)
 |_,[],s=>some ([],s)
 |i,o::rest,s=>
  if o.dst.all (· <nt) then
   if(d.pre.getD i []).contains p then(dG P gl nt d all p (i+1) rest ⟨put o.dst .undef s.tm,s.m⟩).map fun y=>(⟨qz o.op,.undef,s.m⟩::y.1,y.2)
   else if eE o.op then none
   else
    match cW o all s.tm with
    |some true=>(opA P o.op (opd gl s.tm) s.m).bind fun x=>(dG P gl nt d all p (i+1) rest ⟨put o.dst x.1 s.tm,x.2⟩).map fun y=>(⟨qy o.op (opd gl s.tm),x.1,s.m⟩::y.1,y.2)
    |some false=>(dG P gl nt d all p (i+1) rest ⟨put o.dst (.tup []) s.tm,s.m⟩).map fun y=>(⟨qz o.op,.tup [],s.m⟩::y.1,y.2)
    |none=>none
  else none
def eH(all:List Oper)(tm:List (Nat×A)):List (Nat×A):=(all.filterMap fun o=>o.dst.map fun t=>(t,A.undef))++tm
open Classical in
noncomputable def hS(P:Program)(gl:Nat→A)(nt:Nat)(ok:Bool)(d:DrawAnn)(all:List Oper)(tr:List Ent)(k:Option (List Nat))(y:Option (A×Mem)×St):Option (Ex×St):=
 match y with
 |(none,s)=>if ok=true∧iz P tr s.m d.need∧iR P tr s.tm d.late then some (.normal,⟨prune k s.tm,s.m⟩) else none
 |(some (a,m),s)=>(dG P gl nt d all (tr.length-1) tr.length (all.drop tr.length) s).bind fun z=>
  if ok=true∧iz P (tr++z.1) z.2.m d.need then some (.pan a,⟨eH all s.tm,m⟩) else none
def li:A→Option A
 | .ifc t x=>some (.ifc t x)
 |_=>none
def iI:Code→Option (Nat×FuncId×List Operand)
 | .region _ ops false=>
   match ops.toList with
   |[⟨some t,.makeFunc (.func g) first caps,_,_,_,none⟩,⟨none,.defer {callee:= .value (.tmp u),args,argTypes},_,_,_,none⟩]=>
    if t=u∧first.size=0∧args.size=0 then some (t,g,caps.toList) else none
   |_=>none
 |_=>none
def d9(P:Program)(g:FuncId):Option (Nat×Nat×Nat×Code):=
 match P.funcs[g]? with
 |none=>none
 |some fn=>
  if fn.name= "runtime.NumGoroutine" ∨fn.results.size≠0 then none else
  match fn.body with
  |some (.seq (.region _ ops false) rest)=>
   match ops.toList with
   |[⟨some t,.call {callee:= .builtin .recover,args,argTypes},_,_,_,none⟩,⟨some d,.assign (.tmp u),_,_,_,none⟩]=>
    if t=u∧t<fn.ntmps∧d<fn.ntmps∧args.size=0∧argTypes.size=0 then some (fn.ntmps,t,d,rest) else none
   |_=>none
  |_=>none
def iT:Ex→Option A
 | .normal| .ret=>some .nili
 | .pan a=>some a
 | .exit _=>none
mutual
noncomputable def ai(C:Cfg)(f:FuncId)(args:List A)(m:Mem):Option (Res×Mem):=
 match C.ext f with
 |some g=>g args m
 |none=>
  match C.P.funcs[f]? with
  |none=>none
  |some fn=>
   match fn.body with
   |none=>none
   |some c=>
    if fn.name= "runtime.NumGoroutine" ∨fn.ntmps<args.length then none else
    (if C.ann.recov f then lf C f fn.ntmps c ⟨bi 0 args,m⟩ else ak C f fn.ntmps c ⟨bi 0 args,m⟩)>>=fun x=>
     match x.1 with
     | .normal| .ret=>(bl C.P fn.results.toList x.2.tm x.2.m)>>=fun a=>jE C f m (.ret a) x.2.m
     | .pan a=>jE C f m (.pan a) x.2.m
     | .exit _=>none
 partial_fixpoint
noncomputable def lf(C:Cfg)(f:FuncId)(nt:Nat)(c:Code)(s:St):Option (Ex×St):=
 match c with
 | .seq a b=>
   match iI a with
   |some d=>
    if d.1<nt then
     (ak C f nt b ⟨put (some d.1) (.fn d.2.1 (d.2.2.map (opd C.gl s.tm))) s.tm,s.m⟩)>>=fun x=>
      match iT x.1,d9 C.P d.2.1 with
      |some v,some r=>
       if d.2.2.length≤r.1 then
        (ak C d.2.1 r.1 r.2.2.2 ⟨put (some r.2.2.1) v (put (some r.2.1) v (bi 0 (d.2.2.map (opd C.gl s.tm)))),x.2.m⟩)>>=fun y=>
         match y.1 with
         | .normal| .ret=>some (.ret,⟨x.2.tm,y.2.m⟩)
         |_=>none
       else none
      |_,_=>none
    else none
   |none=>
    (ak C f nt a s)>>=fun x=>
     match x.1 with
     | .normal=>lf C f nt b x.2
     |e=>some (e,x.2)
 |c=>ak C f nt c s
 partial_fixpoint
noncomputable def ak(C:Cfg)(f:FuncId)(nt:Nat)(c:Code)(s:St):Option (Ex×St):=
 match c with
 | .skip=>some (.normal,s)
 | .region id ops draw=>
   if draw then
    (dw C f nt ops.toList ops.toList s)>>=fun y=>
     hS C.P C.gl nt (C.ann.dok f id) (C.ann.draw f id) ops.toList y.1 (C.ann.reg f id) y.2
   else
   (dD C f nt ops.toList ops.toList s)>>=fun x=>
    match x.1 with
    | .normal=>some (.normal,⟨prune (C.ann.reg f id) x.2.tm,x.2.m⟩)
    |e=>some (e,x.2)
 | .seq a b=>
   (ak C f nt a s)>>=fun x=>
    match x.1 with
    | .normal=>ak C f nt b x.2
    |e=>some (e,x.2)
 | .cond c a b=>
   match opd C.gl s.tm c with
   | .bool t=>if t then ak C f nt a s else ak C f nt b s
   |_=>none
 | .block id b=>
   (ak C f nt b s)>>=fun x=>
    match x.1 with
    | .exit i=>if i=id then some (.normal,x.2) else some (.exit i,x.2)
    |e=>some (e,x.2)
 | .loop b=>
   (ak C f nt b ⟨prune (C.ann.loop f (cu b)) s.tm,s.m⟩)>>=fun x=>
    match x.1 with
    | .normal=>(endRound (C.ann.loop f (cu b)) s.m x.2)>>=fun s1=>ak C f nt (.loop b) s1
    |e=>some (e,x.2)
 | .exit id=>some (.exit id,s)
 | .ret=>some (.ret,s)
 | .label _=>some (.normal,s)
 | .scope b=>ak C f nt b s
 |_=>none
 partial_fixpoint
noncomputable def dD(C:Cfg)(f:FuncId)(nt:Nat)(all l:List Oper)(s:St):Option (Ex×St):=
 match l with
 |[]=>some (.normal,s)
 |o::rest=>
  match o.dst.all (· <nt),cW o all s.tm with
  |true,some true=>
   match o.op with
   | .panic x=>(li (opd C.gl s.tm x)).map fun a=>(.pan a,s)
   | .call {callee:= .value g,args,argTypes}=>
     match opd C.gl s.tm g with
     | .fn h caps=>
       (ai C h (args.toList.map (opd C.gl s.tm)++caps) s.m)>>=fun x=>
        match x.1 with
        | .ret a=>dD C f nt all rest ⟨put o.dst a s.tm,x.2⟩
        | .pan a=>some (.pan a,⟨s.tm,x.2⟩)
     |_=>none
   | .convert t u x=>
     match pG C.P t u (opd C.gl s.tm x) s.m with
     |some a=>dD C f nt all rest ⟨put o.dst a s.tm,s.m⟩
     |none=>(opA C.P (.convert t u x) (opd C.gl s.tm) s.m)>>=fun x=>dD C f nt all rest ⟨put o.dst x.1 s.tm,x.2⟩
   |op=>(opA C.P op (opd C.gl s.tm) s.m)>>=fun x=>dD C f nt all rest ⟨put o.dst x.1 s.tm,x.2⟩
  |true,some false=>dD C f nt all rest ⟨put o.dst (.tup []) s.tm,s.m⟩
  |_,_=>none
 partial_fixpoint
noncomputable def dw(C:Cfg)(f:FuncId)(nt:Nat)(all l:List Oper)(s:St):Option (List Ent×Option (A×Mem)×St):=
 match l with
 |[]=>some ([],none,s)
 |o::rest=>
  match o.dst.all (· <nt),cW o all s.tm with
  |true,some true=>
   match o.op with
   | .call {callee:= .value g,args,argTypes}=>
     match opd C.gl s.tm g with
     | .fn h caps=>
       (ai C h (args.toList.map (opd C.gl s.tm)++caps) s.m)>>=fun x=>
        match x.1 with
        | .ret a=>(dw C f nt all rest ⟨put o.dst a s.tm,x.2⟩)>>=fun y=>some (⟨.eff,a,s.m⟩::y.1,y.2)
        | .pan a=>some ([⟨.eff,.undef,s.m⟩],some (a,x.2),⟨put o.dst .undef s.tm,s.m⟩)
     |_=>none
   |op=>(opA C.P op (opd C.gl s.tm) s.m)>>=fun x=>(dw C f nt all rest ⟨put o.dst x.1 s.tm,x.2⟩)>>=fun y=>some (⟨qy op (opd C.gl s.tm),x.1,s.m⟩::y.1,y.2)
  |true,some false=>(dw C f nt all rest ⟨put o.dst (.tup []) s.tm,s.m⟩)>>=fun y=>some (⟨qz o.op,.tup [],s.m⟩::y.1,y.2)
  |_,_=>none
 partial_fixpoint
end
end AE
end Go.Proofs.YtmfdpijmholedaaGreatDoor
