/- The evaluator, step by step: equations by which simp runs it. -/
import Derived.Test.YtmfdpijmholedaaGreatDoorAE1
import Derived.Test.YtmfdpijmholedaaGreatDoorAN
set_option linter.unusedVariables false
set_option linter.unusedSimpArgs false
namespace Go.Proofs.YtmfdpijmholedaaGreatDoor
namespace AE
open Go
section
variable (C:Cfg) (f nt:Nat)
@[simp] theorem G0(s:St):ak C f nt .skip s=some (.normal,s):=by rw[ak]
@[simp] theorem Gw(i:Nat)(s:St):ak C f nt (.exit i) s=some (.exit i,s):=by rw[ak]
@[simp] theorem Ih(s:St):ak C f nt .ret s=some (.ret,s):=by rw[ak]
@[simp] theorem F2(l:Nat)(s:St):ak C f nt (.label l) s=some (.normal,s):=by rw[ak]
@[simp] theorem Gf(b:Code)(s:St):ak C f nt (.scope b) s=ak C f nt b s:=by rw[ak]
noncomputable def andThen(x:Option (Ex×St))(g:St→Option (Ex×St)):Option (Ex×St):=
 x.bind fun x=>match x.1 with| .normal=>g x.2|e=>some (e,x.2)
@[congr] theorem Fg{x x':Option (Ex×St)}(g:St→Option (Ex×St))(h:x=x'):andThen x g=andThen x' g:=by rw[h]
@[simp ↓] theorem sV(s:St)(g:St→Option (Ex×St)):andThen (some (.normal,s)) g=g s:=_root_.id rfl
@[simp ↓] theorem Fx(i:Nat)(s:St)(g:St→Option (Ex×St)):andThen (some (.exit i,s)) g=some (.exit i,s):=_root_.id rfl
@[simp ↓] theorem GV(s:St)(g:St→Option (Ex×St)):andThen (some (.ret,s)) g=some (.ret,s):=_root_.id rfl
@[simp ↓] theorem Gv(a:A)(s:St)(g:St→Option (Ex×St)):andThen (some (.pan a,s)) g=some (.pan a,s):=_root_.id rfl
@[simp ↓] theorem Ga(g:St→Option (Ex×St)):andThen none g=none:=_root_.id rfl
@[simp] theorem tJ(x:Option (Ex×St))(g k:St→Option (Ex×St)):andThen (andThen x g) k=andThen x fun s=>andThen (g s) k:=by
 rcases x with _|⟨e,s⟩
 ·rfl
 ·cases e<;>rfl
@[simp] theorem H5(a b:Code)(s:St):ak C f nt (.seq a b) s=andThen (ak C f nt a s) (ak C f nt b):=by
 rw[ak]
 show Option.bind _ _=Option.bind _ _
 congr
@[simp] theorem Fd(id:Nat)(ops:Array Oper)(s:St):ak C f nt (.region id ops false) s=andThen (dD C f nt ops.toList ops.toList s) fun s=>some (.normal,⟨prune (C.ann.reg f id) s.tm,s.m⟩):=by
 rw[ak]
 simp only[Bool.false_eq_true,if_false]
 show Option.bind _ _=Option.bind _ _
 congr
@[simp] theorem GC(id:Nat)(ops:Array Oper)(s:St):ak C f nt (.region id ops true) s=(dw C f nt ops.toList ops.toList s).bind fun y=>hS C.P C.gl nt (C.ann.dok f id) (C.ann.draw f id) ops.toList y.1 (C.ann.reg f id) y.2:=by
 rw[ak]
 rfl
def AX(a:A)(x y:Option (Ex×St)):Option (Ex×St):=
 match a with
 | .bool t=>if t then x else y
 |_=>none
@[congr] theorem GZ{a a':A}(x y:Option (Ex×St))(h:a=a'):AX a x y=AX a' x y:=by rw[h]
@[simp ↓] theorem Ip(t:Bool)(x y:Option (Ex×St)):AX (.bool t) x y=if t then x else y:=_root_.id rfl
@[simp] theorem Hf(c:Operand)(a b:Code)(s:St):ak C f nt (.cond c a b) s=AX (opd C.gl s.tm c) (ak C f nt a s) (ak C f nt b s):=by
 rw[ak];rfl
def cp(id:Nat)(x:Option (Ex×St)):Option (Ex×St):=
 x.bind fun x=>match x.1 with| .exit i=>if i=id then some (.normal,x.2) else some (.exit i,x.2)|e=>some (e,x.2)
@[simp ↓] theorem D7(id:Nat)(s:St):cp id (some (.normal,s))=some (.normal,s):=_root_.id rfl
@[simp ↓] theorem GU(id:Nat)(s:St):cp id (some (.ret,s))=some (.ret,s):=_root_.id rfl
@[simp ↓] theorem G7(id:Nat)(a:A)(s:St):cp id (some (.pan a,s))=some (.pan a,s):=_root_.id rfl
@[simp ↓] theorem Gk(id i:Nat)(s:St):cp id (some (.exit i,s))=if i=id then some (.normal,s) else some (.exit i,s):=_root_.id rfl
@[simp] theorem Gn(id:Nat)(b:Code)(s:St):ak C f nt (.block id b) s=cp id (ak C f nt b s):=by
 rw[ak]
 show Option.bind _ _=Option.bind _ _
 congr
noncomputable def round(b:Code)(s:St):Option (Ex×St):=
 andThen (ak C f nt b s) fun s1=>(endRound (C.ann.loop f (cu b)) s.m s1).map fun s2=>(.normal,s2)
theorem aG(b:Code)(s:St):ak C f nt (.loop b) s=andThen (round C f nt b ⟨prune (C.ann.loop f (cu b)) s.tm,s.m⟩) (ak C f nt (.loop b)):=by
 rw[ak,round,tJ]
 show Option.bind _ _=Option.bind _ _
 congr
 funext x
 rcases x with⟨e,s'⟩
 cases e<;>try rfl
 show Option.bind _ _=andThen (Option.map _ _) _
 cases h:endRound (C.ann.loop f (cu b)) s.m s'<;>simp[h]
theorem KZ {b:Code} {s:St} (I:Nat→St) (n:Nat) (h0:s=I 0) (hI:∀i,i<n→prune (C.ann.loop f (cu b)) (I i).tm=(I i).tm)
  (hs:∀i,i<n→round C f nt b (I i)=some (.normal,I (i+1))):ak C f nt (.loop b) s=ak C f nt (.loop b) (I n):=by
 subst h0
 have key:∀j i,i+j=n→ak C f nt (.loop b) (I i)=ak C f nt (.loop b) (I n):=by
  intro j
  induction j with
  |zero=>intro i hi;obtain rfl:i=n:=by omega
         rfl
  |succ j ih=>
   intro i hi
   rw[aG,hI _ (by omega)]
   show andThen (round C f nt b (I i)) _=_
   rw[hs i (by omega),sV]
   exact ih (i+1) (by omega)
 exact key n 0 (by omega)
theorem rY {β σ:Type} {b:Code} (F:Option (Ex×St)→β) (S:σ→St) (G:σ→β) (meas:σ→Nat) (I:σ→Prop) (hp:∀x,prune (C.ann.loop f (cu b)) (S x).tm=(S x).tm)
  (h:∀x,I x→(∀y,meas y<meas x→I y→F (ak C f nt (.loop b) (S y))=G y)→F (andThen (round C f nt b (S x)) (ak C f nt (.loop b)))=G x) (x:σ) (hI:I x):F (ak C f nt (.loop b) (S x))=G x:=by
 have key:∀n x,meas x≤n→I x→F (ak C f nt (.loop b) (S x))=G x:=by
  intro n
  induction n with
  |zero=>
   intro x hx hI
   rw[aG,hp]
   exact h x hI fun y hy=>by omega
  |succ n ih=>
   intro x hx hI
   rw[aG,hp]
   exact h x hI fun y hy=>ih y (by omega)
 exact key (meas x) x (Nat.le_refl _) hI
@[simp] theorem Js(all:List Oper)(s:St):dD C f nt all [] s=some (.normal,s):=by rw[dD]
def uK(w:Option Bool)(x y:Option (Ex×St)):Option (Ex×St):=
 match w with
 |some true=>x
 |some false=>y
 |none=>none
@[congr] theorem Hb{a a':Option Bool}(x y:Option (Ex×St))(h:a=a'):uK a x y=uK a' x y:=by rw[h]
@[simp ↓] theorem H1(x y:Option (Ex×St)):uK (some true) x y=x:=_root_.id rfl
@[simp ↓] theorem GN(x y:Option (Ex×St)):uK (some false) x y=y:=_root_.id rfl
@[simp] theorem G9(b want:Bool):rF (.bool b) want=some (b==want):=_root_.id rfl
@[simp] theorem G2(want:Bool):rF (.tup []) want=some false:=_root_.id rfl
noncomputable def opK(f nt:Nat)(all rest:List Oper)(d:Option Tmp)(op:Op)(s:St):Option (Ex×St):=
 match op with
 | .panic x=>(li (opd C.gl s.tm x)).map fun a=>(.pan a,s)
 | .call {callee:= .value g,args,argTypes}=>
   match opd C.gl s.tm g with
   | .fn h caps=>
     (ai C h (args.toList.map (opd C.gl s.tm)++caps) s.m).bind fun x=>
      match x.1 with
      | .ret a=>dD C f nt all rest ⟨put d a s.tm,x.2⟩
      | .pan a=>some (.pan a,⟨s.tm,x.2⟩)
   |_=>none
 | .convert t u x=>
   match pG C.P t u (opd C.gl s.tm x) s.m with
   |some a=>dD C f nt all rest ⟨put d a s.tm,s.m⟩
   |none=>(opA C.P (.convert t u x) (opd C.gl s.tm) s.m).bind fun x=>dD C f nt all rest ⟨put d x.1 s.tm,x.2⟩
 |op=>(opA C.P op (opd C.gl s.tm) s.m).bind fun x=>dD C f nt all rest ⟨put d x.1 s.tm,x.2⟩
theorem AM(all rest:List Oper)(d:Option Tmp)(op:Op)(ty:TypeId)(pos:String)(af:Array Edge)(g:Option (Nat×Bool))(s:St)(hd:d.all (· <nt)=true):
  dD C f nt all (⟨d,op,ty,pos,af,g⟩::rest) s=uK (cW ⟨d,op,ty,pos,af,g⟩ all s.tm) (opK C f nt all rest d op s) (dD C f nt all rest ⟨put d (.tup []) s.tm,s.m⟩):=by
 rw[dD]
 simp only[hd]
 cases h:cW ⟨d,op,ty,pos,af,g⟩ all s.tm with
 |none=>rfl
 |some b=>
  cases b
  ·rfl
  ·simp only[uK,opK]
   rfl
@[simp] theorem H9(d:Option Tmp)(op:Op)(ty:TypeId)(pos:String)(af:Array Edge)(all:List Oper)(tm:List (Nat×A)):cW ⟨d,op,ty,pos,af,none⟩ all tm=some true:=_root_.id rfl
theorem zG(d:Option Tmp)(op:Op)(ty:TypeId)(pos:String)(af:Array Edge)(all:List Oper)(tm:List (Nat×A))(j:Nat)(w:Bool):
  cW ⟨d,op,ty,pos,af,some (j,w)⟩ all tm=match(all[j]?).bind (·.dst) with|none=>some false|some d=>rF (lk d tm) w:=by
 simp only[cW]
 cases h:(all[j]?).bind (·.dst)<;>rfl
noncomputable def dC(f nt:Nat)(all rest:List Oper)(d:Option Tmp)(m:Mem)(tm:List (Nat×A))(x:Option (A×Mem)):Option (Ex×St):=
 x.bind fun x=>dD C f nt all rest ⟨put d x.1 tm,x.2⟩
@[congr] theorem GW(all rest:List Oper)(d:Option Tmp)(m:Mem)(tm:List (Nat×A)){x x':Option (A×Mem)}(h:x=x'):dC C f nt all rest d m tm x=dC C f nt all rest d m tm x':=by rw[h]
@[simp ↓] theorem HY(all rest:List Oper)(d:Option Tmp)(m m':Mem)(tm:List (Nat×A))(a:A):dC C f nt all rest d m tm (some (a,m'))=dD C f nt all rest ⟨put d a tm,m'⟩:=_root_.id rfl
@[simp ↓] theorem Ib(all rest:List Oper)(d:Option Tmp)(m:Mem)(tm:List (Nat×A)):dC C f nt all rest d m tm none=none:=_root_.id rfl
section
variable (all rest:List Oper) (d:Option Tmp) (tm:List (Nat×A)) (m:Mem)
@[simp] theorem J2(x:Operand):opK C f nt all rest d (.move x) ⟨tm,m⟩=dD C f nt all rest ⟨put d (opd C.gl tm x) tm,m⟩:=_root_.id rfl
@[simp] theorem Hq(x:Operand):opK C f nt all rest d (.assign x) ⟨tm,m⟩=dD C f nt all rest ⟨put d (opd C.gl tm x) tm,m⟩:=_root_.id rfl
@[simp] theorem H2(t:Bool)(a b:A):t8 (.bool t) a b=some (if t then a else b):=_root_.id rfl
@[simp] theorem KJ(c a b:Operand):opK C f nt all rest d (.pick c a b) ⟨tm,m⟩=dC C f nt all rest d m tm ((t8 (opd C.gl tm c) (opd C.gl tm a) (opd C.gl tm b)).map (·,m)):=_root_.id rfl
@[simp] theorem I1(e:TypeId):opK C f nt all rest d (.alloc e) ⟨tm,m⟩=dC C f nt all rest d m tm ((bk C.P e).bind fun z=>some (.ptr m.bx.length 0,⟨m.bx++[z],m.rw⟩)):=_root_.id rfl
@[simp] theorem K7(e:TypeId)(x:Operand):opK C f nt all rest d (.box e x) ⟨tm,m⟩=dC C f nt all rest d m tm (if pd (opd C.gl tm x) then some (.ptr m.bx.length 0,⟨m.bx++[(opd C.gl tm x).cells],m.rw⟩) else none):=_root_.id rfl
@[simp] theorem IW(t:TypeId)(ps:Array (Nat×Operand)):opK C f nt all rest d (.build t ps) ⟨tm,m⟩=dC C f nt all rest d m tm ((pj C.P t (ps.toList.map fun p=>(p.1,opd C.gl tm p.2))).map (·,m)):=_root_.id rfl
@[simp] theorem Ef(t:TypeId)(n:Nat)(ps:Array (Nat×Operand)):opK C f nt all rest d (.buildSlice t n ps) ⟨tm,m⟩=dC C f nt all rest d m tm ((fI C.P t n (ps.toList.map fun p=>(p.1,opd C.gl tm p.2))).map (·,m)):=_root_.id rfl
@[simp] theorem Ki(t:TypeId)(a:Operand):opK C f nt all rest d (.load t a) ⟨tm,m⟩=dC C f nt all rest d m tm ((iw C.P t (opd C.gl tm a) m).map (·,m)):=_root_.id rfl
@[simp] theorem Jz(t:TypeId)(a x:Operand):opK C f nt all rest d (.store t a x) ⟨tm,m⟩=dC C f nt all rest d m tm ((dY C.P t (opd C.gl tm a) (opd C.gl tm x) m).map (.tup [],·)):=_root_.id rfl
@[simp] theorem FE(x:Operand):opK C f nt all rest d (.nilCheck x) ⟨tm,m⟩=dC C f nt all rest d m tm ((Cm (opd C.gl tm x)).map (·,m)):=_root_.id rfl
@[simp] theorem Jr(o:BinOp)(t u:TypeId)(x y:Operand):opK C f nt all rest d (.binOp o t x y u) ⟨tm,m⟩=dC C f nt all rest d m tm ((CQ C.P o t (fy x||fy y) (opd C.gl tm x) (opd C.gl tm y)).map (·,m)):=_root_.id rfl
@[simp] theorem Kx(o:UnOp)(t:TypeId)(x:Operand):opK C f nt all rest d (.unOp o t x) ⟨tm,m⟩=dC C f nt all rest d m tm ((unA o (opd C.gl tm x)).map (·,m)):=_root_.id rfl
noncomputable def Dq(f nt:Nat)(all rest:List Oper)(d:Option Tmp)(m:Mem)(tm:List (Nat×A))(x:Option A)(y:Option (Ex×St)):Option (Ex×St):=
 match x with
 |some a=>dD C f nt all rest ⟨put d a tm,m⟩
 |none=>y
@[congr] theorem HC{x x':Option A}(y:Option (Ex×St))(h:x=x'):Dq C f nt all rest d m tm x y=Dq C f nt all rest d m tm x' y:=by rw[h]
@[simp ↓] theorem IU(a:A)(y:Option (Ex×St)):Dq C f nt all rest d m tm (some a) y=dD C f nt all rest ⟨put d a tm,m⟩:=_root_.id rfl
@[simp ↓] theorem JF(y:Option (Ex×St)):Dq C f nt all rest d m tm none y=y:=_root_.id rfl
@[simp] theorem JM(P:Program)(t u:TypeId)(k:IntKind)(n:Int):pG P t u (.int k n) m=none:=_root_.id rfl
@[simp] theorem Kz(P:Program)(t u:TypeId)(s:List UInt8):pG P t u (.str s) m=none:=_root_.id rfl
@[simp] theorem Gs(t u:TypeId)(x:Operand):opK C f nt all rest d (.convert t u x) ⟨tm,m⟩=Dq C f nt all rest d m tm (pG C.P t u (opd C.gl tm x) m) (dC C f nt all rest d m tm ((match sQ C.P t u (opd C.gl tm x) with|some a=>some a|none=>pN C.P t u (opd C.gl tm x)).map (·,m))):=_root_.id rfl
@[simp] theorem Fc(t:TypeId)(x:Operand)(i:Nat):opK C f nt all rest d (.fieldAddr t x i) ⟨tm,m⟩=dC C f nt all rest d m tm ((eV C.P t (opd C.gl tm x) i).map (·,m)):=_root_.id rfl
@[simp] theorem Jw(t:TypeId)(x:Operand)(i:Nat):opK C f nt all rest d (.field t x i) ⟨tm,m⟩=dC C f nt all rest d m tm ((pb C.P t (opd C.gl tm x) i).map (·,m)):=_root_.id rfl
@[simp] theorem Fp(t:TypeId)(x i:Operand):opK C f nt all rest d (.indexAddr t x i) ⟨tm,m⟩=dC C f nt all rest d m tm ((gQ C.P t (opd C.gl tm x) (opd C.gl tm i)).map (·,m)):=_root_.id rfl
@[simp] theorem Jg(t:TypeId)(x i:Operand):opK C f nt all rest d (.index t x i) ⟨tm,m⟩=dC C f nt all rest d m tm ((ph C.P t (opd C.gl tm x) (opd C.gl tm i)).map (·,m)):=_root_.id rfl
@[simp] theorem Dz(x:Operand)(xt t:TypeId)(ok:Bool):opK C f nt all rest d (.typeAssert x xt t ok) ⟨tm,m⟩=dC C f nt all rest d m tm ((oB C.P t ok (opd C.gl tm x)).map (·,m)):=_root_.id rfl
@[simp] theorem GJ(x:Operand)(i:Nat):opK C f nt all rest d (.extract x i) ⟨tm,m⟩=dC C f nt all rest d m tm ((l5 (opd C.gl tm x) i).map (·,m)):=_root_.id rfl
@[simp] theorem FL(g:FuncId)(first caps:Array Operand):opK C f nt all rest d (.makeFunc (.func g) first caps) ⟨tm,m⟩=dC C f nt all rest d m tm (if first.size=0 then some (.fn g (caps.toList.map (opd C.gl tm)),m) else none):=_root_.id rfl
@[simp] theorem Fq(t:TypeId)(l c:Operand):opK C f nt all rest d (.makeSlice t l c) ⟨tm,m⟩=dC C f nt all rest d m tm (dW C.P t (opd C.gl tm l) (opd C.gl tm c) m):=_root_.id rfl
@[simp] theorem BO(t:TypeId)(x:Operand):opK C f nt all rest d (.makeInterface t x) ⟨tm,m⟩=dC C f nt all rest d m tm (if gu C.P t then none else some (.ifc t (opd C.gl tm x),m)):=by
 simp only[opK,opA,dC]
@[simp] theorem Iy(t:TypeId)(x:Operand)(lo hi mx:Option Operand):opK C f nt all rest d (.slice t x lo hi mx) ⟨tm,m⟩=dC C f nt all rest d m tm ((if aX C.P t then pf C.P t (opd C.gl tm x) (lo.map (opd C.gl tm)) (hi.map (opd C.gl tm)) (mx.map (opd C.gl tm)) else if lo.isNone&&hi.isNone&&mx.isNone then pk C.P t (opd C.gl tm x) else none).map (·,m)):=_root_.id rfl
@[simp] theorem GQ(b:Builtin)(xs:Array Operand)(ts:Array TypeId):opK C f nt all rest d (.call {callee:= .builtin b,args:=xs,argTypes:=ts}) ⟨tm,m⟩=dC C f nt all rest d m tm (il C.P b ts.toList (xs.toList.map (opd C.gl tm)) m):=_root_.id rfl
@[simp] theorem Jx(x:Operand):opK C f nt all rest d (.panic x) ⟨tm,m⟩=(li (opd C.gl tm x)).map fun a=>(.pan a,⟨tm,m⟩):=_root_.id rfl
@[simp] theorem KG(t:TypeId)(x:A):li (.ifc t x)=some (.ifc t x):=_root_.id rfl
noncomputable def Bm(f nt:Nat)(all rest:List Oper)(d:Option Tmp)(tm:List (Nat×A))(x:Option (Res×Mem)):Option (Ex×St):=
 x.bind fun x=>match x.1 with
  | .ret a=>dD C f nt all rest ⟨put d a tm,x.2⟩
  | .pan a=>some (.pan a,⟨tm,x.2⟩)
@[simp ↓] theorem I4(a:A):Bm C f nt all rest d tm (some (.ret a,m))=dD C f nt all rest ⟨put d a tm,m⟩:=_root_.id rfl
@[simp ↓] theorem JH(a:A):Bm C f nt all rest d tm (some (.pan a,m))=some (.pan a,⟨tm,m⟩):=_root_.id rfl
noncomputable def fnK(f nt:Nat)(all rest:List Oper)(d:Option Tmp)(tm:List (Nat×A))(m:Mem)(g:A)(args:List A):Option (Ex×St):=
 match g with
 | .fn h caps=>Bm C f nt all rest d tm (ai C h (args++caps) m)
 |_=>none
@[simp ↓] theorem Ls(h:FuncId)(caps args:List A):fnK C f nt all rest d tm m (.fn h caps) args=Bm C f nt all rest d tm (ai C h (args++caps) m):=_root_.id rfl
@[simp] theorem JT(g:Operand)(xs:Array Operand)(ts:Array TypeId):opK C f nt all rest d (.call {callee:= .value g,args:=xs,argTypes:=ts}) ⟨tm,m⟩=fnK C f nt all rest d tm m (opd C.gl tm g) (xs.toList.map (opd C.gl tm)):=by
 simp only[opK,fnK];split<;>rfl
end
end
@[simp] theorem KO(gl:Nat→A)(tm:List (Nat×A))(t:Nat):opd gl tm (.tmp t)=lk t tm:=_root_.id rfl
@[simp] theorem J9(gl:Nat→A)(tm:List (Nat×A))(t:Nat):opd gl tm (.func t)= .fn t []:=_root_.id rfl
@[simp] theorem HH(gl:Nat→A)(tm:List (Nat×A))(t:Nat):opd gl tm (.global t)=gl t:=_root_.id rfl
@[simp] theorem KY(gl:Nat→A)(tm:List (Nat×A))(k:IntKind)(n:Int):opd gl tm (.const (.int k n))= .int k n:=_root_.id rfl
@[simp] theorem JR(gl:Nat→A)(tm:List (Nat×A))(b:Bool):opd gl tm (.const (.bool b))= .bool b:=_root_.id rfl
@[simp] theorem H4(gl:Nat→A)(tm:List (Nat×A))(s:ByteArray):opd gl tm (.const (.string s))= .str s.data.toList:=_root_.id rfl
@[simp] theorem Kn(gl:Nat→A)(tm:List (Nat×A)):opd gl tm (.const (.slice none 0 0))= .nils:=_root_.id rfl
@[simp] theorem KE(gl:Nat→A)(tm:List (Nat×A)):opd gl tm (.const .nilIface)= .nili:=_root_.id rfl
@[simp] theorem Kd(gl:Nat→A)(tm:List (Nat×A)):opd gl tm (.const (.pointer none))= .nilp:=_root_.id rfl
@[simp] theorem KS(gl:Nat→A)(tm:List (Nat×A))(l:List Value):opd gl tm (.const (.agg ⟨l⟩))= .agg (l.map A.ofCell):=_root_.id rfl
@[simp] theorem H3(k:IntKind)(n:Int):A.ofCell (.int k n)= .int k n:=_root_.id rfl
@[simp] theorem He(b:Bool):A.ofCell (.bool b)= .bool b:=_root_.id rfl
@[simp] theorem Fi(s:ByteArray):A.ofCell (.string s)= .str s.data.toList:=_root_.id rfl
@[simp] theorem Gq:A.ofCell (.slice none 0 0)= .nils:=_root_.id rfl
@[simp] theorem GF:A.ofCell (.pointer none)= .nilp:=_root_.id rfl
@[simp] theorem Gy:A.ofCell .nilIface= .nili:=_root_.id rfl
@[simp] theorem GK:A.ofCell .nilFunc= .nilf:=_root_.id rfl
@[simp] theorem Kq(d:Nat)(a:A)(tm:List (Nat×A)):put (some d) a tm=(d,a)::tm:=_root_.id rfl
@[simp] theorem Ka(a:A)(tm:List (Nat×A)):put none a tm=tm:=_root_.id rfl
@[simp] theorem lk_hd(t:Nat)(a:A)(tm:List (Nat×A)):lk t ((t,a)::tm)=a:=by simp[lk]
theorem lk_ne{t u:Nat}(a:A)(tm:List (Nat×A))(h:u≠t):lk t ((u,a)::tm)=lk t tm:=by simp[lk,h]
@[simp] theorem Ln(t:Nat):lk t []= .undef:=_root_.id rfl
@[simp] theorem K4(t u:Nat)(a:A)(tm:List (Nat×A)):lk t ((u,a)::tm)=if u=t then a else lk t tm:=_root_.id rfl
@[simp] theorem HZ(l:List Nat)(tm:List (Nat×A)):prune (some l) tm=l.map fun t=>(t,lk t tm):=_root_.id rfl
@[simp] theorem HE(tm:List (Nat×A)):prune none tm=tm:=_root_.id rfl
@[simp] theorem Jm(cs:List A):(A.agg cs).cells=cs:=_root_.id rfl
@[simp] theorem Jb(k:IntKind)(n:Int):(A.int k n).cells=[.int k n]:=_root_.id rfl
@[simp] theorem Im(b:Bool):(A.bool b).cells=[.bool b]:=_root_.id rfl
@[simp] theorem Jf(b:List UInt8):(A.str b).cells=[.str b]:=_root_.id rfl
@[simp] theorem IH(f:Bool)(n:Nat)(b:List A):(A.isl f n b).cells=[.isl f n b]:=_root_.id rfl
@[simp] theorem KH(i v o n:Nat):(A.sl i v o n).cells=[.sl i v o n]:=_root_.id rfl
@[simp] theorem Ho:A.nils.cells=[.nils]:=_root_.id rfl
@[simp] theorem Hl:A.nili.cells=[.nili]:=_root_.id rfl
@[simp] theorem IV(t:TypeId)(x:A):(A.ifc t x).cells=[.ifc t x]:=_root_.id rfl
@[simp] theorem Je(i o:Nat):(A.ptr i o).cells=[.ptr i o]:=_root_.id rfl
@[simp] theorem J7(i:FuncId)(o:List A):(A.fn i o).cells=[.fn i o]:=_root_.id rfl
@[simp] theorem HL(cs:List A):js true cs=some (.agg cs):=_root_.id rfl
@[simp] theorem JG(a:A):js false [a]=some a:=_root_.id rfl
section
variable (P:Program) (t:TypeId) (bx:List (List A)) (rw_:List Row)
@[simp] theorem IM(id off:Nat)(m:Mem):iw P t (.ptr id off) m=(dV P t).bind fun g=>(m.bx[id]?).bind fun cs=>if off+(if g then ao P t else 1)≤cs.length then js g ((cs.drop off).take (if g then ao P t else 1)) else none:=_root_.id rfl
@[simp] theorem HB(id ver off:Nat)(m:Mem):iw P t (.rptr id ver off) m=(dV P t).bind fun g=>(m.rw[id]?).bind fun r=>if r.cs.length=ver∧off+(if g then ao P t else 1)≤r.cs.length then js g ((r.cs.drop off).take (if g then ao P t else 1)) else none:=_root_.id rfl
@[simp] theorem JJ(cs:List A)(m:Mem):iw P t (.rp cs) m=(dV P t).bind fun g=>if(if g then ao P t else 1)≤cs.length then js g (cs.take (if g then ao P t else 1)) else none:=_root_.id rfl
@[simp] theorem Hz(id off:Nat)(x:A)(m:Mem):dY P t (.ptr id off) x m=if ao P t=0 then(if x.cells.length=0∧(dV P t).isSome∧x.cells.all flat then some m else none) else if x.cells.length=ao P t∧0<ao P t∧x.cells.all flat then(m.bx[id]?).bind fun cs=>if off+x.cells.length≤cs.length then some ⟨m.bx.set id (setCells cs off x.cells),m.rw⟩ else none else none:=_root_.id rfl
@[simp] theorem Ha(id ver off:Nat)(x:A)(m:Mem):dY P t (.rptr id ver off) x m=if ao P t=0 then(if x.cells.length=0∧(dV P t).isSome∧x.cells.all flat then some m else none) else if x.cells.length=ao P t∧0<ao P t∧x.cells.all flat then(m.rw[id]?).bind fun r=>if r.cs.length=ver∧off+x.cells.length≤r.cs.length then some ⟨m.bx,m.rw.set id ⟨r.el,setCells r.cs off x.cells⟩⟩ else none else none:=_root_.id rfl
@[simp] theorem EB(id off i:Nat):eV P t (.ptr id off) i=(bB P t i).bind fun p=>if 0<ao P p.2 then some (.ptr id (off+p.1)) else none:=_root_.id rfl
@[simp] theorem Db(id v off i:Nat):eV P t (.rptr id v off) i=(bB P t i).bind fun p=>if 0<ao P p.2 then some (.rptr id v (off+p.1)) else none:=_root_.id rfl
@[simp] theorem Fh(cs:List A)(i:Nat):eV P t (.rp cs) i=(bB P t i).bind fun p=>if 0<ao P p.2 then some (.rp (cs.drop p.1)) else none:=_root_.id rfl
@[simp] theorem KX{α:Type}(l r:List α):(l++r)[l.length]? =r[0]? :=by rw[List.getElem?_append_right (Nat.le_refl _),Nat.sub_self]
@[simp] theorem F5{α:Type}(l r:List α)(k:Nat):(l++r)[l.length+k]? =r[k]? :=by rw[List.getElem?_append_right (by omega),Nat.add_sub_cancel_left]
@[simp] theorem DE{α:Type}(l r:List α)(x:α)(k:Nat):(l++r).set (l.length+k) x=l++r.set k x:=by rw[List.set_append_right _ _ (by omega),Nat.add_sub_cancel_left]
theorem ah{α:Type}{l:List α}{i:Nat}(r:List α)(h:i<l.length):(l++r)[i]? =l[i]? :=List.getElem?_append_left h
theorem ad{α:Type}{l:List α}{i:Nat}(r:List α)(x:α)(h:i<l.length):(l++r).set i x=l.set i x++r:=List.set_append_left _ _ h
@[simp] theorem Fr{α:Type}(l r:List α)(i:Nat)(x:α)(k:Nat):(l.set i x++r)[l.length+k]? =r[k]? :=by
 have:=F5 (l.set i x) r k
 rwa [List.length_set] at this
@[simp] theorem KK{α:Type}(l r:List α)(i:Nat)(x:α):(l.set i x++r)[l.length]? =r[0]? :=Fr l r i x 0
@[simp] theorem Ds{α:Type}(l r:List α)(i:Nat)(x y:α)(k:Nat):(l.set i x++r).set (l.length+k) y=l.set i x++r.set k y:=by
 have:=DE (l.set i x) r y k
 rwa [List.length_set] at this
@[simp] theorem Iw{α:Type}(l r:List α)(i:Nat)(x y:α):(l.set i x++r).set l.length y=l.set i x++r.set 0 y:=Ds l r i x y 0
@[simp] theorem KD{α:Type}(l r:List α)(x:α):(l++r).set l.length x=l++r.set 0 x:=by rw[List.set_append_right _ _ (Nat.le_refl _),Nat.sub_self]
end
@[simp] theorem Kr(k:IntKind)(n:Int):flat (.int k n)=true:=_root_.id rfl
@[simp] theorem Jk(b:Bool):flat (.bool b)=true:=_root_.id rfl
@[simp] theorem Kw(b:List UInt8):flat (.str b)=true:=_root_.id rfl
@[simp] theorem Ke(f:Bool)(n:Nat)(cs:List A):flat (.isl f n cs)=true:=_root_.id rfl
@[simp] theorem KV(i v o n:Nat):flat (.sl i v o n)=true:=_root_.id rfl
@[simp] theorem Jv:flat .nils=true:=_root_.id rfl
@[simp] theorem JC:flat .nili=true:=_root_.id rfl
@[simp] theorem Jj:flat .nilp=true:=_root_.id rfl
@[simp] theorem Jy:flat .nilf=true:=_root_.id rfl
@[simp] theorem JX(t:TypeId)(x:A):flat (.ifc t x)=true:=_root_.id rfl
@[simp] theorem JZ(i o:Nat):flat (.ptr i o)=true:=_root_.id rfl
@[simp] theorem KU(i:FuncId)(o:List A):flat (.fn i o)=true:=_root_.id rfl
@[simp] theorem FH(nb nr:Nat):closed nb nr .undef=true:=_root_.id rfl
@[simp] theorem Il(nb nr:Nat)(k:IntKind)(n:Int):closed nb nr (.int k n)=true:=_root_.id rfl
@[simp] theorem G4(nb nr:Nat)(b:Bool):closed nb nr (.bool b)=true:=_root_.id rfl
@[simp] theorem Ig(nb nr:Nat)(b:List UInt8):closed nb nr (.str b)=true:=_root_.id rfl
@[simp] theorem Hj(nb nr:Nat):closed nb nr .nils=true:=_root_.id rfl
@[simp] theorem GP(nb nr:Nat):closed nb nr .nili=true:=_root_.id rfl
@[simp] theorem GM(nb nr:Nat):closed nb nr .nilp=true:=_root_.id rfl
@[simp] theorem GX(nb nr:Nat):closed nb nr .nilf=true:=_root_.id rfl
theorem bK(nb nr:Nat):∀cs:List A,closed.closedL nb nr cs=cs.all (closed nb nr)
 |[]=>rfl
 |a::r=>by rw[closed.closedL,bK nb nr r,List.all_cons]
@[simp] theorem Hs(nb nr:Nat)(f:Bool)(n:Nat)(cs:List A):closed nb nr (.isl f n cs)=cs.all (closed nb nr):=by rw[closed,bK]
@[simp] theorem Hn(nb nr:Nat)(cs:List A):closed nb nr (.agg cs)=cs.all (closed nb nr):=by rw[closed,bK]
@[simp] theorem HI(nb nr:Nat)(cs:List A):closed nb nr (.tup cs)=cs.all (closed nb nr):=by rw[closed,bK]
@[simp] theorem Ji(nb nr:Nat)(cs:List A):closed nb nr (.rp cs)=cs.all (closed nb nr):=by rw[closed,bK]
@[simp] theorem IX(nb nr:Nat)(f:FuncId)(cs:List A):closed nb nr (.fn f cs)=cs.all (closed nb nr):=by rw[closed,bK]
@[simp] theorem Iq(nb nr:Nat)(t:TypeId)(x:A):closed nb nr (.ifc t x)=closed nb nr x:=_root_.id rfl
@[simp] theorem Hp(nb nr i o:Nat):closed nb nr (.ptr i o)=decide (i<nb):=_root_.id rfl
@[simp] theorem IP(nb nr i v o n:Nat):closed nb nr (.sl i v o n)=decide (i<nr):=_root_.id rfl
@[simp] theorem GR(nb nr i v o:Nat):closed nb nr (.rptr i v o)=decide (i<nr):=_root_.id rfl
theorem mE(nb nr:Nat)(g):∀cs:List A,er1.er1L nb nr g cs=cs.map (er1 nb nr g)
 |[]=>rfl
 |a::r=>by rw[er1.er1L,mE nb nr g r,List.map_cons]
section
variable (nb nr:Nat) (g:Nat→Nat→Nat→Nat→A)
@[simp] theorem Jd:er1 nb nr g .undef= .undef:=_root_.id rfl
@[simp] theorem K1(k:IntKind)(n:Int):er1 nb nr g (.int k n)= .int k n:=_root_.id rfl
@[simp] theorem Ko(b:Bool):er1 nb nr g (.bool b)= .bool b:=_root_.id rfl
@[simp] theorem KR(b:List UInt8):er1 nb nr g (.str b)= .str b:=_root_.id rfl
@[simp] theorem KC:er1 nb nr g .nils= .isl false 0 []:=_root_.id rfl
@[simp] theorem Ku:er1 nb nr g .nili= .nili:=_root_.id rfl
@[simp] theorem JO:er1 nb nr g .nilp= .nilp:=_root_.id rfl
@[simp] theorem JY:er1 nb nr g .nilf= .nilf:=_root_.id rfl
@[simp] theorem K0(t:TypeId)(x:A):er1 nb nr g (.ifc t x)= .ifc t (er1 nb nr g x):=_root_.id rfl
@[simp] theorem K8(cs:List A):er1 nb nr g (.agg cs)= .agg (cs.map (er1 nb nr g)):=by rw[er1,mE]
@[simp] theorem KT(cs:List A):er1 nb nr g (.tup cs)= .tup (cs.map (er1 nb nr g)):=by rw[er1,mE]
@[simp] theorem K5(f:Bool)(n:Nat)(cs:List A):er1 nb nr g (.isl f n cs)= .isl false n (cs.map (er1 nb nr g)):=by rw[er1,mE]
@[simp] theorem Lu(cs:List A):er1 nb nr g (.rp cs)= .rp (cs.map (er1 nb nr g)):=by rw[er1,mE]
@[simp] theorem Li(f:FuncId)(cs:List A):er1 nb nr g (.fn f cs)= .fn f (cs.map (er1 nb nr g)):=by rw[er1,mE]
@[simp] theorem KL(i o:Nat):er1 nb nr g (.ptr i o)=if i<nb then .ptr i o else .undef:=_root_.id rfl
@[simp] theorem Ks(i v o:Nat):er1 nb nr g (.rptr i v o)=if i<nr then .rptr i v o else .undef:=_root_.id rfl
@[simp] theorem Lm(i v o n:Nat):er1 nb nr g (.sl i v o n)=if i<nr then .sl i v o n else g i v o n:=_root_.id rfl
end
@[simp] theorem er_eq(P:Program)(nb nr:Nat)(rw_:List Row)(k:Nat)(a:A):er P nb nr rw_ k a=er1 nb nr (erG P nb nr rw_ k) a:=_root_.id rfl
section
variable (k:IntKind) (a b:Int) (s t:List UInt8)
@[simp] theorem Jn:i7 .add k a b=some (.int k (k.wrap (a+b))):=_root_.id rfl
@[simp] theorem IZ:i7 .sub k a b=some (.int k (k.wrap (a-b))):=_root_.id rfl
@[simp] theorem Ju:i7 .mul k a b=some (.int k (k.wrap (a*b))):=_root_.id rfl
@[simp] theorem IK:i7 .quo k a b=if b=0 then none else some (.int k (k.wrap (a.tdiv b))):=_root_.id rfl
@[simp] theorem Iv:i7 .rem k a b=if b=0 then none else some (.int k (a.tmod b)):=_root_.id rfl
@[simp] theorem IL:i7 .eql k a b=some (.bool (decide (a=b))):=by
 simp only[i7];congr 2
@[simp] theorem Jc:i7 .neq k a b=some (.bool (!decide (a=b))):=by
 simp only[i7];congr 2
@[simp] theorem Jo:i7 .lss k a b=some (.bool (a<b)):=_root_.id rfl
@[simp] theorem I8:i7 .leq k a b=some (.bool (a≤b)):=_root_.id rfl
@[simp] theorem Iu:i7 .gtr k a b=some (.bool (b<a)):=_root_.id rfl
@[simp] theorem Jh:i7 .geq k a b=some (.bool (b≤a)):=_root_.id rfl
@[simp] theorem J5:Dk (.int k a) (.int k b)=some (.int k (max a b)):=by
 simp only[Dk,if_true];congr 2;omega
@[simp] theorem J3:D6 (.int k a) (.int k b)=some (.int k (min a b)):=by
 simp only[D6,if_true];congr 2;omega
@[simp] theorem IG:oK .add s t=if s.length+t.length≤9223372036854775807 then some (.str (s++t)) else none:=_root_.id rfl
@[simp] theorem IE:oK .eql s t=some (.bool (decide (s=t))):=by
 simp only[oK];congr 2;by_cases h:s=t<;>simp[h]
@[simp] theorem I9:oK .neq s t=some (.bool (!decide (s=t))):=by
 simp only[oK];congr 2;by_cases h:s=t<;>simp[h]
@[simp] theorem IA:oK .lss s t=some (.bool (Op.bytesLess s t)):=_root_.id rfl
@[simp] theorem Jq:oK .gtr s t=some (.bool (!(Op.bytesLess s t||s==t))):=_root_.id rfl
end
@[simp] theorem erG_4(P:Program)(nb nr:Nat)(rw_:List Row)(i v o n:Nat):erG P nb nr rw_ 4 i v o n=match rw_[i]? with
  |some r=>if r.cs.length=v∧o+n*ao P r.el≤v then .isl false n (((r.cs.drop o).take (n*ao P r.el)).map (er1 nb nr (erG P nb nr rw_ 3))) else .undef
  |none=> .undef:=_root_.id rfl
@[simp] theorem erG_3(P:Program)(nb nr:Nat)(rw_:List Row)(i v o n:Nat):erG P nb nr rw_ 3 i v o n=match rw_[i]? with
  |some r=>if r.cs.length=v∧o+n*ao P r.el≤v then .isl false n (((r.cs.drop o).take (n*ao P r.el)).map (er1 nb nr (erG P nb nr rw_ 2))) else .undef
  |none=> .undef:=_root_.id rfl
def DU(e:TypeId)(sz:Nat)(s:A)(n:Nat)(cs:List A)(m:Mem):Option (A×Mem):=
    match s with
    | .nils=>if n=0 then some (s,m) else some (.sl m.rw.length (n*sz) 0 n,{m with rw:=m.rw++[⟨e,cs⟩]})
    | .isl true l os=>if os.length=l*sz then(if n=0 then some (s,m) else some (.sl m.rw.length ((l+n)*sz) 0 (l+n),{m with rw:=m.rw++[⟨e,os++cs⟩]})) else none
    | .sl id ver off l=>do
      let r ←m.rw[id]?
      if r.cs.length=ver∧r.el=e∧ver=off+l*sz∧(off=0∨sz=1) then some (.sl id (off+(l+n)*sz) off (l+n),{m with rw:=m.rw.set id ⟨e,r.cs++cs⟩})
      else if off=0∧r.cs.length=ver∧r.el=e∧l*sz≤ver then some (.sl id (max ver ((l+n)*sz)) 0 (l+n),{m with rw:=m.rw.set id ⟨e,r.cs.take (l*sz)++cs++r.cs.drop ((l+n)*sz)⟩}) else none
    |_=>none
@[simp] theorem I7(e:TypeId)(sz n:Nat)(cs:List A)(m:Mem):DU e sz .nils n cs m=if n=0 then some (.nils,m) else some (.sl m.rw.length (n*sz) 0 n,⟨m.bx,m.rw++[⟨e,cs⟩]⟩):=_root_.id rfl
@[simp] theorem Kp(e:TypeId)(sz n l:Nat)(cs os:List A)(m:Mem):DU e sz (.isl true l os) n cs m=if os.length=l*sz then(if n=0 then some (.isl true l os,m) else some (.sl m.rw.length ((l+n)*sz) 0 (l+n),⟨m.bx,m.rw++[⟨e,os++cs⟩]⟩)) else none:=_root_.id rfl
@[simp] theorem Eb(e:TypeId)(sz n l id ver off:Nat)(cs:List A)(m:Mem):DU e sz (.sl id ver off l) n cs m=(m.rw[id]?).bind fun r=>if r.cs.length=ver∧r.el=e∧ver=off+l*sz∧(off=0∨sz=1) then some (.sl id (off+(l+n)*sz) off (l+n),⟨m.bx,m.rw.set id ⟨e,r.cs++cs⟩⟩) else if off=0∧r.cs.length=ver∧r.el=e∧l*sz≤ver then some (.sl id (max ver ((l+n)*sz)) 0 (l+n),⟨m.bx,m.rw.set id ⟨e,r.cs.take (l*sz)++cs++r.cs.drop ((l+n)*sz)⟩⟩) else none:=_root_.id rfl
@[simp high] theorem KW(e:TypeId)(sz n l id ver:Nat)(cs:List A)(m:Mem):DU e sz (.sl id ver 0 l) n cs m=(m.rw[id]?).bind fun r=>if r.cs.length=ver∧r.el=e∧ver=l*sz then some (.sl id ((l+n)*sz) 0 (l+n),⟨m.bx,m.rw.set id ⟨e,r.cs++cs⟩⟩) else if r.cs.length=ver∧r.el=e∧l*sz≤ver then some (.sl id (max ver ((l+n)*sz)) 0 (l+n),⟨m.bx,m.rw.set id ⟨e,r.cs.take (l*sz)++cs++r.cs.drop ((l+n)*sz)⟩⟩) else none:=by
 rw[Eb];simp only[Nat.zero_add,true_or,true_and,and_true]
@[simp] theorem Hv(P:Program)(ts tx:TypeId)(s x:A)(m:Mem):re P ts tx s x m=(bI P ts).bind fun e=>(bk P e).bind fun z=>(bt P e).bind fun by_=>(qW x).bind fun n=>(qW s).bind fun l=>(jj (ao P e) n x m).bind fun cs=>
  if z.length=ao P e∧0<ao P e∧0<by_∧by_≤1024∧(l+n)*by_≤70368744177664∧(l+n)≤70368744177664∧cs.length=n*ao P e∧cs.all flat∧ie P tx then DU e (ao P e) s n cs m else none:=by
 rfl
attribute [simp] fy oB pN il Fu CQ unA sQ t8 Cm l5 gQ ph pf pk bnd pd pj fI qa part pb setCells qW jj
@[simp] theorem K6(e:A→A)(a:A):erR e (.ret a)= .ret (e a):=_root_.id rfl
@[simp] theorem KM(e:A→A)(a:A):erR e (.pan a)= .pan (e a):=_root_.id rfl
theorem E3.pure(m:Mem)(b:List (List A))(r:List Row):E3 m ⟨m.bx++b,m.rw++r⟩:=
 ⟨by simp,by simp,fun i hi=> .inl (by simp[List.getElem?_append_left hi]),fun i hi=> .inl (by simp[List.getElem?_append_left hi])⟩
section
variable (P:Program) (m:Mem) (b:List (List A)) (r:List Row) (x:Res)
@[simp] theorem nN:bC P false m x ⟨m.bx++b,m.rw++r⟩=some (erR (er P m.bx.length m.rw.length (m.rw++r) 4) x,m):=by
 simp only[bC,if_pos (E3.pure m b r),Ft,Bool.false_eq_true,if_false]
 cases x<;>simp
@[simp] theorem Kj:bC P false m x ⟨m.bx++b,m.rw⟩=some (erR (er P m.bx.length m.rw.length m.rw 4) x,m):=by
 have:=nN P m b [] x
 simpa using this
@[simp] theorem JE:bC P false m x ⟨m.bx,m.rw++r⟩=some (erR (er P m.bx.length m.rw.length (m.rw++r) 4) x,m):=by
 have:=nN P m [] r x
 simpa using this
@[simp] theorem Hy:bC P false m x m=some (erR (er P m.bx.length m.rw.length m.rw 4) x,m):=by
 have:=nN P m [] [] x
 simpa using this
end
section
variable (P:Program) (m:Mem) (b:List (List A)) (r:List Row) (x:Res)
theorem aM(i:Nat)(cs:List A)(hcs:cs.all (closed m.bx.length m.rw.length)=true):bC P false m x ⟨m.bx.set i cs++b,m.rw++r⟩=some (erR (er P m.bx.length m.rw.length (m.rw++r) 4) x,⟨m.bx.set i cs,m.rw⟩):=by
 have hk:E3 m ⟨m.bx.set i cs++b,m.rw++r⟩:=by
  refine⟨by simp,by simp,fun j hj=> ?_,fun j hj=> .inl (by simp[List.getElem?_append_left hj])⟩
  rw[List.getElem?_append_left (by simpa using hj),List.getElem?_set]
  by_cases h:i=j
  ·subst h;exact .inr ⟨cs,by simp[hj],hcs⟩
  ·exact .inl (by simp[h])
 simp only[bC,if_pos hk,Ft,Bool.false_eq_true,if_false]
 have e1:(m.bx.set i cs++b).take m.bx.length=m.bx.set i cs:=by rw[←List.length_set (i:=i) (a:=cs),List.take_left]
 have e2:(m.rw++r).take m.rw.length=m.rw:=List.take_left
 rw[e1,e2]
theorem av(i:Nat)(cs:List A)(hcs:cs.all (closed m.bx.length m.rw.length)=true):bC P false m x ⟨m.bx.set i cs,m.rw⟩=some (erR (er P m.bx.length m.rw.length m.rw 4) x,⟨m.bx.set i cs,m.rw⟩):=by
 have:=aM P m [] [] x i cs hcs
 simpa using this
theorem ag(i:Nat)(cs:List A)(hcs:cs.all (closed m.bx.length m.rw.length)=true):bC P false m x ⟨m.bx.set i cs++b,m.rw⟩=some (erR (er P m.bx.length m.rw.length m.rw 4) x,⟨m.bx.set i cs,m.rw⟩):=by
 have:=aM P m b [] x i cs hcs
 simpa using this
theorem Ii(i:Nat)(cs:List A)(hcs:cs.all (closed m.bx.length m.rw.length)=true):bC P false m x ⟨m.bx.set i cs,m.rw++r⟩=some (erR (er P m.bx.length m.rw.length (m.rw++r) 4) x,⟨m.bx.set i cs,m.rw⟩):=by
 have:=aM P m [] r x i cs hcs
 simpa using this
end
theorem dK {l:List Nat} {m0:Mem} {s:St} {B J:List (List A)} (hs:s.m.bx=B++J) (hB:B.length=m0.bx.length) (hl:∀t∈l,closed m0.bx.length s.m.rw.length (lk t s.tm)=true)
  (hb:∀i,i<m0.bx.length→B[i]? =m0.bx[i]? ∨∃cs,B[i]? =some cs∧cs.all (closed m0.bx.length s.m.rw.length)=true)
  (hr:∀i,i<s.m.rw.length→s.m.rw[i]? =m0.rw[i]? ∨∃r,s.m.rw[i]? =some r∧r.cs.all (closed m0.bx.length s.m.rw.length)=true):
  endRound (some l) m0 s=some ⟨prune (some l) s.tm,⟨B,s.m.rw⟩⟩:=by
 have h1:s.m.bx.take m0.bx.length=B:=by rw[hs,←hB,List.take_left]
 simp only[endRound]
 rw[if_pos,h1]
 refine⟨hl,by rw[hs,List.length_append];omega,fun i hi=> ?_,hr⟩
 rw[hs,List.getElem?_append_left (by omega)]
 exact hb i hi
theorem jT{L':List (List A)}{n nb nr:Nat}(hc:(L'.take n).all (fun cs=>cs.all (closed nb nr))=true){B:List (List A)}{i:Nat}(h:¬i<B.length)(hi:i<B.length+n)(hn:n≤L'.length):
  ∃cs,(B++L'.take n)[i]? =some cs∧cs.all (closed nb nr)=true:=by
 have hlt:i-B.length<(L'.take n).length:=by rw[List.length_take];omega
 refine⟨(L'.take n)[i-B.length], ?_, ?_⟩
 ·rw[List.getElem?_append_right (by omega)];exact List.getElem?_eq_getElem hlt
 ·exact List.all_eq_true.1 hc _ (List.getElem_mem hlt)
theorem Aq{l:List Nat}{B L L':List (List A)}{R:List Row}{tm:List (Nat×A)}(hL:L.length≤L'.length)(hl:l.all (fun t=>closed (B.length+L.length) R.length (lk t tm))=true)(hc:(L'.take L.length).all (fun cs=>cs.all (closed (B.length+L.length) R.length))=true):
  endRound (some l) ⟨B++L,R⟩ ⟨tm,⟨B++L',R⟩⟩=some ⟨prune (some l) tm,⟨B++L'.take L.length,R⟩⟩:=by
 refine dK (B:=B++L'.take L.length) (J:=L'.drop L.length) (by simp) (by simp;omega) (by simpa using List.all_eq_true.1 hl) (fun i hi=> ?_) (fun i hi=> .inl rfl)
 by_cases h:i<B.length
 ·left;rw[List.getElem?_append_left h,List.getElem?_append_left h]
 ·right
  rw[List.length_append] at hi⊢
  exact jT hc h hi hL
theorem aZ{l:List Nat}{J:List (List A)}{m:Mem}{tm:List (Nat×A)}(hl:l.all (fun t=>closed m.bx.length m.rw.length (lk t tm))=true):endRound (some l) m ⟨tm,⟨m.bx++J,m.rw⟩⟩=some ⟨prune (some l) tm,m⟩:=
 dK (B:=m.bx) (J:=J) rfl rfl (by simpa using List.all_eq_true.1 hl) (fun i _=> .inl rfl) (fun i _=> .inl rfl)
theorem aA{l:List Nat}{m:Mem}{tm:List (Nat×A)}(hl:l.all (fun t=>closed m.bx.length m.rw.length (lk t tm))=true):endRound (some l) m ⟨tm,m⟩=some ⟨prune (some l) tm,m⟩:=
 dK (B:=m.bx) (J:=[]) (by simp) rfl (by simpa using List.all_eq_true.1 hl) (fun i _=> .inl rfl) (fun i _=> .inl rfl)
theorem du {l:List Nat} {B L L':List (List A)} {R R0 R':List Row} {tm:List (Nat×A)} (hL:L.length≤L'.length) (hl:l.all (fun t=>closed (B.length+L.length) (R.length+R'.length) (lk t tm))=true) (hc:(L'.take L.length).all (fun cs=>cs.all (closed (B.length+L.length) (R.length+R'.length)))=true)
  (hr:R'.all (fun r=>r.cs.all (closed (B.length+L.length) (R.length+R'.length)))=true):
  endRound (some l) ⟨B++L,R++R0⟩ ⟨tm,⟨B++L',R++R'⟩⟩=some ⟨prune (some l) tm,⟨B++L'.take L.length,R++R'⟩⟩:=by
 refine dK (B:=B++L'.take L.length) (J:=L'.drop L.length) (by simp) (by simp;omega) (by simpa using List.all_eq_true.1 hl) (fun i hi=> ?_) (fun i hi=> ?_)
 ·by_cases h:i<B.length
  ·left;rw[List.getElem?_append_left h,List.getElem?_append_left h]
  ·right
   rw[List.length_append] at hi⊢
   rw[List.length_append]
   exact jT hc h hi hL
 ·by_cases h:i<R.length
  ·left;rw[List.getElem?_append_left h,List.getElem?_append_left h]
  ·right
   have hi':i<(R++R').length:=hi
   simp only[List.length_append] at hi
   refine⟨(R++R')[i],List.getElem?_eq_getElem hi', ?_⟩
   rw[List.getElem_append_right (by omega)]
   have:=List.all_eq_true.1 hr _ (List.getElem_mem (l:=R') (n:=i-R.length) (by omega))
   simpa using this
theorem dQ {l:List Nat} {B L L':List (List A)} {R R':List Row} {tm:List (Nat×A)} (hL:L.length≤L'.length) (hl:l.all (fun t=>closed (B.length+L.length) (R.length+R'.length) (lk t tm))=true) (hc:(L'.take L.length).all (fun cs=>cs.all (closed (B.length+L.length) (R.length+R'.length)))=true)
  (hr:R'.all (fun r=>r.cs.all (closed (B.length+L.length) (R.length+R'.length)))=true):
  endRound (some l) ⟨B++L,R⟩ ⟨tm,⟨B++L',R++R'⟩⟩=some ⟨prune (some l) tm,⟨B++L'.take L.length,R++R'⟩⟩:=by
 have:=du (R0:=[]) hL hl hc hr
 simpa using this
@[simp] theorem Lc:IntKind.i64.wrap 1=1:=by decide
@[simp] theorem Ld:IntKind.i64.wrap 0=0:=by decide
theorem As{l:List Nat}{M L L':List (List A)}{k:Nat}{x x':List A}{R:List Row}{tm:List (Nat×A)}(hx:x'.all (closed (M.length+L.length) R.length)=true)(hL:L.length≤L'.length)(hl:l.all (fun t=>closed (M.length+L.length) R.length (lk t tm))=true)(hc:(L'.take L.length).all (fun cs=>cs.all (closed (M.length+L.length) R.length))=true):
  endRound (some l) ⟨M.set k x++L,R⟩ ⟨tm,⟨M.set k x'++L',R⟩⟩=some ⟨prune (some l) tm,⟨M.set k x'++L'.take L.length,R⟩⟩:=by
 refine dK (B:=M.set k x'++L'.take L.length) (J:=L'.drop L.length) (by simp) (by simp;omega) (by simpa using List.all_eq_true.1 hl) (fun i hi=> ?_) (fun i hi=> .inl rfl)
 simp only[List.length_append,List.length_set] at hi⊢
 by_cases h:i<M.length
 ·rw[List.getElem?_append_left (by simpa using h),List.getElem?_append_left (by simpa using h)]
  by_cases hk:k=i
  ·subst hk;right;exact⟨x',by simp[h],hx⟩
  ·left;simp[hk]
 ·right
  have:=jT (B:=M.set k x') hc (by simpa using h) (by simpa using hi) hL
  simpa using this
@[simp] theorem IR{α:Type}(l r:List α)(k:Nat):(l++r).take (l.length+k)=l++r.take k:=by rw[List.take_append,List.take_of_length_le (by omega),Nat.add_sub_cancel_left]
noncomputable def fG(P:Program)(keep:Bool)(rs:List ResultVar)(m:Mem)(x:Option (Ex×St)):Option (Res×Mem):=
 x.bind fun x=>
     match x.1 with
     | .normal| .ret=>(bl P rs x.2.tm x.2.m).bind fun a=>bC P keep m (.ret a) x.2.m
     | .pan a=>bC P keep m (.pan a) x.2.m
     | .exit _=>none
@[simp ↓] theorem Fm(P:Program)(keep:Bool)(rs:List ResultVar)(m:Mem)(s:St):fG P keep rs m (some (.normal,s))=(bl P rs s.tm s.m).bind fun a=>bC P keep m (.ret a) s.m:=_root_.id rfl
@[simp ↓] theorem HG(P:Program)(keep:Bool)(rs:List ResultVar)(m:Mem)(s:St):fG P keep rs m (some (.ret,s))=(bl P rs s.tm s.m).bind fun a=>bC P keep m (.ret a) s.m:=_root_.id rfl
@[simp ↓] theorem Ik(P:Program)(keep:Bool)(rs:List ResultVar)(m:Mem)(a:A)(s:St):fG P keep rs m (some (.pan a,s))=bC P keep m (.pan a) s.m:=_root_.id rfl
@[simp] theorem F4(P:Program)(r:ResultVar)(tm:List (Nat×A))(m:Mem):bl P [r] tm m=Ad P tm m r:=_root_.id rfl
@[simp] theorem Fj(P:Program)(tm:List (Nat×A))(m:Mem):bl P [] tm m=some (.tup []):=_root_.id rfl
@[simp] theorem Ff(P:Program)(r q:ResultVar)(l:List ResultVar)(tm:List (Nat×A))(m:Mem):bl P (r::q::l) tm m=(wW P tm m (r::q::l)).map .tup:=_root_.id rfl
attribute [simp] wW Ad
theorem aC {C:Cfg} {f nt:Nat} {σ:Type} (S:σ→St) (G:σ→Option (Res×Mem)) (meas:σ→Nat) (I:σ→Prop) (x:σ) {b:Code} {P:Program} {kp:Bool} {rs:List ResultVar} {m0:Mem} {id:Nat} {K:St→Option (Ex×St)} {s0:St} {r:Option (Res×Mem)}
  (hs:s0=S x) (hr:G x=r) (hI:I x) (hp:∀x,prune (C.ann.loop f (cu b)) (S x).tm=(S x).tm)
  (h:∀x,I x→(∀y s r,meas y<meas x→I y→s=S y→G y=r→fG P kp rs m0 (andThen (cp id (ak C f nt (.loop b) s)) K)=r)→fG P kp rs m0 (andThen (cp id (andThen (round C f nt b (S x)) (ak C f nt (.loop b)))) K)=G x):
  fG P kp rs m0 (andThen (cp id (ak C f nt (.loop b) s0)) K)=r:=by
 subst hs hr
 exact rY C f nt (fun z=>fG P kp rs m0 (andThen (cp id z) K)) S G meas I hp (fun x hx hr=>h x hx fun y s r h1 h2 h3 h4=>by subst h3 h4;exact hr y h1 h2) x hI
theorem xV {C:Cfg} {f nt:Nat} {σ:Type} (S:σ→St) (G:σ→Option (Ex×St)) (meas:σ→Nat) (I:σ→Prop) (x:σ) {b:Code} {id:Nat} {s0:St} {r:Option (Ex×St)}
  (hs:s0=S x) (hr:G x=r) (hI:I x) (hp:∀x,prune (C.ann.loop f (cu b)) (S x).tm=(S x).tm)
  (h:∀x,I x→(∀y s r,meas y<meas x→I y→s=S y→G y=r→cp id (ak C f nt (.loop b) s)=r)→cp id (andThen (round C f nt b (S x)) (ak C f nt (.loop b)))=G x):
  cp id (ak C f nt (.loop b) s0)=r:=by
 subst hs hr
 exact rY C f nt (fun z=>cp id z) S G meas I hp (fun x hx hr=>h x hx fun y s r h1 h2 h3 h4=>by subst h3 h4;exact hr y h1 h2) x hI
theorem ab(C:Cfg){f:FuncId}{fn:Func}{c:Code}(hx:C.ext f=none)(hf:C.P.funcs[f]? =some fn)(hb:fn.body=some c)(hr:C.ann.recov f=false)(hal:C.ann.all f=false)(hn:fn.name≠ "runtime.NumGoroutine"){args:List A}(ha:args.length≤fn.ntmps)(m:Mem):
  ai C f args m=fG C.P (C.ann.keep f) fn.results.toList m (ak C f fn.ntmps c ⟨bi 0 args,m⟩):=by
 rw[ai]
 simp only[hx,hf,hb,hr,jE,hal]
 rw[if_neg (by simp;exact⟨hn,ha⟩)]
 rfl
theorem sC(C:Cfg){f:FuncId}{fn:Func}{c:Code}(hx:C.ext f=none)(hf:C.P.funcs[f]? =some fn)(hb:fn.body=some c)(hr:C.ann.recov f=true)(hal:C.ann.all f=false)(hn:fn.name≠ "runtime.NumGoroutine"){args:List A}(ha:args.length≤fn.ntmps)(m:Mem):
  ai C f args m=fG C.P (C.ann.keep f) fn.results.toList m (lf C f fn.ntmps c ⟨bi 0 args,m⟩):=by
 rw[ai]
 simp only[hx,hf,hb,hr,jE,hal]
 rw[if_neg (by simp;exact⟨hn,ha⟩)]
 rfl
noncomputable def vL(P:Program)(rs:List ResultVar)(x:Option (Ex×St)):Option (Res×Mem):=
 x.bind fun x=>
     match x.1 with
     | .normal| .ret=>(bl P rs x.2.tm x.2.m).bind fun a=>some (.ret a,x.2.m)
     | .pan a=>some (.pan a,x.2.m)
     | .exit _=>none
@[simp ↓] theorem El(P:Program)(rs:List ResultVar)(s:St):vL P rs (some (.normal,s))=(bl P rs s.tm s.m).bind fun a=>some (.ret a,s.m):=_root_.id rfl
@[simp ↓] theorem GA(P:Program)(rs:List ResultVar)(s:St):vL P rs (some (.ret,s))=(bl P rs s.tm s.m).bind fun a=>some (.ret a,s.m):=_root_.id rfl
theorem zE(C:Cfg){f:FuncId}{fn:Func}{c:Code}(hx:C.ext f=none)(hf:C.P.funcs[f]? =some fn)(hb:fn.body=some c)(hr:C.ann.recov f=false)(hal:C.ann.all f=true)(hn:fn.name≠ "runtime.NumGoroutine"){args:List A}(ha:args.length≤fn.ntmps)(m:Mem):
  ai C f args m=vL C.P fn.results.toList (ak C f fn.ntmps c ⟨bi 0 args,m⟩):=by
 rw[ai]
 simp only[hx,hf,hb,hr,jE,hal]
 rw[if_neg (by simp;exact⟨hn,ha⟩)]
 rfl
theorem pu(C:Cfg)(f nt:Nat)(a b:Code)(s:St)(h:iI a=none):lf C f nt (.seq a b) s=andThen (ak C f nt a s) (lf C f nt b):=by
 rw[lf]
 simp only[h]
 show Option.bind _ _=Option.bind _ _
 congr
noncomputable def cV(C:Cfg)(g:FuncId)(caps:List A)(x:Option (Ex×St)):Option (Ex×St):=
 x.bind fun x=>
  match iT x.1,d9 C.P g with
  |some v,some r=>
   if caps.length≤r.1 then
    (ak C g r.1 r.2.2.2 ⟨put (some r.2.2.1) v (put (some r.2.1) v (bi 0 caps)),x.2.m⟩).bind fun y=>
     match y.1 with
     | .normal| .ret=>some (.ret,⟨x.2.tm,y.2.m⟩)
     |_=>none
   else none
  |_,_=>none
theorem qe(C:Cfg)(f nt:Nat)(a b:Code)(s:St){d:Nat×FuncId×List Operand}(h:iI a=some d)(hd:d.1<nt):
  lf C f nt (.seq a b) s=cV C d.2.1 (d.2.2.map (opd C.gl s.tm)) (ak C f nt b ⟨put (some d.1) (.fn d.2.1 (d.2.2.map (opd C.gl s.tm))) s.tm,s.m⟩):=by
 rw[lf]
 simp only[h,if_pos hd]
 show Option.bind _ _=Option.bind _ _
 simp only[List.length_map]
 rfl
noncomputable def deferred(C:Cfg)(g:FuncId)(r:Nat×Nat×Nat×Code)(caps:List A)(v:A)(s:St):Option (Ex×St):=
 (ak C g r.1 r.2.2.2 ⟨put (some r.2.2.1) v (put (some r.2.1) v (bi 0 caps)),s.m⟩).bind fun y=>
  match y.1 with
  | .normal| .ret=>some (.ret,⟨s.tm,y.2.m⟩)
  |_=>none
theorem lx(C:Cfg)(g:FuncId)(caps:List A){r:Nat×Nat×Nat×Code}(hr:d9 C.P g=some r)(hc:caps.length≤r.1)(s:St):cV C g caps (some (.ret,s))=deferred C g r caps .nili s:=by
 simp only[cV,Option.bind_some,iT,hr,if_pos hc];rfl
theorem Bd(C:Cfg)(g:FuncId)(caps:List A){r:Nat×Nat×Nat×Code}(hr:d9 C.P g=some r)(hc:caps.length≤r.1)(s:St):cV C g caps (some (.normal,s))=deferred C g r caps .nili s:=by
 simp only[cV,Option.bind_some,iT,hr,if_pos hc];rfl
theorem lK(C:Cfg)(g:FuncId)(caps:List A){r:Nat×Nat×Nat×Code}(hr:d9 C.P g=some r)(hc:caps.length≤r.1)(a:A)(s:St):cV C g caps (some (.pan a,s))=deferred C g r caps a s:=by
 simp only[cV,Option.bind_some,iT,hr,if_pos hc];rfl
noncomputable def lg(e:Ent)(x:Option (List Ent×Option (A×Mem)×St)):Option (List Ent×Option (A×Mem)×St):=x.map fun y=>(e::y.1,y.2)
@[simp ↓] theorem H0(e:Ent)(l:List Ent)(s:Option (A×Mem)×St):lg e (some (l,s))=some (e::l,s):=_root_.id rfl
@[simp ↓] theorem HD(e:Ent):lg e none=none:=_root_.id rfl
section
variable (C:Cfg) (f nt:Nat) (all rest:List Oper) (d:Option Tmp) (tm:List (Nat×A)) (m:Mem)
@[simp] theorem Ic(s:St):dw C f nt all [] s=some ([],none,s):=by rw[dw]
def rJ(w:Option Bool)(x y:Option (List Ent×Option (A×Mem)×St)):Option (List Ent×Option (A×Mem)×St):=
 match w with
 |some true=>x
 |some false=>y
 |none=>none
@[congr] theorem G5{a a':Option Bool}(x y:Option (List Ent×Option (A×Mem)×St))(h:a=a'):rJ a x y=rJ a' x y:=by rw[h]
@[simp ↓] theorem HR(x y:Option (List Ent×Option (A×Mem)×St)):rJ (some true) x y=x:=_root_.id rfl
@[simp ↓] theorem GL(x y:Option (List Ent×Option (A×Mem)×St)):rJ (some false) x y=y:=_root_.id rfl
noncomputable def opD(f nt:Nat)(all rest:List Oper)(d:Option Tmp)(op:Op)(s:St):Option (List Ent×Option (A×Mem)×St):=
 match op with
 | .call {callee:= .value g,args,argTypes}=>
   match opd C.gl s.tm g with
   | .fn h caps=>
     (ai C h (args.toList.map (opd C.gl s.tm)++caps) s.m).bind fun x=>
      match x.1 with
      | .ret a=>lg ⟨.eff,a,s.m⟩ (dw C f nt all rest ⟨put d a s.tm,x.2⟩)
      | .pan a=>some ([⟨.eff,.undef,s.m⟩],some (a,x.2),⟨put d .undef s.tm,s.m⟩)
   |_=>none
 |op=>(opA C.P op (opd C.gl s.tm) s.m).bind fun x=>lg ⟨qy op (opd C.gl s.tm),x.1,s.m⟩ (dw C f nt all rest ⟨put d x.1 s.tm,x.2⟩)
theorem rq(x:Option (List Ent×Option (A×Mem)×St))(e:Ent):(x.bind fun y=>some (e::y.1,y.2))=lg e x:=by cases x<;>rfl
theorem yJ(op:Op)(ty:TypeId)(pos:String)(af:Array Edge)(g:Option (Nat×Bool))(s:St)(hd:d.all (· <nt)=true):
  dw C f nt all (⟨d,op,ty,pos,af,g⟩::rest) s=rJ (cW ⟨d,op,ty,pos,af,g⟩ all s.tm) (opD C f nt all rest d op s) (lg ⟨qz op,.tup [],s.m⟩ (dw C f nt all rest ⟨put d (.tup []) s.tm,s.m⟩)):=by
 rw[dw]
 simp only[hd]
 cases h:cW ⟨d,op,ty,pos,af,g⟩ all s.tm with
 |none=>rfl
 |some b=>
  cases b
  ·simp only[rJ]
   exact rq _ _
  ·simp only[rJ,opD,←rq]
   rfl
noncomputable def ep(f nt:Nat)(all rest:List Oper)(d:Option Tmp)(k:EKind)(m:Mem)(tm:List (Nat×A))(x:Option (A×Mem)):Option (List Ent×Option (A×Mem)×St):=
 x.bind fun x=>lg ⟨k,x.1,m⟩ (dw C f nt all rest ⟨put d x.1 tm,x.2⟩)
@[congr] theorem Hh(k:EKind){x x':Option (A×Mem)}(h:x=x'):ep C f nt all rest d k m tm x=ep C f nt all rest d k m tm x':=by rw[h]
@[simp ↓] theorem Hk(k:EKind)(m':Mem)(a:A):ep C f nt all rest d k m tm (some (a,m'))=lg ⟨k,a,m⟩ (dw C f nt all rest ⟨put d a tm,m'⟩):=_root_.id rfl
@[simp ↓] theorem HS(k:EKind):ep C f nt all rest d k m tm none=none:=_root_.id rfl
noncomputable def A7(f nt:Nat)(all rest:List Oper)(d:Option Tmp)(m:Mem)(tm:List (Nat×A))(x:Option (Res×Mem)):Option (List Ent×Option (A×Mem)×St):=
 x.bind fun x=>
    match x.1 with
    | .ret a=>lg ⟨.eff,a,m⟩ (dw C f nt all rest ⟨put d a tm,x.2⟩)
    | .pan a=>some ([⟨.eff,.undef,m⟩],some (a,x.2),⟨put d .undef tm,m⟩)
@[simp ↓] theorem It(a:A)(m':Mem):A7 C f nt all rest d m tm (some (.pan a,m'))=some ([⟨.eff,.undef,m⟩],some (a,m'),⟨put d .undef tm,m⟩):=_root_.id rfl
@[simp ↓] theorem JB(a:A)(m':Mem):A7 C f nt all rest d m tm (some (.ret a,m'))=lg ⟨.eff,a,m⟩ (dw C f nt all rest ⟨put d a tm,m'⟩):=_root_.id rfl
noncomputable def fnD(f nt:Nat)(all rest:List Oper)(d:Option Tmp)(m:Mem)(tm:List (Nat×A))(g:A)(args:List A):Option (List Ent×Option (A×Mem)×St):=
 match g with
 | .fn h caps=>A7 C f nt all rest d m tm (ai C h (args++caps) m)
 |_=>none
@[simp ↓] theorem Ll(h:FuncId)(caps args:List A):fnD C f nt all rest d m tm (.fn h caps) args=A7 C f nt all rest d m tm (ai C h (args++caps) m):=_root_.id rfl
@[simp] theorem JP(g:Operand)(args:Array Operand)(tys:Array TypeId):opD C f nt all rest d (.call {callee:= .value g,args:=args,argTypes:=tys}) ⟨tm,m⟩=fnD C f nt all rest d m tm (opd C.gl tm g) (args.toList.map (opd C.gl tm)):=by
 simp only[opD,fnD]
 cases opd C.gl tm g<;>rfl
@[simp] theorem Kc(x:Operand):opD C f nt all rest d (.move x) ⟨tm,m⟩=lg ⟨.pure,opd C.gl tm x,m⟩ (dw C f nt all rest ⟨put d (opd C.gl tm x) tm,m⟩):=_root_.id rfl
@[simp] theorem H8(x:Operand):opD C f nt all rest d (.assign x) ⟨tm,m⟩=lg ⟨.pure,opd C.gl tm x,m⟩ (dw C f nt all rest ⟨put d (opd C.gl tm x) tm,m⟩):=_root_.id rfl
@[simp] theorem KI(c a b:Operand):opD C f nt all rest d (.pick c a b) ⟨tm,m⟩=ep C f nt all rest d .pure m tm ((t8 (opd C.gl tm c) (opd C.gl tm a) (opd C.gl tm b)).map (·,m)):=_root_.id rfl
@[simp] theorem Ix(e:TypeId):opD C f nt all rest d (.alloc e) ⟨tm,m⟩=ep C f nt all rest d .eff m tm ((bk C.P e).bind fun z=>some (.ptr m.bx.length 0,⟨m.bx++[z],m.rw⟩)):=_root_.id rfl
@[simp] theorem K2(e:TypeId)(x:Operand):opD C f nt all rest d (.box e x) ⟨tm,m⟩=ep C f nt all rest d .eff m tm (if pd (opd C.gl tm x) then some (.ptr m.bx.length 0,⟨m.bx++[(opd C.gl tm x).cells],m.rw⟩) else none):=_root_.id rfl
@[simp] theorem Ir(t:TypeId)(ps:Array (Nat×Operand)):opD C f nt all rest d (.build t ps) ⟨tm,m⟩=ep C f nt all rest d .pure m tm ((pj C.P t (ps.toList.map fun p=>(p.1,opd C.gl tm p.2))).map (·,m)):=_root_.id rfl
@[simp] theorem Eo(t:TypeId)(n:Nat)(ps:Array (Nat×Operand)):opD C f nt all rest d (.buildSlice t n ps) ⟨tm,m⟩=ep C f nt all rest d .pure m tm ((fI C.P t n (ps.toList.map fun p=>(p.1,opd C.gl tm p.2))).map (·,m)):=_root_.id rfl
@[simp] theorem Kg(t:TypeId)(a:Operand):opD C f nt all rest d (.load t a) ⟨tm,m⟩=ep C f nt all rest d (.load t (opd C.gl tm a)) m tm ((iw C.P t (opd C.gl tm a) m).map (·,m)):=_root_.id rfl
@[simp] theorem Iz(t:TypeId)(a x:Operand):opD C f nt all rest d (.store t a x) ⟨tm,m⟩=ep C f nt all rest d .eff m tm ((dY C.P t (opd C.gl tm a) (opd C.gl tm x) m).map (.tup [],·)):=_root_.id rfl
@[simp] theorem Gd(x:Operand):opD C f nt all rest d (.nilCheck x) ⟨tm,m⟩=ep C f nt all rest d .pure m tm ((Cm (opd C.gl tm x)).map (·,m)):=_root_.id rfl
@[simp] theorem IJ(o:BinOp)(t u:TypeId)(x y:Operand):opD C f nt all rest d (.binOp o t x y u) ⟨tm,m⟩=ep C f nt all rest d .pure m tm ((CQ C.P o t (fy x||fy y) (opd C.gl tm x) (opd C.gl tm y)).map (·,m)):=_root_.id rfl
@[simp] theorem JW(o:UnOp)(t:TypeId)(x:Operand):opD C f nt all rest d (.unOp o t x) ⟨tm,m⟩=ep C f nt all rest d .pure m tm ((unA o (opd C.gl tm x)).map (·,m)):=_root_.id rfl
@[simp] theorem G3(t u:TypeId)(x:Operand):opD C f nt all rest d (.convert t u x) ⟨tm,m⟩=ep C f nt all rest d .pure m tm ((match sQ C.P t u (opd C.gl tm x) with|some a=>some a|none=>pN C.P t u (opd C.gl tm x)).map (·,m)):=_root_.id rfl
@[simp] theorem Fl(t:TypeId)(x:Operand)(i:Nat):opD C f nt all rest d (.fieldAddr t x i) ⟨tm,m⟩=ep C f nt all rest d .pure m tm ((eV C.P t (opd C.gl tm x) i).map (·,m)):=_root_.id rfl
@[simp] theorem IT(t:TypeId)(x:Operand)(i:Nat):opD C f nt all rest d (.field t x i) ⟨tm,m⟩=ep C f nt all rest d .pure m tm ((pb C.P t (opd C.gl tm x) i).map (·,m)):=_root_.id rfl
@[simp] theorem Fk(t:TypeId)(x i:Operand):opD C f nt all rest d (.indexAddr t x i) ⟨tm,m⟩=ep C f nt all rest d .pure m tm ((gQ C.P t (opd C.gl tm x) (opd C.gl tm i)).map (·,m)):=_root_.id rfl
@[simp] theorem Jt(t:TypeId)(x i:Operand):opD C f nt all rest d (.index t x i) ⟨tm,m⟩=ep C f nt all rest d .pure m tm ((ph C.P t (opd C.gl tm x) (opd C.gl tm i)).map (·,m)):=_root_.id rfl
@[simp] theorem GH(x:Operand)(i:Nat):opD C f nt all rest d (.extract x i) ⟨tm,m⟩=ep C f nt all rest d .pure m tm ((l5 (opd C.gl tm x) i).map (·,m)):=_root_.id rfl
@[simp] theorem A1(t:TypeId)(x:Operand):opD C f nt all rest d (.makeInterface t x) ⟨tm,m⟩=ep C f nt all rest d .pure m tm (if gu C.P t then none else some (.ifc t (opd C.gl tm x),m)):=by
 simp only[opD,opA,ep,qy,eE]
 rfl
@[simp] theorem Jl(t:TypeId)(x:Operand)(lo hi mx:Option Operand):opD C f nt all rest d (.slice t x lo hi mx) ⟨tm,m⟩=ep C f nt all rest d .pure m tm ((if aX C.P t then pf C.P t (opd C.gl tm x) (lo.map (opd C.gl tm)) (hi.map (opd C.gl tm)) (mx.map (opd C.gl tm)) else if lo.isNone&&hi.isNone&&mx.isNone then pk C.P t (opd C.gl tm x) else none).map (·,m)):=_root_.id rfl
@[simp] theorem Ia(xs:Array Operand)(ts:Array TypeId):opD C f nt all rest d (.call {callee:= .builtin .append,args:=xs,argTypes:=ts}) ⟨tm,m⟩=ep C f nt all rest d .eff m tm (il C.P .append ts.toList (xs.toList.map (opd C.gl tm)) m):=_root_.id rfl
@[simp] theorem K3(xs:Array Operand)(ts:Array TypeId):opD C f nt all rest d (.call {callee:= .builtin .len,args:=xs,argTypes:=ts}) ⟨tm,m⟩=ep C f nt all rest d .pure m tm (il C.P .len ts.toList (xs.toList.map (opd C.gl tm)) m):=_root_.id rfl
end
@[simp] theorem J8(n k i o j v q:Nat):n8 n k (.ptr i o) (.rptr j v q)=True:=_root_.id rfl
@[simp] theorem KF(n k i o j v q:Nat):n8 n k (.rptr j v q) (.ptr i o)=True:=_root_.id rfl
@[simp] theorem Kv(n k i o j q:Nat):n8 n k (.ptr i o) (.ptr j q)=(i≠j∨o+n≤q∨q+k≤o):=_root_.id rfl
@[simp] theorem JI(n k i v o j u q:Nat):n8 n k (.rptr i v o) (.rptr j u q)=(i≠j∨o+n≤q∨q+k≤o):=_root_.id rfl
attribute [simp] AM zG bi cu Aq As yJ hS iz qz eE iR gr
end AE
end Go.Proofs.YtmfdpijmholedaaGreatDoor
