/- All operations together. -/
import Derived.Test.YtmfdpijmholedaaGreatDoorGA
import Derived.Laws.BytesArg
import Derived.LoopN
import Derived.Recover
import Derived.CallsIn
set_option linter.unusedVariables false
set_option linter.unusedSimpArgs false
set_option maxHeartbeats 800000
namespace Go.Proofs.YtmfdpijmholedaaGreatDoor
namespace AE
open Go Go.RowKit
section
variable {P:Program} {gl:Nat→A} {w0:World} {g:Gh} {m:Mem} {w:World}
theorem ll{t:TypeId}{x y a:A}{m':Mem}{v u:Value}(h:dW P t x y m=some (a,m'))(hx:VR w g x v)(hy:VR w g y u):
  ∃(n:Nat) (us:Array Value) (e:TypeId) (zl:List A),(∀M:Mem,dW P t x y M=some (.sl M.rw.length (n*ao P e) 0 n,⟨M.bx,M.rw++[⟨e,zl⟩]⟩))∧zl=us.toList.map A.ofCell∧us.size=n*ao P e∧
   ∀W:World,(Instr.makeSlice t v u).run P W= .ok (.slice (some ⟨W.heap.size,0,none⟩) n n) (W.alloc (.cells us e)):=by
 have h0:=h
 unfold dW at h
 cases he:bI P t with
 |none=>simp[he] at h
 |some e=>
 cases hz:bk P e with
 |none=>simp[he,hz] at h
 |some z=>
 cases hb:bt P e with
 |none=>simp[he,hz,hb] at h
 |some by_=>
  simp only[he,hz,hb,Option.bind_eq_bind,Option.bind_some] at h
  split at h
  ·rename_i k l k' c
   split at h
   ·rename_i hc
    obtain⟨rfl,c1,c2,c3,c4,c5⟩:=hc
    simp only[Option.some.injEq,Prod.mk.injEq] at h
    obtain⟨rfl,rfl⟩:=h
    rw[VR] at hx
    rw[VR] at hy
    subst hx hy
    obtain⟨i,hi,rfl⟩:=uV hb
    obtain⟨zv,hzr,rfl⟩:=CU hz
    have hzl:zv.cells.size=ao P e:=by simpa using c4
    have hwrap:IntKind.i64.wrap l=l:=IntWalk.i64_in l (by omega)
    have hti:∀W:World,(typeInfo e).run P W= .ok i W:=fun W=>by simp[typeInfo,hi]
    obtain⟨n,rfl⟩:=Int.eq_ofNat_of_zero_le c1
    have hn:((n:Int)).toNat=n:=Int.toNat_natCast n
    have hbn:((i.bytes:Int)*(n:Int))=(n:Int)*(i.bytes:Int):=Int.mul_comm _ _
    have hnot:¬((decide ((n:Int)<0)||decide ((i.bytes:Int)*(n:Int)>2 ^ 48))=true):=by
     simp only[Bool.or_eq_true,decide_eq_true_eq]
     rintro(q|q)
     ·omega
     ·omega
    have hcond:¬(((decide ((n:Int)<0)||decide ((i.bytes:Int)*(n:Int)>2 ^ 48))||decide ((n:Int)<0)||decide ((n:Int)>(n:Int)))=true):=by
     simp only[Bool.or_eq_true,decide_eq_true_eq]
     rintro((q|q)|q)
     ·exact hnot (by simpa using q)
     ·omega
     ·omega
    have hcells:(if n*ao P e=0 then(Array.range (n*ao P e)).map ((#[]:Array Value)[· % (#[]:Array Value).size]!) else(Array.range (n*ao P e)).map (zv.cells[· % zv.cells.size]!)).toList=(List.replicate n zv.cells.toList).flatten:=by
     by_cases h0:n*ao P e=0
     ·rw[if_pos h0,h0]
      rcases Nat.mul_eq_zero.1 h0 with q|q
      ·subst q;simp
      ·omega
     ·rw[if_neg h0]
      exact pR _ _ _ (by rw[hzl])
    have hlen:(List.replicate n (zv.cells.toList.map A.ofCell)).flatten.length=n*ao P e:=by simp[hzl]
    have hmap:(List.replicate n (zv.cells.toList.map A.ofCell)).flatten=((List.replicate n zv.cells.toList).flatten).map A.ofCell:=by
     rw[List.map_flatten,List.map_replicate]
    refine⟨n,if n*ao P e=0 then(Array.range (n*ao P e)).map ((#[]:Array Value)[· % (#[]:Array Value).size]!) else(Array.range (n*ao P e)).map (zv.cells[· % zv.cells.size]!),e,(List.replicate n (zv.cells.toList.map A.ofCell)).flatten,fun M=> ?_,by rw[hcells,hmap],by rw[←Array.length_toList,hcells];simp[hzl],fun W=> ?_⟩
    ·unfold dW
     simp only[he,hz,hb,Option.bind_eq_bind,Option.bind_some]
     rw[if_pos ⟨trivial,c1,c2,c3,c4,c5⟩,hn]
    ·simp only[Instr.makeSlice,asInt,asIntOf,Sem.run_bind,run_underlying (cT he),Sem.run_pure,Result.andThen_ok,hti,hwrap,Sem.run_ite,if_neg hcond,run_askRoom,hn,ek hi]
     by_cases h0:n*ao P e=0
     ·simp only[if_pos h0,Sem.run_pure,Result.andThen_ok,newRow,Sem.run_bind,run_newObj]
      rfl
     ·simp only[if_neg h0,hzr,Sem.run_pure,Result.andThen_ok,newRow,Sem.run_bind,run_newObj]
      rfl
   ·cases h
  ·cases h
theorem qS(hs:SR P gl w0 g m w){t:TypeId}{x y a:A}{m':Mem}{v u:Value}(h:dW P t x y m=some (a,m'))(hx:VR w g x v)(hy:VR w g y u):
  ∃r w' g',(Instr.makeSlice t v u).run P w= .ok r w'∧VR w' g' a r∧SR P gl w0 g' m' w'∧Ext w g w' g':=by
 obtain⟨n,us,e,zl,h1,h2,h3,h4⟩:=ll h hx hy
 rw[h1 m] at h
 simp only[Option.some.injEq,Prod.mk.injEq] at h
 obtain⟨rfl,rfl⟩:=h
 subst h2
 obtain⟨g',s1,s2,s3,s4,s5,s6,s7⟩:=hs.newRow (cs:=us.toList.map A.ofCell) (us:=us) (ss:=us.toList) (rest:=[]) e (by simp) (dp _)
 refine⟨_,_,g',h4 w, ?_,s1,s2⟩
 have:=VR.mk_sl (w:=w.alloc (.cells us e)) (n:=n) (c:=n) s6 s7 (Nat.le_refl _) (by rw[s5,s4,h3];exact Nat.le_refl _) (by rw[s5,List.length_map,Array.length_toList,h3];exact Nat.le_refl _)
 rw[s3,List.length_map,Array.length_toList,h3] at this
 exact this
theorem wQ(hs:SR P gl w0 g m w){b:Builtin}{ts:List TypeId}{ty:TypeId}{consts:Array Bool}{xs:List A}{vs:List Value}{a:A}{m':Mem}(h:il P b ts xs m=some (a,m'))(hx:VRs w g xs vs):
  jI P gl w0 w g m' a ((builtin b ts.toArray ty consts vs.toArray).run P w):=by
 unfold il at h
 split at h
 ·rename_i t tr x xr
  rw[VRs.cons_iff] at hx
  obtain⟨v,vr,rfl,hx,_⟩:=hx
  obtain⟨r,hr,he⟩:=Option.map_eq_some_iff.1 h
  simp only[Prod.mk.injEq] at he
  obtain⟨rfl,rfl⟩:=he
  obtain⟨u,hu,hv⟩:=Ac (P:=P) (ty:=ty) (ts:=tr) (vs:=vr) hr hx
  exact jI.pure hs hv (by simp only[builtin,Sem.run_bind,hu,Result.andThen_ok,Sem.run_pure])
 ·rename_i x y
  rw[VRs.cons_iff] at hx
  obtain⟨v,vr,rfl,hx,hy⟩:=hx
  rw[VRs.cons_iff] at hy
  obtain⟨v',vr,rfl,hy,hn⟩:=hy
  rw[VRs.nil_iff] at hn
  subst hn
  obtain⟨r,hr,he⟩:=Option.map_eq_some_iff.1 h
  simp only[Prod.mk.injEq] at he
  obtain⟨rfl,rfl⟩:=he
  obtain⟨u,hu,hv⟩:=AC (P:=P) (ty:=ty) (tys:=ts.toArray) hr hx hy
  exact jI.pure hs hv (by simp only[builtin,Sem.run_bind,hu,Result.andThen_ok,Sem.run_pure])
 ·rename_i x y
  rw[VRs.cons_iff] at hx
  obtain⟨v,vr,rfl,hx,hy⟩:=hx
  rw[VRs.cons_iff] at hy
  obtain⟨v',vr,rfl,hy,hn⟩:=hy
  rw[VRs.nil_iff] at hn
  subst hn
  obtain⟨r,hr,he⟩:=Option.map_eq_some_iff.1 h
  simp only[Prod.mk.injEq] at he
  obtain⟨rfl,rfl⟩:=he
  obtain⟨u,hu,hv⟩:=Aw (P:=P) (ty:=ty) (tys:=ts.toArray) hr hx hy
  exact jI.pure hs hv (by simp only[builtin,Sem.run_bind,hu,Result.andThen_ok,Sem.run_pure])
 ·rename_i t tx tr s x xr
  rw[VRs.cons_iff] at hx
  obtain⟨v,vr,rfl,hx,hy⟩:=hx
  rw[VRs.cons_iff] at hy
  obtain⟨v',vr,rfl,hy,_⟩:=hy
  obtain⟨u,w',g',hu,hv,h1,h2⟩:=vK hs tr vr h hx hy (ty:=ty)
  exact⟨u,w',g',.inl (by simp only[builtin,Sem.run_bind,hu,Result.andThen_ok,Sem.run_pure]),hv,h1,h2⟩
 ·cases h
theorem mg{l:List Operand}{ρA:Operand→A}{ρ:Operand→Value}(hρ:∀x,VR w g (ρA x) (ρ x)):VRs w g (l.map ρA) (l.map ρ):=by
 induction l with
 |nil=>exact VRs.mk_nil
 |cons x r ih=>exact .mk_cons (hρ x) ih
theorem A0{l:List (Nat×Operand)}{ρA:Operand→A}{ρ:Operand→Value}(hρ:∀x,VR w g (ρA x) (ρ x)):VRp w g (l.map fun p=>(p.1,ρA p.2)) (l.map fun p=>(p.1,ρ p.2)):=by
 induction l with
 |nil=>trivial
 |cons x r ih=>exact⟨rfl,hρ x.2,ih⟩
theorem wz{l:Option Operand}{ρA:Operand→A}{ρ:Operand→Value}(hρ:∀x,VR w g (ρA x) (ρ x)):VRo w g (l.map ρA) (l.map ρ):=by
 cases l with
 |none=>trivial
 |some x=>exact hρ x
theorem vM{o:Oper}{x:Operand}(ho:o.op= .nilCheck x){ρ:Operand→Value}{b:Addr}(h:ρ x= .pointer (some b)):(execOp ρ o).run P w= .ok (.value (.pointer (some b))) w:=by
 simp only[execOp,ho,h,Sem.run_pure]
theorem zx(w:World)(us:Array Value)(e:TypeId)(n:Nat):(w.alloc (.cells us e (0,0))).freeze {block:=w.heap.size,off:=n} 1=w.alloc (.cells us e (n,n+1)):=by
 simp only[World.freeze,Nat.succ_ne_zero,if_false]
 have:((w.alloc (.cells us e (0,0))).heap.modify w.heap.size fun
   | .cells c elem (lo,hi)=> .cells c elem (if lo==hi then(n,n+1) else(min lo n,max hi (n+1)))
   |o=>o)=(w.alloc (.cells us e (n,n+1))).heap:=by
  show(w.heap.push (.cells us e (0,0))).modify w.heap.size _=w.heap.push (.cells us e (n,n+1))
  apply Array.ext
  ·simp
  ·intro i h1 h2
   simp only[Array.getElem_modify,Array.getElem_push]
   by_cases hi:i<w.heap.size
   ·rw[if_neg (by omega)]
    simp[hi]
   ·have:i=w.heap.size:=by simp at h2;omega
    subst this
    simp
 show({heap:=(w.alloc (.cells us e (0,0))).heap.modify w.heap.size _,tape:=w.tape,drawn:=w.drawn,os:=w.os,output:=w.output}:World)={heap:=w.heap.push (.cells us e (n,n+1)),tape:=w.tape,drawn:=w.drawn,os:=w.os,output:=w.output}
 congr
theorem ER(w:World)(us:Array Value)(e:TypeId):(markStringish ⟨w.heap.size,0,none⟩).run P (w.alloc (.cells us e (0,0)))= .ok () (w.alloc (.cells us e (us.size,us.size+1))):=by
 have hsh:(w.alloc (.cells us e (0,0))).shape? w.heap.size=some (e,us.size):=by
  unfold World.shape?
  rw[jR]
 unfold markStringish
 rw[Sem.run_bind,run_shape,Result.andThen_ok]
 simp only[hsh,run_freeze,zx]
theorem ti:∀(cs:List A) (ns:List Int) (us:List Value),kV cs=some ns→VRs w g cs us→us=ns.map (Value.int .u8)
 |[],ns,us,h,hv=>by
  simp only[kV,Option.some.injEq] at h
  subst h
  rw[VRs] at hv
  simpa using hv
 |a::r,ns,us,h,hv=>by
  unfold kV at h
  split at h
  ·rename_i heq;cases heq
  ·rename_i n r' heq
   cases heq
   obtain⟨ms,h1,rfl⟩:=Option.map_eq_some_iff.1 h
   rw[VRs] at hv
   obtain⟨u,t,rfl,h2,h3⟩:=hv
   rw[VR] at h2
   rw[ti r ms t h1 h3,h2]
   rfl
  ·cases h
theorem Ah(hs:SR P gl w0 g m w){s d:TypeId}{x a:A}{v:Value}(h:pG P s d x m=some a)(hx:VR w g x v):∃u,(convert s d v).run P w= .ok u w∧VR w g a u:=by
 unfold pG at h
 split at h
 ·rename_i id ver off n
  split at h
  ·rename_i r e hr hel
   split at h
   ·rename_i hc
    obtain⟨hu8',hstr,hver,hle⟩:=hc
    have hu8:P.underlying e=some (.int .u8):=by
     unfold gJ at hu8'
     split at hu8'
     ·assumption
     ·cases hu8'
    have hd:P.underlying d=some .string:=by
     unfold di at hstr
     split at hstr
     ·assumption
     ·cases hstr
    obtain⟨ns,hns,rfl⟩:=Option.map_eq_some_iff.1 h
    obtain⟨us,ss,rest,h1,h2,h3,h4⟩:=hs.rw id r hr
    rw[VR] at hx
    obtain⟨_,L,hL,_,hx⟩:=hx
    rw[hs.rl,List.getElem?_map,hr] at hL
    simp only[Option.map_some,Option.some.injEq] at hL
    obtain⟨hsh,c,hnc,hx⟩:=hx (by omega)
    rcases hx with⟨q1,q2,b',o',rfl⟩|⟨rfl,_⟩
    ·have hn0:n=0:=by omega
     subst hn0
     have hn1:ns=[]:=by
      simpa [kV] using hns.symm
     subst hn1
     refine⟨_,run_convert_bytes_arg w s e (cT hel) hu8 b' o' 0 c [] rfl (fun i hi=>absurd hi (Nat.not_lt_zero _)) d hd, ?_⟩
     rw[VR];rfl
    have hat:=(At.of_block h1 h3).sub (off-g.sh id) n
    have hv:=VRs.take n (VRs.drop off h4)
    have hss:=ti _ _ _ hns hv
    rw[ow _ hsh,hss,Nat.zero_add] at hat
    have hlen:ns.length=n:=by
     have:=congrArg List.length hss
     have hl:=h4.length
     simp only[List.length_take,List.length_drop,List.length_map] at this
     omega
    refine⟨_,run_convert_bytes_arg w s e (cT hel) hu8 (g.br id) (off-g.sh id) n c ns hlen (fun i hi=> ?_) d hd, ?_⟩
    ·refine hat i _ ?_
     rw[List.getElem?_map,List.getElem?_eq_getElem (by omega)]
     simp[List.getD_eq_getElem?_getD,List.getElem?_eq_getElem (show i<ns.length by omega)]
    ·rw[VR];rfl
   ·cases h
  ·cases h
 ·cases h
theorem uQ:∀(str:List UInt8),VRs w g (str.map fun b=>A.int .u8 (b.toNat:Int)) (str.map fun b=>Value.int .u8 (b.toNat:Int))
 |[]=>VRs.mk_nil
 |b::r=> .mk_cons VR.mkInt (uQ r)
theorem yl(hs:SR P gl w0 g m w){s d:TypeId}{x a:A}{v:Value}(h:pN P s d x=some a)(hx:VR w g x v):
  ∃u w' g',(convert s d v).run P w= .ok u w'∧VR w' g' a u∧SR P gl w0 g' m w'∧Ext w g w' g':=by
 unfold pN at h
 split at h
 ·rename_i str e hel
  split at h
  ·rename_i hc
   obtain⟨hu8',hsrc⟩:=hc
   have hu8:P.underlying e=some (.int .u8):=by
    unfold gJ at hu8'
    split at hu8'
    ·assumption
    ·cases hu8'
   simp only[Option.some.injEq] at h
   subst h
   rw[VR] at hx
   subst hx
   obtain⟨d',hd'⟩:=Option.isSome_iff_exists.mp hsrc
   have hd:=cT hel
   obtain⟨c,hch,hle⟩:=eP (P:=P) (w:=w) str.length 0 e
   obtain⟨hs1,he1⟩:=hs.drew
   let us:Array Value:=(⟨str.toArray⟩:ByteArray).data.map (fun b=>Value.int .u8 b.toNat)++Array.replicate (c-str.length) (.int .u8 0)
   have hul:us.toList=str.map (fun b=>Value.int .u8 (b.toNat:Int))++List.replicate (c-str.length) (.int .u8 0):=by simp[us]
   have hsz:us.size=c:=by rw[←Array.length_toList,hul];simp;omega
   obtain⟨g',s1,s2,s3⟩:=hs1.newFix us e c (c+1)
   have hconv:(convert s d (.string ⟨str.toArray⟩)).run P w=(Conv.stringToBytes e ⟨str.toArray⟩).run P w:=by
    unfold convert
    rw[Sem.run_bind,run_underlying hd',Result.andThen_ok,Sem.run_bind,run_underlying hd,Result.andThen_ok]
    cases d'<;>simp[run_underlying hu8]
   refine⟨.slice (some ⟨w.drew.heap.size,0,none⟩) str.length c,_,g', ?_, ?_,s1,he1.trans s2⟩
   ·rw[hconv]
    have hsz0:(⟨str.toArray⟩:ByteArray).size=str.length:=by show str.toArray.size=_;simp
    have hmk:=ER (P:=P) w.drew us e
    rw[hsz] at hmk
    unfold Conv.stringToBytes
    rw[hsz0]
    simp only[Sem.run_bind,hch,Result.andThen_ok,newRow,run_newObj,Sem.run_pure]
    erw[hmk]
    rfl
   ·rw[VR]
    refine⟨_,_,str.map (fun b=>Value.int .u8 (b.toNat:Int)),rfl,by simp,hle, ?_,fun _=>⟨_,_,rfl, ?_⟩⟩
    ·exact uQ str
    ·intro j u hj
     refine s3 j u ?_
     rw[hul,List.getElem?_append_left (by simpa using(List.getElem?_eq_some_iff.1 hj).1)]
     exact hj
  ·cases h
 ·cases h
theorem fM(hs:SR P gl w0 g m w)(o:Oper){ρA:Operand→A}{ρ:Operand→Value}{a:A}{m':Mem}(h:opA P o.op ρA m=some (a,m'))(hρ:∀x,VR w g (ρA x) (ρ x)):
  jI P gl w0 w g m' a ((execOp ρ o).run P w):=by
 obtain⟨dst,op,ty,pos,after,guard⟩:=o
 simp only at h
 have pure1:∀{x:Option A} {s:Sem Value},x.map (·,m)=some (a,m')→(∀r,x=some r→∃u,s.run P w= .ok u w∧VR w g r u)→jI P gl w0 w g m' a ((do pure (Next.value (←s)):Sem Next).run P w):=by
  intro x s h1 h2
  obtain⟨r,hr,he⟩:=Option.map_eq_some_iff.1 h1
  simp only[Prod.mk.injEq] at he
  obtain⟨rfl,rfl⟩:=he
  obtain⟨u,hu,hv⟩:=h2 r hr
  exact jI.pure hs hv (by simp only[Sem.run_bind,hu,Result.andThen_ok,Sem.run_pure])
 cases op<;>simp only[opA,reduceCtorEq] at h
 case move x=>
  simp only[Option.some.injEq,Prod.mk.injEq] at h
  obtain⟨rfl,rfl⟩:=h
  exact jI.pure hs (hρ x) rfl
 case assign x=>
  simp only[Option.some.injEq,Prod.mk.injEq] at h
  obtain⟨rfl,rfl⟩:=h
  exact jI.pure hs (hρ x) rfl
 case pick c x y=>
  obtain⟨r,hr,he⟩:=Option.map_eq_some_iff.1 h
  simp only[Prod.mk.injEq] at he
  obtain⟨rfl,rfl⟩:=he
  unfold t8 at hr
  split at hr
  ·rename_i t hc
   simp only[Option.some.injEq] at hr
   have hcv:=hρ c
   rw[hc,VR] at hcv
   refine jI.pure hs (v:=if t then ρ x else ρ y) ?_ ?_
   ·rw[←hr]
    cases t
    ·exact hρ y
    ·exact hρ x
   ·simp only[execOp,hcv,asBool,Sem.run_bind,Sem.run_pure,Result.andThen_ok]
  ·cases hr
 case alloc e=>
  obtain⟨z,hz,h⟩:=Option.bind_eq_some_iff.1 h
  simp only[Option.some.injEq,Prod.mk.injEq] at h
  obtain⟨rfl,rfl⟩:=h
  obtain⟨zv,hzr,rfl⟩:=jK (w:=w) hz
  obtain⟨g',s1,s2,s3,s4⟩:=hs.newBox (cs:=zv.cells.toList.map A.ofCell) (us:=zv.cells) e (dp _)
  refine⟨.pointer (some ⟨w.heap.size,0,none⟩),_,g',.inl ?_, ?_,s1,s2⟩
  ·simp only[execOp,Instr.alloc,Sem.run_bind,hzr,Result.andThen_ok,newVar,newRow,run_newObj,Sem.run_pure]
   rfl
  ·rw[VR,s3,s4]
   exact⟨by omega,rfl⟩
 case box e x=>
  split at h
  ·rename_i hok
   simp only[Option.some.injEq,Prod.mk.injEq] at h
   obtain⟨rfl,rfl⟩:=h
   obtain⟨g',s1,s2,s3,s4⟩:=hs.newBox (cs:=(ρA x).cells) (us:=(ρ x).cells) e ((hρ x).part hok)
   refine⟨.pointer (some ⟨w.heap.size,0,none⟩),_,g',.inl ?_, ?_,s1,s2⟩
   ·simp only[execOp,Instr.box,Sem.run_bind,Result.andThen_ok,newVar,newRow,run_newObj,Sem.run_pure]
    rfl
   ·rw[VR,s3,s4]
    exact⟨by omega,rfl⟩
  ·cases h
 case build t ps=>
  exact pure1 h fun r hr=>vE hr (by rw[Array.toList_map];exact A0 hρ)
 case buildSlice t n ps=>
  obtain⟨r,hr,he⟩:=Option.map_eq_some_iff.1 h
  simp only[Prod.mk.injEq] at he
  obtain⟨rfl,rfl⟩:=he
  obtain⟨v,w',g',h1,h2,h3,h4⟩:=pQ hs (pvs:=ps.map fun(i,x)=>(i,ρ x)) hr (by rw[Array.toList_map];exact A0 hρ)
  exact⟨v,w',g',.inl (by simp only[execOp,Sem.run_bind,h1,Result.andThen_ok,Sem.run_pure]),h2,h3,h4⟩
 case load t x=>exact pure1 h fun r hr=>p8 hs hr (hρ x)
 case store t x y=>
  obtain⟨r,hr,he⟩:=Option.map_eq_some_iff.1 h
  simp only[Prod.mk.injEq] at he
  obtain⟨rfl,rfl⟩:=he
  obtain⟨w',g',h1,h2,h3⟩:=vD hs hr (hρ x) (hρ y)
  refine⟨undef,w',g',.inr ⟨?_,rfl⟩, ?_,h2,h3⟩
  ·simp only[execOp,Sem.run_bind,h1,Result.andThen_ok,Sem.run_pure]
  ·rw[VR]
   exact⟨[],rfl,VRs.mk_nil⟩
 case nilCheck x=>
  obtain⟨r,hr,he⟩:=Option.map_eq_some_iff.1 h
  simp only[Prod.mk.injEq] at he
  obtain⟨rfl,rfl⟩:=he
  have hx:=hρ x
  have hp:∃b,ρ x= .pointer (some b):=by
   unfold Cm at hr
   split at hr
   ·rename_i hv;rw[hv,VR] at hx;exact⟨_,hx.2⟩
   ·rename_i hv;rw[hv,VR] at hx;obtain⟨⟨_,_,q⟩,_⟩:=hx;exact⟨_,q⟩
   ·rename_i hv;rw[hv,VR] at hx;obtain⟨_,_,_,q,_⟩:=hx;exact⟨_,q⟩
   ·cases hr
  have hre:r=ρA x:=by
   unfold Cm at hr
   split at hr<;>first|(cases hr;done)|(simp only[Option.some.injEq] at hr;rw[←hr];symm;assumption)
  obtain⟨b,hb⟩:=hp
  subst hre
  exact jI.pure hs (v:= .pointer (some b)) (by rw[←hb];exact hx) (vM rfl hb)
 case binOp bo t x y u=>exact pure1 h fun r hr=>zO hr (hρ x) (hρ y)
 case unOp uo t x=>exact pure1 h fun r hr=>BR hr (hρ x)
 case convert s d x=>
  cases hcv:sQ P s d (ρA x) with
  |some r0=>
   rw[hcv] at h
   exact pure1 (x:=some r0) h fun r hr=>by
    simp only[Option.some.injEq] at hr
    subst hr
    exact xQ hcv (hρ x)
  |none=>
   rw[hcv] at h
   obtain⟨r,hr,he⟩:=Option.map_eq_some_iff.1 h
   simp only[Prod.mk.injEq] at he
   obtain⟨rfl,rfl⟩:=he
   obtain⟨v,w',g',h1,h2,h3,h4⟩:=yl hs hr (hρ x)
   exact⟨v,w',g',.inl (by simp only[execOp,Sem.run_bind,h1,Result.andThen_ok,Sem.run_pure]),h2,h3,h4⟩
 case makeInterface t x=>
  split at h
  ·cases h
  ·rename_i hi
   simp only[Option.some.injEq,Prod.mk.injEq] at h
   obtain⟨rfl,rfl⟩:=h
   refine jI.pure hs (v:= .iface t (ρ x)) (by rw[VR];exact⟨_,rfl,hρ x⟩) ?_
   simp only[execOp,Sem.run_bind,od (by simpa using hi),Result.andThen_ok,Sem.run_pure]
 case makeFunc fn first caps=>
  cases fn<;>simp only[reduceCtorEq] at h
  rename_i f
  split at h
  ·rename_i h0
   simp only[Option.some.injEq,Prod.mk.injEq] at h
   obtain⟨rfl,rfl⟩:=h
   refine jI.pure hs (v:= .func (.func f) #[] (caps.map ρ)) (by rw[VR];exact⟨caps.toList.map ρ,by rw[←Array.toList_map,Array.toArray_toList],mg hρ⟩) ?_
   have hf:first= #[]:=Array.eq_empty_of_size_eq_zero h0
   simp only[execOp,Instr.makeFunc,hf,Sem.run_bind,Sem.run_pure,Result.andThen_ok,Array.map_empty]
  ·cases h
 case makeSlice t x y=>
  obtain⟨v,w',g',h1,h2,h3,h4⟩:=qS hs h (hρ x) (hρ y)
  exact⟨v,w',g',.inl (by simp only[execOp,Sem.run_bind,h1,Result.andThen_ok,Sem.run_pure]),h2,h3,h4⟩
 case slice t x lo hi mx=>
  refine pure1 h fun r hr=> ?_
  split at hr
  ·rename_i hsl
   exact wK hsl hr (hρ x) (wz hρ) (wz hρ) (wz hρ)
  ·split at hr
   ·rename_i hn
    simp only[Bool.and_eq_true,Option.isNone_iff_eq_none] at hn
    obtain⟨⟨rfl,rfl⟩,rfl⟩:=hn
    exact vO hr (hρ x)
   ·cases hr
 case fieldAddr t x i=>exact pure1 h fun r hr=>pr hr (hρ x)
 case field t x i=>exact pure1 h fun r hr=>vB hr (hρ x)
 case indexAddr t x i=>exact pure1 h fun r hr=>pH hr (hρ x) (hρ i)
 case index t x i=>exact pure1 h fun r hr=>vA hr (hρ x) (hρ i)
 case typeAssert x xt t ok=>exact pure1 h fun r hr=>tL hr (hρ x)
 case extract x i=>
  refine pure1 h fun r hr=> ?_
  have hx:=hρ x
  unfold l5 at hr
  split at hr
  ·rename_i vs hv
   rw[hv,VR] at hx
   obtain⟨us,hu,hx⟩:=hx
   obtain⟨u,h1,h2⟩:=hx.at_ _ _ hr
   have h1':us.toArray[i]? =some u:=by simpa using h1
   exact⟨u,by simp only[hu,Instr.extract,h1',Sem.run_pure],h2⟩
  ·cases hr
 case call c=>
  obtain⟨callee,args,argTypes⟩:=c
  cases callee<;>simp only[opA,reduceCtorEq] at h
  rename_i b
  have key:∀consts:Array Bool,jI P gl w0 w g m' a ((builtin b argTypes ty consts (args.map ρ)).run P w):=fun consts=>by
   have:=wQ hs (ty:=ty) (consts:=consts) (vs:=args.toList.map ρ) h (mg hρ)
   rwa [show(args.toList.map ρ).toArray=args.map ρ from by rw[←Array.toList_map,Array.toArray_toList],show argTypes.toList.toArray=argTypes from Array.toArray_toList] at this
  exact key _
end
end AE
end Go.Proofs.YtmfdpijmholedaaGreatDoor
/- What is left behind a call or a round stands for the same values. -/
set_option linter.unusedVariables false
set_option linter.unusedSimpArgs false
set_option linter.unusedSectionVars false
set_option maxHeartbeats 800000
namespace Go.Proofs.YtmfdpijmholedaaGreatDoor
namespace AE
open Go Go.RowKit
mutual
theorem fS{nb nr nb' nr':Nat}(hb:nb≤nb')(hr:nr≤nr'):∀a:A,closed nb nr a=true→closed nb' nr' a=true
 | .undef,_| .int _ _,_| .bool _,_| .str _,_| .nilp,_| .nili,_| .nilf,_| .yld _,_| .nils,_=>rfl
 | .ifc t x,h=>by rw[closed] at h⊢;exact fS hb hr x h
 | .agg cs,h=>by rw[closed] at h⊢;exact cd hb hr cs h
 | .tup cs,h=>by rw[closed] at h⊢;exact cd hb hr cs h
 | .isl _ _ cs,h=>by rw[closed] at h⊢;exact cd hb hr cs h
 | .rp cs,h=>by rw[closed] at h⊢;exact cd hb hr cs h
 | .fn _ cs,h=>by rw[closed] at h⊢;exact cd hb hr cs h
 | .ptr id _,h=>by rw[closed] at h⊢;simp at h⊢;omega
 | .sl id _ _ _,h=>by rw[closed] at h⊢;simp at h⊢;omega
 | .rptr id _ _,h=>by rw[closed] at h⊢;simp at h⊢;omega
theorem cd{nb nr nb' nr':Nat}(hb:nb≤nb')(hr:nr≤nr'):∀cs:List A,closed.closedL nb nr cs=true→closed.closedL nb' nr' cs=true
 |[],_=>rfl
 |a::r,h=>by
  rw[closed.closedL] at h⊢
  simp only[Bool.and_eq_true] at h⊢
  exact⟨fS hb hr a h.1,cd hb hr r h.2⟩
end
theorem ce(nb nr:Nat):∀cs:List A,closed.closedL nb nr cs=cs.all (closed nb nr)
 |[]=>rfl
 |a::r=>by rw[closed.closedL,ce nb nr r,List.all_cons]
section
variable {w:World} {g:Gh}
mutual
theorem VR.closed:∀(a:A) (v:Value),VR w g a v→AE.closed g.nb g.rl.length a=true
 | .undef,_,_| .int _ _,_,_| .bool _,_,_| .str _,_,_| .nilp,_,_| .nili,_,_| .nilf,_,_| .yld _,_,_| .nils,_,_=>rfl
 | .ifc t x,_,h=>by rw[VR] at h;obtain⟨u,_,h⟩:=h;rw[AE.closed];exact VR.closed x u h
 | .agg cs,_,h=>by rw[VR] at h;obtain⟨us,_,h⟩:=h;rw[AE.closed];exact VRs.closed cs us h
 | .tup cs,_,h=>by rw[VR] at h;obtain⟨us,_,h⟩:=h;rw[AE.closed];exact VRs.closed cs us h
 | .isl _ _ cs,_,h=>by rw[VR] at h;obtain⟨_,_,us,_,_,_,h,_⟩:=h;rw[AE.closed];exact VRs.closed cs us h
 | .rp cs,_,h=>by rw[VR] at h;obtain⟨_,_,us,_,h,_⟩:=h;rw[AE.closed];exact VRs.closed cs us h
 | .fn _ cs,_,h=>by rw[VR] at h;obtain⟨us,_,h⟩:=h;rw[AE.closed];exact VRs.closed cs us h
 | .ptr id _,_,h=>by rw[VR] at h;rw[AE.closed];simpa using h.1
 | .sl id _ _ _,_,h=>by rw[VR] at h;obtain⟨_,L,h,_⟩:=h;rw[AE.closed];simpa using(List.getElem?_eq_some_iff.1 h).1
 | .rptr id _ _,_,h=>by rw[VR] at h;obtain⟨_,L,h,_⟩:=h;rw[AE.closed];simpa using(List.getElem?_eq_some_iff.1 h).1
theorem VRs.closed:∀(cs:List A) (us:List Value),VRs w g cs us→AE.closed.closedL g.nb g.rl.length cs=true
 |[],_,_=>rfl
 |a::r,_,h=>by
  rw[VRs] at h
  obtain⟨u,t,_,h1,h2⟩:=h
  rw[AE.closed.closedL,VR.closed a u h1,VRs.closed r t h2]
  rfl
end
def dc(g:Gh)(nb nr:Nat):Gh:={g with nb:=nb,rl:=g.rl.take nr,F:=fun b o=>g.F b o∨∃id L,nr≤id∧g.rl[id]? =some L∧b=g.br id∧o<L}
theorem jL.cut{nb nr b o:Nat}{us:List Value}(h:jL w g b o us):jL w (dc g nb nr) b o us:=fun j u hj=>⟨.inl (h j u hj).1,(h j u hj).2⟩
mutual
theorem VR.cut{nb nr:Nat}:∀(a:A) (v:Value),AE.closed nb nr a=true→VR w g a v→VR w (dc g nb nr) a v
 | .undef,_,_,_=>by rw[VR];trivial
 | .int _ _,_,_,h=>by rw[VR] at h⊢;exact h
 | .bool _,_,_,h=>by rw[VR] at h⊢;exact h
 | .str _,_,_,h=>by rw[VR] at h⊢;exact h
 | .nilp,_,_,h=>by rw[VR] at h⊢;exact h
 | .nili,_,_,h=>by rw[VR] at h⊢;exact h
 | .nilf,_,_,h=>by rw[VR] at h⊢;exact h
 | .yld _,_,_,h=>by rw[VR] at h⊢;exact h
 | .nils,_,_,h=>by rw[VR] at h⊢;exact h
 | .ifc t x,_,c,h=>by rw[VR] at h⊢;rw[AE.closed] at c;obtain⟨u,e,h⟩:=h;exact⟨u,e,VR.cut x u c h⟩
 | .agg cs,_,c,h=>by rw[VR] at h⊢;rw[AE.closed] at c;obtain⟨u,e,h⟩:=h;exact⟨u,e,VRs.cut cs u c h⟩
 | .tup cs,_,c,h=>by rw[VR] at h⊢;rw[AE.closed] at c;obtain⟨u,e,h⟩:=h;exact⟨u,e,VRs.cut cs u c h⟩
 | .isl full n cs,_,c,h=>by
   rw[VR] at h⊢
   rw[AE.closed] at c
   obtain⟨a,k,us,e,k1,k2,k3,k4⟩:=h
   refine⟨a,k,us,e,k1,k2,VRs.cut cs us c k3,fun hn=> ?_⟩
   obtain⟨b,o,e,l⟩:=k4 hn
   exact⟨b,o,e,l.cut⟩
 | .rp cs,_,c,h=>by
   rw[VR] at h⊢
   rw[AE.closed] at c
   obtain⟨b,o,us,e,k1,k2⟩:=h
   exact⟨b,o,us,e,VRs.cut cs us c k1,k2.cut⟩
 | .ptr id off,_,c,h=>by
   rw[VR] at h⊢
   rw[AE.closed] at c
   exact⟨by show id<nb;simpa using c,h.2⟩
 | .sl id ver off n,_,c,h=>by
   rw[VR] at h⊢
   rw[AE.closed] at c
   simp at c
   obtain⟨k0,L,k1,k2⟩:=h
   exact⟨k0,L,by simp only[dc];rw[List.getElem?_take,if_pos c];exact k1,k2⟩
 | .rptr id ver off,_,c,h=>by
   rw[VR] at h⊢
   rw[AE.closed] at c
   simp at c
   obtain⟨k0,L,k1,k2⟩:=h
   exact⟨k0,L,by simp only[dc];rw[List.getElem?_take,if_pos c];exact k1,k2⟩
 | .fn f cs,_,c,h=>by rw[VR] at h⊢;rw[AE.closed] at c;obtain⟨u,e,h⟩:=h;exact⟨u,e,VRs.cut cs u c h⟩
theorem VRs.cut{nb nr:Nat}:∀(cs:List A) (us:List Value),AE.closed.closedL nb nr cs=true→VRs w g cs us→VRs w (dc g nb nr) cs us
 |[],_,_,h=>by rw[VRs] at h⊢;exact h
 |a::r,_,c,h=>by
  rw[VRs] at h⊢
  rw[AE.closed.closedL] at c
  simp only[Bool.and_eq_true] at c
  obtain⟨u,t,e,h1,h2⟩:=h
  exact⟨u,t,e,VR.cut a u c.1 h1,VRs.cut r t c.2 h2⟩
end
end
section
variable {P:Program} {gl:Nat→A} {w0:World} {g:Gh} {m:Mem} {w:World}
theorem SR.cut (hgl:∀n,closed 0 0 (gl n)=true) (h:SR P gl w0 g m w) (nb nr:Nat) (hnb:nb≤m.bx.length) (hnr:nr≤m.rw.length)
  (hb:∀i cs,i<nb→m.bx[i]? =some cs→cs.all (closed nb nr)=true) (hr:∀i r,i<nr→m.rw[i]? =some r→r.cs.all (closed nb nr)=true):
  SR P gl w0 (dc g nb nr) ⟨m.bx.take nb,m.rw.take nr⟩ w:=by
 have hgn:=h.nb
 have hrl:=h.rlen
 have hlen:(dc g nb nr).rl.length=nr:=by simp only[dc,List.length_take];omega
 have hFb:∀i,i<g.nb→∀o,¬(dc g nb nr).F (g.bb i) o:=by
  rintro i hi o (hF|⟨id,L,h1,h2,h3,_⟩)
  ·exact(h.ownb i hi).2 o hF
  ·exact h.dis i id hi (List.getElem?_eq_some_iff.1 h2).1 h3
 have hFr:∀i,i<nr→∀o,¬(dc g nb nr).F (g.br i) o:=by
  rintro i hi o (hF|⟨id,L,h1,h2,h3,_⟩)
  ·exact(h.ownr i (by omega)).2 o hF
  ·have:=h.injr i id (by omega) (List.getElem?_eq_some_iff.1 h2).1 h3
   omega
 refine⟨h.below, ?_, ?_,fun i r hi=> ?_,fun i cs hi=> ?_,fun i r hi=> ?_,fun i hi=> ?_,fun i hi=> ?_,fun i j hi hj=>h.injb i j ?_ ?_,fun i j hi hj=>h.injr i j ?_ ?_,fun i j hi hj=>h.dis i j ?_ ?_, ?_,fun n=> ?_,h.dr,h.tb⟩
 ·simp[dc];omega
 ·simp only[dc,h.rl,List.map_take]
 ·rw[List.getElem?_take] at hi
  split at hi
  ·exact h.es i r hi
  ·cases hi
 ·rw[List.getElem?_take] at hi
  split at hi
  ·rename_i hlt
   obtain⟨us,e,h1,h2⟩:=h.bx i cs hi
   exact⟨us,e,h1,VRs.cut cs _ (by rw[ce];exact hb i cs hlt hi) h2⟩
  ·cases hi
 ·rw[List.getElem?_take] at hi
  split at hi
  ·rename_i hlt
   obtain⟨us,ss,rest,h1,h2,h3,h4⟩:=h.rw i r hi
   exact⟨us,ss,rest,h1,h2,h3,VRs.cut r.cs _ (by rw[ce];exact hr i r hlt hi) h4⟩
  ·cases hi
 ·have hi:i<nb:=hi
  exact⟨(h.ownb i (by omega)).1,hFb i (by omega)⟩
 ·rw[hlen] at hi
  exact⟨(h.ownr i (by omega)).1,hFr i hi⟩
 ·have hi:i<nb:=hi
  omega
 ·have hj:j<nb:=hj
  omega
 ·rw[hlen] at hi
  omega
 ·rw[hlen] at hj
  omega
 ·have hi:i<nb:=hi
  omega
 ·rw[hlen] at hj
  omega
 ·rintro b o (hF|⟨id,L,h1,h2,rfl,_⟩)
  ·exact h.lim b o hF
  ·exact h.br_lt (List.getElem?_eq_some_iff.1 h2).1
 ·exact VR.cut _ _ (fS (Nat.zero_le _) (Nat.zero_le _) _ (hgl n)) (h.gl n)
theorem dj.cut{g:Gh}{b:Nat}(h:dj g b)(nb nr:Nat)(hn:nb≤g.nb):dj (dc g nb nr) b:=by
 refine⟨fun i hi=>h.1 i ?_,fun i hi=>h.2.1 i ?_,fun o hF=> ?_⟩
 ·simp only[dc] at hi
  omega
 ·simp only[dc,List.length_take] at hi
  omega
 ·rcases hF with hF|⟨id,L,_,h1,rfl,_⟩
  ·exact h.2.2 o hF
  ·exact h.2.1 id (List.getElem?_eq_some_iff.1 h1).1 rfl
theorem Ext.cut{w':World}{g':Gh}(h:Ext w g w' g'):Ext w g w' (dc g' g.nb g.rl.length):=by
 refine⟨⟨fun b o hF=>⟨.inl (h.fx b o hF).1,(h.fx b o hF).2⟩,Nat.le_refl _,h.bb,fun i L hL=> ?_⟩,fun b hb hl=> ?_,h.sz⟩
 ·obtain⟨L',h1,h2⟩:=h.rl i L hL
  exact⟨L',by simp only[dc];rw[List.getElem?_take,if_pos (List.getElem?_eq_some_iff.1 hL).1];exact h1,h2⟩
 ·obtain⟨h1,h2⟩:=h.fr b hb hl
  exact⟨h1,h2.cut _ _ h.nb⟩
section
variable (hs:SR P gl w0 g m w) (nb nr:Nat) {gg:Nat→Nat→Nat→Nat→A}
 (hgg:∀id ver off n v,nr≤id→VR w g (.sl id ver off n) v→VR w (dc g nb nr) (gg id ver off n) v)
include hgg
mutual
theorem VR.er1:∀(a:A) (v:Value),VR w g a v→VR w (dc g nb nr) (AE.er1 nb nr gg a) v
 | .undef,_,_=>by show VR w (dc g nb nr) .undef _;rw[VR];trivial
 | .int _ _,_,h=>by rw[VR] at h;show VR w (dc g nb nr) (.int _ _) _;rw[VR];exact h
 | .bool _,_,h=>by rw[VR] at h;show VR w (dc g nb nr) (.bool _) _;rw[VR];exact h
 | .str _,_,h=>by rw[VR] at h;show VR w (dc g nb nr) (.str _) _;rw[VR];exact h
 | .nilp,_,h=>by rw[VR] at h;show VR w (dc g nb nr) (.nilp) _;rw[VR];exact h
 | .nili,_,h=>by rw[VR] at h;show VR w (dc g nb nr) (.nili) _;rw[VR];exact h
 | .nilf,_,h=>by rw[VR] at h;show VR w (dc g nb nr) (.nilf) _;rw[VR];exact h
 | .yld l,_,h=>by rw[VR] at h;show VR w (dc g nb nr) (.yld l) _;rw[VR];exact h
 | .nils,_,h=>by
   rw[VR] at h
   rw[AE.er1,VR]
   exact⟨none,0,[],h,by simp,Nat.le_refl _,VRs.mk_nil,by simp⟩
 | .ifc t x,_,h=>by rw[VR] at h;rw[AE.er1,VR];obtain⟨u,e,h⟩:=h;exact⟨u,e,VR.er1 x u h⟩
 | .agg cs,_,h=>by rw[VR] at h;rw[AE.er1,VR];obtain⟨u,e,h⟩:=h;exact⟨u,e,VRs.er1 cs u h⟩
 | .tup cs,_,h=>by rw[VR] at h;rw[AE.er1,VR];obtain⟨u,e,h⟩:=h;exact⟨u,e,VRs.er1 cs u h⟩
 | .isl full n cs,_,h=>by
   rw[VR] at h
   rw[AE.er1,VR]
   obtain⟨a,k,us,e,k1,k2,k3,k4⟩:=h
   refine⟨a,k,us,e,by simp,k2,VRs.er1 cs us k3,fun hn=> ?_⟩
   obtain⟨b,o,e,l⟩:=k4 hn
   exact⟨b,o,e,l.cut⟩
 | .rp cs,_,h=>by
   rw[VR] at h
   rw[AE.er1,VR]
   obtain⟨b,o,us,e,k1,k2⟩:=h
   exact⟨b,o,us,e,VRs.er1 cs us k1,k2.cut⟩
 | .ptr id off,v,h=>by
   rw[AE.er1]
   split
   ·rename_i hi
    exact VR.cut _ v (by rw[AE.closed];simpa using hi) h
   ·rw[VR];trivial
 | .rptr id ver off,v,h=>by
   rw[AE.er1]
   split
   ·rename_i hi
    exact VR.cut _ v (by rw[AE.closed];simpa using hi) h
   ·rw[VR];trivial
 | .sl id ver off n,v,h=>by
   rw[AE.er1]
   split
   ·rename_i hi
    exact VR.cut _ v (by rw[AE.closed];simpa using hi) h
   ·rename_i hi
    exact hgg id ver off n v (by omega) h
 | .fn f cs,_,h=>by rw[VR] at h;rw[AE.er1,VR];obtain⟨u,e,h⟩:=h;exact⟨u,e,VRs.er1 cs u h⟩
theorem VRs.er1:∀(cs:List A) (us:List Value),VRs w g cs us→VRs w (dc g nb nr) (AE.er1.er1L nb nr gg cs) us
 |[],_,h=>by rw[VRs] at h;rw[AE.er1.er1L,VRs];exact h
 |a::r,_,h=>by
  rw[VRs] at h
  obtain⟨u,t,e,h1,h2⟩:=h
  rw[AE.er1.er1L,VRs]
  exact⟨u,t,e,VR.er1 a u h1,VRs.er1 r t h2⟩
end
end
theorem zo(nb nr:Nat)(g):∀cs:List A,er1.er1L nb nr g cs=cs.map (er1 nb nr g)
 |[]=>rfl
 |a::r=>by rw[er1.er1L,zo nb nr g r,List.map_cons]
theorem uq(hs:SR P gl w0 g m w)(nb nr:Nat):∀k,∀id ver off n v,nr≤id→VR w g (.sl id ver off n) v→VR w (dc g nb nr) (erG P nb nr m.rw k id ver off n) v
 |0,_,_,_,_,_,_,_=>by show VR w (dc g nb nr) .undef _;rw[VR];trivial
 |k+1,id,ver,off,n,v,hid,h=>by
  simp only[erG]
  cases hr:m.rw[id]? with
  |none=>show VR w (dc g nb nr) .undef _;rw[VR];trivial
  |some r=>
   simp only
   split
   ·rename_i hc
    rw[VR] at h
    obtain⟨_,L,k1,k2,k3⟩:=h
    have hL:L=r.cs.length:=by
     rw[hs.rl,List.getElem?_map,hr] at k1
     simpa using k1.symm
    obtain⟨hsh,c,hnc,hv⟩:=k3 (by omega)
    obtain⟨us,ss,rest,h1,h2,h3,h4⟩:=hs.rw id r hr
    have hlen:=h4.length
    rw[VR,←zo]
    rcases hv with⟨q1,q2,b',o',rfl⟩|⟨rfl,_⟩
    ·have hn0:n=0:=by omega
     subst hn0
     refine⟨_,c,[],rfl,by simp,hnc, ?_,by simp⟩
     rw[Nat.zero_mul,List.take_zero,er1.er1L]
     exact VRs.mk_nil
    refine⟨_,c,(ss.drop off).take (n*ao P r.el),rfl,by simp,hnc,VRs.er1 nb nr (uq hs nb nr k) _ _ (h4.sub _ _),fun _=>⟨_,_,rfl,fun j u hj=>⟨.inr ⟨id,L,hid,k1,rfl, ?_⟩, ?_⟩⟩⟩
    ·have:=(List.getElem?_eq_some_iff.1 hj).1
     simp at this
     omega
    ·have hat:=(At.of_block h1 h3).sub (off-g.sh id) (n*ao P r.el)
     rw[Nat.zero_add,ow _ hsh] at hat
     exact hat j u hj
   ·show VR w (dc g nb nr) .undef _;rw[VR];trivial
theorem xB(hs:SR P gl w0 g m w)(nb nr k:Nat){a:A}{v:Value}(h:VR w g a v):VR w (dc g nb nr) (er P nb nr m.rw k a) v:=VR.er1 nb nr (uq hs nb nr k) a v h
end
end AE
end Go.Proofs.YtmfdpijmholedaaGreatDoor
/- THE EVALUATOR IS SOUND: what it answers, the model's call answers, in whatever world and on whatever tape. -/
set_option linter.unusedVariables false
set_option linter.unusedSimpArgs false
set_option linter.unusedSectionVars false
set_option maxHeartbeats 800000
namespace Go.Proofs.YtmfdpijmholedaaGreatDoor
namespace AE
open Go Go.RowKit
abbrev Fz(ro:Option Nat):Fence:={Fence.wide with round:=ro}
theorem ff(ro:Option Nat)(P:Program)(m:Machine):m.fenced P (Fz ro):=fenced_wide P m
theorem FX(ro:Option Nat)(n:Nat):(Fz ro).room n:=room_wide n
theorem E9{ro:Option Nat}{n:Nat}{P:Program}{f:FuncId}{args:Array Value}{w:World}{R:Ending→World→Prop}(h:Calls P f args w R):CallsIn (Fz ro) n P f args w R:=(callsIn_wide (n:=n)).2 h
theorem xc{n:Nat}{P:Program}{c:Code}{Q:Exit→Act→World→Prop}{a:Act}{w:World}(h:c.wpIn (Fz none) n P Q a w):c.wp P Q a w:=wpIn_wide.1 h
theorem Fy{ro:Option Nat}{P:Program}{o:Oper}{a:Act}{next:Act→World→Prop}{Q:Exit→Act→World→Prop}:∀{r:Result Next},(∀row args w',r≠ .ok (.row row args) w')→o.upon P a next Q r→o.uponIn (Fz ro) 0 P a next Q r
 | .ok (.value v) w',_,h=>h
 | .ok .skip w',_,h=>h
 | .ok (.defer d) w',_,h=>h
 | .ok (.enter f args) w',_,h=>⟨fun hd=>(by simp[Fz,Fence.wide] at hd),E9 h⟩
 | .ok (.row row args) w',hr,_=>absurd rfl (hr row args w')
 | .halt (.panic v) w',_,h=>h
theorem fb {ro:Option Nat} {P:Program} {ops:Array Oper} {Q:Exit→Act→World→Prop} {i:Nat} {rest:List Nat} {a:Act} {w:World} {o:Oper} (ho:ops[i]? =some o) (hw:Region.wanted o (yielded ops a.tmps)=true) (hd:∀c,o.op≠ .defer c)
  (hr:∀row args w',(execOp a.eval o).run P w≠ .ok (.row row args) w') (h:o.upon P a (wpOpsIn (Fz ro) 0 P ops Q rest) Q ((execOp a.eval o).run P w)):wpOpsIn (Fz ro) 0 P ops Q (i::rest) a w:=by
 simp only[wpOpsIn,ho,hw,if_true]
 refine⟨fun _ _=>trivial, ?_⟩
 rw[Oper.semAt_eq _ _ _ hd]
 exact Fy hr h
theorem yu {ro:Option Nat} {P:Program} {ops:Array Oper} {Q:Exit→Act→World→Prop} {i:Nat} {rest:List Nat} {a:Act} {w:World} {o:Oper} (ho:ops[i]? =some o) (hw:Region.wanted o (yielded ops a.tmps)=false)
  (h:wpOpsIn (Fz ro) 0 P ops Q rest (a.put o.dst undef) w):wpOpsIn (Fz ro) 0 P ops Q (i::rest) a w:=by
 simp only[wpOpsIn,ho,hw,Bool.false_eq_true,if_false]
 exact⟨fun _ _=>trivial,h⟩
theorem fJ{P:Program}{b:Frame}{a:Act}{k:List Item}{cs:List Frame}{w:World}{c:Code}:step P (lone (b.atR a (.code (.scope c)::k)) cs w)= .next (lone (b.atR a (.code c:: .inScope c::k)) cs w):=
 step_lone_go (by simp[stepG,stepG.exec,Frame.atR])
theorem tQ{P:Program}{b:Frame}{a:Act}{k:List Item}{cs:List Frame}{w:World}{c:Code}:step P (lone (b.atR a (.inScope c::k)) cs w)= .next (lone (b.atR a k) cs w):=
 step_lone_go (by simp[stepG,stepG.exec,Frame.atR])
theorem AF{ro:Option Nat}{P:Program}{c:Code}{Q:Exit→Act→World→Prop}{a:Act}{w:World}(h:c.wpIn (Fz ro) 0 P (fun e a w=>(∀l,e≠ .goto l)∧Q e a w) a w):(Code.scope c).wpIn (Fz ro) 0 P Q a w:=by
 intro b k cs hro hb hr
 obtain⟨e,a₁,w₁,hq,harr⟩:=h b (.inScope c::k) cs hro hb hr
 have hx:∀i,exitTo i (.inScope c::k)=exitTo i k:=fun i=>by simp[exitTo]
 cases e with
 |normal=>exact⟨.normal,a₁,w₁,hq.2,.head (ff _ _ _) fJ (StepsIn.trans harr (.one (ff _ _ _) tQ))⟩
 |exit id=>exact⟨.exit id,a₁,w₁,hq.2,fun k' hk=> .head (ff _ _ _) fJ (harr.1 k' (by rw[hx];exact hk)),fun hr' hk=>let ⟨k₁,h1,h2⟩:=harr.2 hr' (by rw[hx];exact hk);⟨k₁,h1,.head (ff _ _ _) fJ h2⟩⟩
 |goto l=>exact absurd rfl (hq.1 l)
 |ret=>exact⟨_,a₁,w₁,hq.2,.of_steps (.one (ff _ _ _) fJ) harr⟩
 |panic ch=>exact⟨_,a₁,w₁,hq.2,.of_steps (.one (ff _ _ _) fJ) harr⟩
 |outgrown=>exact⟨_,a₁,w₁,hq.2,.of_steps (.one (ff _ _ _) fJ) harr⟩
def dT(ro:Option Nat)(P:Program)(c:Code)(Q:Exit→Act→World→Prop)(a:Act)(w:World):Prop:=
 ∀(b:Frame) (k:List Item) (cs:List Frame),b.roundOf=ro→∃e a' w',Q e a' w'∧ArrivesIn (Machine.fenced P (Fz ro)) P (lone (b.atR a (.inLoop c::k)) cs w) b k cs e a' w'
theorem rT{ro:Option Nat}{P:Program}{c:Code}{Q:Exit→Act→World→Prop}{a:Act}{w:World}(h:c.wpIn (Fz ro) 0 P (Exit.then (dT ro P c Q) Q) a w)(b:Frame)(k:List Item)(cs:List Frame)(hb:b.roundOf=ro):
  ∃e a' w',Q e a' w'∧ArrivesIn (Machine.fenced P (Fz ro)) P (lone (b.atR a (.code c:: .inLoop c::k)) cs w) b k cs e a' w':=by
 obtain⟨e,a₁,w₁,hq,harr⟩:=h b (.inLoop c::k) cs hb trivial (FX _ _)
 cases e with
 |normal=>
  obtain⟨e₂,a₂,w₂,hq₂,harr₂⟩:=hq b k cs hb
  exact⟨e₂,a₂,w₂,hq₂,.of_steps harr harr₂⟩
 |exit id=>exact⟨_,a₁,w₁,hq,.pass (x:= .inLoop c) rfl (fun _ _=> .inl (by simp)) harr⟩
 |goto l=>exact⟨_,a₁,w₁,hq,.pass (x:= .inLoop c) rfl (fun _ _=> .inl (by simp)) harr⟩
 |ret=>exact⟨_,a₁,w₁,hq,.pass (x:= .inLoop c) rfl (fun _ _=> .inl (by simp)) harr⟩
 |panic ch=>exact⟨_,a₁,w₁,hq,.pass (x:= .inLoop c) rfl (fun _ _=> .inl (by simp)) harr⟩
 |outgrown=>exact⟨_,a₁,w₁,hq,.pass (x:= .inLoop c) rfl (fun _ _=> .inl (by simp)) harr⟩
theorem xg{ro:Option Nat}{P:Program}{c:Code}{Q:Exit→Act→World→Prop}{a:Act}{w:World}(h:c.wpIn (Fz ro) 0 P (Exit.then (dT ro P c Q) Q) a w):dT ro P c Q a w:=fun b k cs hb=>
 let ⟨e,a',w',hq,harr⟩:=rT h b k cs hb
 ⟨e,a',w',hq,.of_steps (.one (ff _ _ _) stepR_inLoop) harr⟩
theorem A6{ro:Option Nat}{P:Program}{c:Code}{Q:Exit→Act→World→Prop}{a:Act}{w:World}(h:c.wpIn (Fz ro) 0 P (Exit.then (dT ro P c Q) Q) a w):(Code.loop c).wpIn (Fz ro) 0 P Q a w:=fun b k cs hb _ _=>
 let ⟨e,a',w',hq,harr⟩:=rT h b k cs hb
 ⟨e,a',w',hq,.of_steps (.one (ff _ _ _) stepR_loop) harr⟩
theorem dT.mono{ro:Option Nat}{P:Program}{c:Code}{Q Q':Exit→Act→World→Prop}{a:Act}{w:World}(h:dT ro P c Q a w)(hq:∀e a w,Q e a w→Q' e a w):dT ro P c Q' a w:=fun b k cs hb=>
 let ⟨e,a',w',q,r⟩:=h b k cs hb
 ⟨e,a',w',hq _ _ _ q,r⟩
def TmR(w:World)(g:Gh)(tm:List (Nat×A))(tmps:Array Value):Prop:=∀t,VR w g (lk t tm) (tmps.getD t undef)
def ExR(w:World)(g:Gh):Ex→Exit→Prop
 | .normal,.normal=>True
 | .exit i,.exit j=>i=j
 | .ret,.ret=>True
 | .pan x,.panic chain=>∃v,chain=[{v,recovered:=false}]∧VR w g x v
 |_,_=>False
def oL(w:World)(g:Gh):Res→Ending→Prop
 | .ret a,.returned v=>VR w g a v
 | .pan a,.panicked chain=>∃v,chain=[{v,recovered:=false}]∧VR w g a v
 |_,_=>False
section
variable (C:Cfg)
def hZ(w0 w:World)(g:Gh)(nt:Nat)(df:List Deferred)(x:Ex×St):Exit→Act→World→Prop:=fun e a' w'=>
 ∃g',SR C.P C.gl w0 g' x.2.m w'∧Ext w g w' g'∧TmR w' g' x.2.tm a'.tmps∧a'.tmps.size=nt∧a'.defers=df∧ExR w' g' x.1 e
def rM(P:Program)(f:FuncId):Prop:=∃fn c,P.funcs[f]? =some fn∧fn.body=some c∧fn.name≠ "runtime.NumGoroutine"
def aV(f:FuncId)(args:List A)(m:Mem)(r:Res×Mem):Prop:=
 rM C.P f∧∀w0 g w (vals:List Value),SR C.P C.gl w0 g m w→VRs w g args vals→
  Calls C.P f vals.toArray w fun e w'=>∃g',SR C.P C.gl w0 g' r.2 w'∧Ext w g w' g'∧oL w' g' r.1 e
def Sub:Code→Code→Prop
 | .seq x y,c=> .seq x y=c∨Sub x c∨Sub y c
 | .cond k x y,c=> .cond k x y=c∨Sub x c∨Sub y c
 | .block i x,c=> .block i x=c∨Sub x c
 | .loop x,c=> .loop x=c∨Sub x c
 | .rangeFunc g ps x y,c=> .rangeFunc g ps x y=c∨Sub x c∨Sub y c
 | .scope x,c=> .scope x=c∨Sub x c
 |b,c=>b=c
theorem Sub.refl(b:Code):Sub b b:=by cases b<;>simp[Sub]
theorem Sub.trans:∀{b c e:Code},Sub b c→Sub c e→Sub b e
 | .seq x y,c,e,h,k=>by
   rw[Sub] at h⊢
   rcases h with rfl|h|h
   ·rw[Sub] at k;exact k
   ·exact .inr (.inl (Sub.trans h k))
   ·exact .inr (.inr (Sub.trans h k))
 | .cond _ x y,c,e,h,k=>by
   rw[Sub] at h⊢
   rcases h with rfl|h|h
   ·rw[Sub] at k;exact k
   ·exact .inr (.inl (Sub.trans h k))
   ·exact .inr (.inr (Sub.trans h k))
 | .block _ x,c,e,h,k=>by
   rw[Sub] at h⊢
   rcases h with rfl|h
   ·rw[Sub] at k;exact k
   ·exact .inr (Sub.trans h k)
 | .loop x,c,e,h,k=>by
   rw[Sub] at h⊢
   rcases h with rfl|h
   ·rw[Sub] at k;exact k
   ·exact .inr (Sub.trans h k)
 | .skip,c,e,h,k=>by simp only[Sub] at h;subst h;exact k
 | .region _ _ _,c,e,h,k=>by simp only[Sub] at h;subst h;exact k
 | .rangeFunc _ _ x y,c,e,h,k=>by
   rw[Sub] at h⊢
   rcases h with rfl|h|h
   ·rw[Sub] at k;exact k
   ·exact .inr (.inl (Sub.trans h k))
   ·exact .inr (.inr (Sub.trans h k))
 | .exit _,c,e,h,k=>by simp only[Sub] at h;subst h;exact k
 | .scope x,c,e,h,k=>by
   rw[Sub] at h⊢
   rcases h with rfl|h
   ·rw[Sub] at k;exact k
   ·exact .inr (Sub.trans h k)
 | .label _,c,e,h,k=>by simp only[Sub] at h;subst h;exact k
 | .goto _,c,e,h,k=>by simp only[Sub] at h;subst h;exact k
 | .ret,c,e,h,k=>by simp only[Sub] at h;subst h;exact k
 | .refuse _,c,e,h,k=>by simp only[Sub] at h;subst h;exact k
def cJ(f:FuncId)(c:Code):Prop:=∃fn b,C.P.funcs[f]? =some fn∧fn.body=some b∧Sub b c
variable {C} in
theorem cJ.sub{f:FuncId}{c e:Code}(h:cJ C f c)(k:Sub c e):cJ C f e:=by
 obtain⟨fn,b,h1,h2,h3⟩:=h
 exact⟨fn,b,h1,h2,h3.trans k⟩
def iP(f:FuncId)(nt:Nat)(c:Code)(s:St)(x:Ex×St):Prop:=
 cJ C f c→∀(ro:Option Nat) w0 g w (a:Act),a.tmps.size=nt→SR C.P C.gl w0 g s.m w→TmR w g s.tm a.tmps→
  c.wpIn (Fz ro) 0 C.P (hZ C w0 w g nt a.defers x) a w∧∀b,c= .loop b→dT ro C.P b (hZ C w0 w g nt a.defers x) a w
def uz(f:FuncId)(nt:Nat)(c:Code)(s:St)(x:Ex×St):Prop:=
 cJ C f c→∀(fn:Func) (R:Ending→World→Prop) w0 g w (a:Act),a.tmps.size=nt→a.defers=[]→SR C.P C.gl w0 g s.m w→TmR w g s.tm a.tmps→
  (∀e g' w' tmps,SR C.P C.gl w0 g' x.2.m w'→Ext w g w' g'→TmR w' g' x.2.tm tmps→ExR w' g' x.1 e→bodyPostD C.P fn R e {tmps,defers:=[]} w')→
  c.wp C.P (bodyPostD C.P fn R) a w
def tp(f:FuncId)(nt:Nat)(all l:List Oper)(s:St)(x:Ex×St):Prop:=
 ∀(ro:Option Nat) w0 g w (a:Act) (ops:Array Oper) (k:Nat) (Q:Exit→Act→World→Prop),ops.toList=all→l=all.drop k→a.tmps.size=nt→SR C.P C.gl w0 g s.m w→TmR w g s.tm a.tmps→
  (∀e a' w',hZ C w0 w g nt a.defers x e a' w'→Q e a' w')→wpOpsIn (Fz ro) 0 C.P ops Q (List.range' k l.length) a w
structure CfgOk:Prop where
 gl:∀n,closed 0 0 (C.gl n)=true
 mixed:C.P.follows .mixedOrders=true
 dok:∀f id ops,cJ C f (.region id ops true)→C.ann.dok f id=true→sE ops (C.ann.draw f id)=true
 ext:∀f h,C.ext f=some h→∀args m r,h args m=some r→aV C f args m r
end
section
variable {C:Cfg} {w0 w w':World} {g g':Gh} {nt:Nat} {df:List Deferred} {x:Ex×St}
theorem TmR.mono{tm:List (Nat×A)}{tmps:Array Value}(h:TmR w g tm tmps)(e:Ext w g w' g'):TmR w' g' tm tmps:=fun t=>VR.mono e _ _ (h t)
theorem TmR.put{tm:List (Nat×A)}{a:Act}{d:Option Nat}{b:A}{v:Value}(h:TmR w g tm a.tmps)(hd:d.all (· <a.tmps.size)=true)(hv:VR w g b v):TmR w g (AE.put d b tm) (a.put d v).tmps:=by
 cases d with
 |none=>exact h
 |some d=>
  simp only[Option.all_some,decide_eq_true_eq] at hd
  intro t
  simp only[AE.put,lk,Act.put]
  by_cases ht:d=t
  ·subst ht
   rw[if_pos rfl]
   simp only[Array.getD_eq_getD_getElem?,Array.getElem?_setIfInBounds,if_pos hd,if_true,Option.getD_some]
   exact hv
  ·rw[if_neg ht]
   have:=h t
   simp only[Array.getD_eq_getD_getElem?,Array.getElem?_setIfInBounds,if_neg ht] at this⊢
   exact this
theorem eL(a:Act)(d:Option Nat)(v:Value):(a.put d v).tmps.size=a.tmps.size:=by cases d<;>simp[Act.put]
theorem bZ(a:Act)(d:Option Nat)(v:Value):(a.put d v).defers=a.defers:=by cases d<;>rfl
theorem TmR.opd{tm:List (Nat×A)}{a:Act}(h:TmR w g tm a.tmps)(hgl:∀n,VR w g (C.gl n) (.pointer (some ⟨n,0,none⟩))):∀x,VR w g (AE.opd C.gl tm x) (a.eval x)
 | .tmp t=>h t
 | .const v=>EI v
 | .global n=>hgl n
 | .func f=>by
   show VR w g (.fn f []) (.func (.func f) #[] #[])
   rw[VR]
   exact⟨[],rfl,VRs.mk_nil⟩
theorem AB(l:List Nat)(tm:List (Nat×A))(t:Nat):lk t (l.map fun t=>(t,lk t tm))=lk t tm∨lk t (l.map fun t=>(t,lk t tm))= .undef:=by
 induction l with
 |nil=>exact .inr rfl
 |cons u r ih=>
  simp only[List.map_cons,lk]
  by_cases h:u=t
  ·subst h;rw[if_pos rfl];exact .inl rfl
  ·rw[if_neg h];exact ih
theorem TmR.prune{tm:List (Nat×A)}{tmps:Array Value}(k:Option (List Nat))(h:TmR w g tm tmps):TmR w g (AE.prune k tm) tmps:=by
 cases k with
 |none=>exact h
 |some l=>
  intro t
  rcases AB l tm t with e|e
  ·show VR w g (lk t (l.map fun t=>(t,lk t tm))) _
   rw[e];exact h t
  ·show VR w g (lk t (l.map fun t=>(t,lk t tm))) _
   rw[e,VR];trivial
theorem hZ.ext(e:Ext w g w' g'){ex:Exit}{a:Act}{W:World}(h:hZ C w0 w' g' nt df x ex a W):hZ C w0 w g nt df x ex a W:=by
 obtain⟨g2,h1,h2,h3⟩:=h
 exact⟨g2,h1,e.trans h2,h3⟩
theorem s9{o:Oper}{all:List Oper}{ops:Array Oper}(ho:ops.toList=all){tm:List (Nat×A)}{tmps:Array Value}{b:Bool}(h:cW o all tm=some b)(ht:TmR w g tm tmps):Region.wanted o (yielded ops tmps)=b:=by
 unfold cW at h
 unfold Region.wanted
 cases hg:o.guard with
 |none=>simp only[hg,Option.some.injEq] at h;exact h
 |some p=>
  obtain⟨j,want⟩:=p
  simp only[hg] at h⊢
  have hj:ops[j]? =all[j]? :=by rw[←ho];simp
  unfold yielded
  rw[hj]
  cases hd:(all[j]?).bind (·.dst) with
  |none=>
   simp only[hd,Option.some.injEq] at h
   subst h
   simp
  |some d=>
   simp only[hd] at h
   have hv:=ht d
   unfold rF at h
   split at h
   ·rename_i c hc
    rw[hc,VR] at hv
    have hsome:tmps[d]? =some (.bool c):=by
     rw[Array.getD_eq_getD_getElem?] at hv
     cases hq:tmps[d]? with
     |none=>rw[hq] at hv;cases hv
     |some u=>rw[hq] at hv;simp at hv;rw[hv]
    simp only[Option.some.injEq] at h
    rw[←h]
    simp[hsome]
   ·rename_i hc
    rw[hc,VR] at hv
    obtain⟨us,hu,hn⟩:=hv
    rw[VRs.nil_iff] at hn
    subst hn
    simp only[Option.some.injEq] at h
    subst h
    have:∀c,tmps[d]? ≠some (.bool c):=by
     intro c hc
     rw[Array.getD_eq_getD_getElem?,hc] at hu
     cases hu
    simp only[Option.bind_some]
    cases hq:tmps[d]? with
    |none=>simp
    |some u=>
     cases u<;>first|(exfalso;exact this _ hq)|simp
   ·cases h
theorem hY{P:Program}{o:Oper}{gop:Operand}{args:Array Operand}{argTypes:Array TypeId}(ho:o.op= .call {callee:= .value gop,args,argTypes}){ρ:Operand→Value}{h:FuncId}{us:List Value}(hg:ρ gop= .func (.func h) #[] us.toArray)(hc:rM P h):
  (execOp ρ o).run P w= .ok (.enter h (args.map ρ++us.toArray)) w:=by
 obtain⟨fn,c,h1,h2,h3⟩:=hc
 have h3':(fn.name== "runtime.NumGoroutine")=false:=by simpa using h3
 simp only[execOp,ho,resolve,hg,Deferred.ofValue,Sem.run_bind,Sem.run_pure,Result.andThen_ok,invoke,callFunc,run_program,h1,h3',Bool.false_eq_true,if_false,h2,Option.isNone_some,Array.empty_append]
end
end AE
end Go.Proofs.YtmfdpijmholedaaGreatDoor
/- THE EVALUATOR IS SOUND. -/
set_option linter.unusedVariables false
set_option linter.unusedSimpArgs false
set_option linter.unusedSectionVars false
set_option maxHeartbeats 1600000
namespace Go.Proofs.YtmfdpijmholedaaGreatDoor
namespace AE
open Go Go.RowKit
section
variable {C:Cfg}
theorem Ec{ops:Array Oper}{all rest:List Oper}{o:Oper}{k:Nat}(ho:ops.toList=all)(hl:o::rest=all.drop k):ops[k]? =some o∧rest=all.drop (k+1):=by
 have h1:all[k]? =some o:=by
  have:(all.drop k)[0]? =some o:=by rw[←hl];rfl
  rwa [List.getElem?_drop,Nat.add_zero] at this
 refine⟨by rw[←Array.getElem?_toList,ho];exact h1, ?_⟩
 rw[←List.drop_drop,←hl]
 rfl
theorem ly{P:Program}{op:Op}{ρ:Operand→A}{m:Mem}{x:A×Mem}(h:opA P op ρ m=some x):∀c,op≠ .defer c:=by
 rintro c rfl
 cases h
theorem Bv{P:Program}{gl:Nat→A}{w0 w:World}{g:Gh}{m':Mem}{b:A}{r:Result Next}(h:jI P gl w0 w g m' b r):∀row args w',r≠ .ok (.row row args) w':=by
 rintro row args w' rfl
 obtain⟨v,w1,g',hr,_⟩:=h
 rcases hr with hr|⟨hr,_⟩<;>cases hr
theorem rh {ro:Option Nat} {w0 w:World} {g:Gh} {nt:Nat} {a:Act} {s:St} {ops:Array Oper} {k n:Nat} {o:Oper} {b:A} {m':Mem} {Q:Exit→Act→World→Prop}
  (ho:ops[k]? =some o) (hnd:∀c,o.op≠ .defer c) (hd:o.dst.all (· <nt)=true) (hw:Region.wanted o (yielded ops a.tmps)=true) (hsz:a.tmps.size=nt) (ht:TmR w g s.tm a.tmps)
  (hg:jI C.P C.gl w0 w g m' b ((execOp a.eval o).run C.P w))
  (hn:∀g' w' (a':Act),Ext w g w' g'→a'.tmps.size=nt→a'.defers=a.defers→SR C.P C.gl w0 g' m' w'→TmR w' g' (put o.dst b s.tm) a'.tmps→wpOpsIn (Fz ro) 0 C.P ops Q (List.range' (k+1) n) a' w'):
  wpOpsIn (Fz ro) 0 C.P ops Q (k::List.range' (k+1) n) a w:=by
 have hnr:=Bv hg
 obtain⟨v,w',g',hr,hv,hs',he⟩:=hg
 refine fb ho hw hnd hnr ?_
 have hput:o.dst.all (· <a.tmps.size)=true:=by rw[hsz];exact hd
 have hnext:=hn g' w' (a.put o.dst v) he (by rw[eL,hsz]) (bZ _ _ _) hs' ((ht.mono he).put hput hv)
 rcases hr with hr|⟨hr,rfl⟩
 ·rw[hr];exact hnext
 ·rw[hr];exact hnext
theorem xl {evC:FuncId→List A→Mem→Option (Res×Mem)} {evO:FuncId→Nat→List Oper→List Oper→St→Option (Ex×St)}
  (hc:∀f args m r,evC f args m=some r→aV C f args m r) (hoo:∀f nt all l s x,evO f nt all l s=some x→tp C f nt all l s x)
  {ro:Option Nat} {w0 w:World} {g:Gh} {f nt:Nat} {a:Act} {s:St} {x:Ex×St} {ops:Array Oper} {k:Nat} {all rest:List Oper} {o:Oper} {Q:Exit→Act→World→Prop} {gop:Operand} {args:Array Operand} {argTypes:Array TypeId}
  (hop:o.op= .call {callee:= .value gop,args,argTypes}) (hall:ops.toList=all) (hrest:rest=all.drop (k+1))
  (ho:ops[k]? =some o) (hd:o.dst.all (· <nt)=true) (hw:Region.wanted o (yielded ops a.tmps)=true) (hsz:a.tmps.size=nt) (hs:SR C.P C.gl w0 g s.m w) (ht:TmR w g s.tm a.tmps)
  {h:FuncId} {caps:List A} (hfn:opd C.gl s.tm gop= .fn h caps)
  (hev:((evC h (args.toList.map (opd C.gl s.tm)++caps) s.m).bind fun y=>match y.1 with
    | .ret b=>evO f nt all rest ⟨put o.dst b s.tm,y.2⟩
    | .pan b=>some (.pan b,⟨s.tm,y.2⟩))=some x)
  (hQ:∀e a' w',hZ C w0 w g nt a.defers x e a' w'→Q e a' w'):wpOpsIn (Fz ro) 0 C.P ops Q (k::List.range' (k+1) rest.length) a w:=by
 obtain⟨⟨r,m'⟩,h1,h2⟩:=Option.bind_eq_some_iff.1 hev
 obtain⟨hcb,hcall⟩:=hc _ _ _ _ h1
 have hopd:=ht.opd (C:=C) hs.gl
 have hg:=hopd gop
 rw[hfn,VR] at hg
 obtain⟨us,hgv,hus⟩:=hg
 refine fb ho hw (by rw[hop];intro c e;cases e) (by rw[hY hop hgv hcb];intro _ _ _ e;cases e) ?_
 rw[hY hop hgv hcb,Oper.upon_enter]
 have hargs:VRs w g (args.toList.map (opd C.gl s.tm)++caps) (args.toList.map a.eval++us):=(mg hopd).append hus
 have:=hcall w0 g w _ hs hargs
 rw[show(args.toList.map a.eval++us).toArray=args.map a.eval++us.toArray from by
  apply Array.ext';simp] at this
 refine this.mono fun e w' hR=> ?_
 obtain⟨g',hs',he,hres⟩:=hR
 cases r with
 |ret b=>
  cases e with
  |returned v=>
   have hput:o.dst.all (· <a.tmps.size)=true:=by rw[hsz];exact hd
   have hk:=hoo _ _ _ _ _ _ h2 ro w0 g' w' (a.put o.dst v) ops (k+1) Q hall hrest (by rw[eL,hsz]) hs' ((ht.mono he).put hput hres)
    (fun e a' W hp=>hQ e a' W (by rw[bZ] at hp;exact hZ.ext he hp))
   exact hk
  |panicked ch=>exact hres.elim
  |outgrown=>exact hres.elim
 |pan b=>
  simp only[Option.some.injEq] at h2
  subst h2
  cases e with
  |returned v=>exact hres.elim
  |panicked ch=>exact hQ _ _ _ ⟨g',hs',he,ht.mono he,hsz,rfl,hres⟩
  |outgrown=>exact hres.elim
theorem pt {evC:FuncId→List A→Mem→Option (Res×Mem)} {evO:FuncId→Nat→List Oper→List Oper→St→Option (Ex×St)}
  (hc:∀f args m r,evC f args m=some r→aV C f args m r) (hoo:∀f nt all l s x,evO f nt all l s=some x→tp C f nt all l s x)
  (f nt:Nat) (all l:List Oper) (s:St) (x:Ex×St)
  (h:(match l with
   |[]=>some (Ex.normal,s)
   |o::rest=>
    match o.dst.all (· <nt),cW o all s.tm with
    |true,some true=>
     match o.op with
     | .panic x=>(li (opd C.gl s.tm x)).map fun a=>(.pan a,s)
     | .call {callee:= .value g,args,argTypes}=>
       match opd C.gl s.tm g with
       | .fn h caps=>(do
         let x ←evC h (args.toList.map (opd C.gl s.tm)++caps) s.m
         match x.1 with
          | .ret a=>evO f nt all rest ⟨put o.dst a s.tm,x.2⟩
          | .pan a=>some (.pan a,⟨s.tm,x.2⟩))
       |_=>none
     | .convert t u x=>
       match pG C.P t u (opd C.gl s.tm x) s.m with
       |some a=>evO f nt all rest ⟨put o.dst a s.tm,s.m⟩
       |none=>(do
        let x ←opA C.P (.convert t u x) (opd C.gl s.tm) s.m
        evO f nt all rest ⟨put o.dst x.1 s.tm,x.2⟩)
     |op=>(do
      let x ←opA C.P op (opd C.gl s.tm) s.m
      evO f nt all rest ⟨put o.dst x.1 s.tm,x.2⟩)
    |true,some false=>evO f nt all rest ⟨put o.dst (.tup []) s.tm,s.m⟩
    |_,_=>none)=some x):tp C f nt all l s x:=by
 intro ro w0 g w a ops k Q hall hl hsz hs ht hQ
 cases l with
 |nil=>
  simp only[Option.some.injEq] at h
  subst h
  exact hQ _ _ _ ⟨g,hs,Ext.refl _ _,ht,hsz,rfl,trivial⟩
 |cons o rest=>
  obtain⟨hok,hrest⟩:=Ec hall hl
  have hlen:List.range' k (o::rest).length=k::List.range' (k+1) rest.length:=by simp[List.range'_succ]
  rw[hlen]
  simp only at h
  cases hd:o.dst.all (· <nt) with
  |false=>simp[hd] at h
  |true=>
  cases hw:cW o all s.tm with
  |none=>simp[hd,hw] at h
  |some b=>
  have hwant:=s9 hall hw ht
  simp only[hd,hw] at h
  cases b with
  |false=>
   simp only at h
   refine yu hok hwant ?_
   have hput:o.dst.all (· <a.tmps.size)=true:=by rw[hsz];exact hd
   exact hoo _ _ _ _ _ _ h ro w0 g w (a.put o.dst undef) ops (k+1) Q hall hrest (by rw[eL,hsz]) hs (ht.put hput (by rw[VR];exact⟨[],rfl,VRs.mk_nil⟩))
    (fun e a' W hp=>hQ e a' W (by rw[bZ] at hp;exact hp))
  |true=>
   simp only at h
   have hopd:=ht.opd (C:=C) hs.gl
   split at h
   ·rename_i p hop
    obtain⟨b,hb,rfl⟩:=Option.map_eq_some_iff.1 h
    unfold li at hb
    split at hb
    ·rename_i t y hv
     simp only[Option.some.injEq] at hb
     subst hb
     have hp:=hopd p
     rw[hv] at hp
     have hp':=hp
     rw[VR] at hp
     obtain⟨u,hu,_⟩:=hp
     have hr:(execOp a.eval o).run C.P w= .halt (.panic (.iface t u)) w:=by
      simp only[execOp,hop,hu,Instr.panic,Sem.run_bind,run_goPanic,Result.andThen_halt]
     refine fb hok hwant (by rw[hop];intro c e;cases e) (by rw[hr];intro _ _ _ e;cases e) ?_
     rw[hr,Oper.upon_panic]
     exact hQ _ _ _ ⟨g,hs,Ext.refl _ _,ht,hsz,rfl,_,rfl,by rw[←hu];exact hp'⟩
    ·cases hb
   ·rename_i gop args argTypes hop
    cases hfn:opd C.gl s.tm gop<;>simp only[hfn,reduceCtorEq] at h
    exact xl hc hoo hop hall hrest hok hd hwant hsz hs ht hfn h hQ
   ·rename_i t u y hop
    cases hst:pG C.P t u (opd C.gl s.tm y) s.m with
    |some b=>
     rw[hst] at h
     obtain⟨v,hv1,hv2⟩:=Ah hs hst (hopd y)
     exact rh hok (by rw[hop];intro c e;cases e) hd hwant hsz ht (jI.pure hs hv2 (by simp only[execOp,hop,Sem.run_bind,hv1,Result.andThen_ok,Sem.run_pure])) fun g' w' a' he hsz' hdf hs' ht'=>
      hoo _ _ _ _ _ _ h ro w0 g' w' a' ops (k+1) Q hall hrest hsz' hs' ht' (fun e a'' W hp=>hQ e a'' W (by rw[hdf] at hp;exact hZ.ext he hp))
    |none=>
     rw[hst] at h
     obtain⟨⟨b,m'⟩,h1,h2⟩:=Option.bind_eq_some_iff.1 h
     rw[←hop] at h1
     have hgood:=fM hs o h1 hopd
     exact rh hok (ly h1) hd hwant hsz ht hgood fun g' w' a' he hsz' hdf hs' ht'=>
      hoo _ _ _ _ _ _ h2 ro w0 g' w' a' ops (k+1) Q hall hrest hsz' hs' ht' (fun e a'' W hp=>hQ e a'' W (by rw[hdf] at hp;exact hZ.ext he hp))
   ·rename_i op hop1 hop2 hop3
    obtain⟨⟨b,m'⟩,h1,h2⟩:=Option.bind_eq_some_iff.1 h
    have hgood:=fM hs o h1 hopd
    exact rh hok (ly h1) hd hwant hsz ht hgood fun g' w' a' he hsz' hdf hs' ht'=>
     hoo _ _ _ _ _ _ h2 ro w0 g' w' a' ops (k+1) Q hall hrest hsz' hs' ht' (fun e a'' W hp=>hQ e a'' W (by rw[hdf] at hp;exact hZ.ext he hp))
theorem tS (hC:CfgOk C) {m0 m:Mem} {w0 w w':World} {g g':Gh} (c2:m0.bx.length≤m.bx.length)
  (c3:∀i,i<m0.bx.length→m.bx[i]? =m0.bx[i]? ∨∃cs,m.bx[i]? =some cs∧cs.all (closed m0.bx.length m.rw.length)=true)
  (c4:∀i,i<m.rw.length→m.rw[i]? =m0.rw[i]? ∨∃r,m.rw[i]? =some r∧r.cs.all (closed m0.bx.length m.rw.length)=true)
  (hs0:SR C.P C.gl w0 g m0 w) (hs:SR C.P C.gl w0 g' m w') (he:Ext w g w' g'):
  SR C.P C.gl w0 (dc g' m0.bx.length m.rw.length) ⟨m.bx.take m0.bx.length,m.rw⟩ w'∧Ext w g w' (dc g' m0.bx.length m.rw.length):=by
 have hlen:=hs.rlen
 have hlen0:=hs0.rlen
 have hle:m0.rw.length≤m.rw.length:=by
  rcases Nat.eq_zero_or_pos m0.rw.length with q|q
  ·omega
  ·have hlt:m0.rw.length-1<g.rl.length:=by omega
   obtain⟨L',h1,_⟩:=he.rl _ _ (List.getElem?_eq_getElem hlt)
   have:=(List.getElem?_eq_some_iff.1 h1).1
   omega
 have hcut:=hs.cut hC.gl m0.bx.length m.rw.length c2 (Nat.le_refl _)
  (fun i cs hi hq=>by
   rcases c3 i hi with e|⟨ds,e,hd⟩
   ·rw[hq] at e
    obtain⟨us,ty,_,hv⟩:=hs0.bx i cs e.symm
    have:=VRs.closed _ _ hv
    rw[hs0.nb,hlen0,ce] at this
    rw[←ce] at this⊢
    exact cd (Nat.le_refl _) hle _ this
   ·rw[hq] at e
    cases e
    exact hd)
  (fun i r hi hq=>by
   rcases c4 i hi with e|⟨r',e,hd⟩
   ·rw[hq] at e
    obtain⟨us,ss,rest,_,_,_,hv⟩:=hs0.rw i r e.symm
    have:=VRs.closed _ _ hv
    rw[hs0.nb,hlen0] at this
    rw[←ce]
    exact cd (Nat.le_refl _) hle _ this
   ·rw[hq] at e
    cases e
    exact hd)
 rw[List.take_length] at hcut
 refine⟨hcut,⟨⟨fun b o hF=>⟨.inl (he.fx b o hF).1,(he.fx b o hF).2⟩,by simp[dc,hs0.nb],he.bb,fun i L hL=> ?_⟩,fun b hb hl=> ?_,he.sz⟩⟩
 ·obtain⟨L',h1,h2⟩:=he.rl i L hL
  have:=(List.getElem?_eq_some_iff.1 h1).1
  exact⟨L',by simp only[dc];rw[List.getElem?_take,if_pos (by omega)];exact h1,h2⟩
 ·obtain⟨h1,h2⟩:=he.fr b hb hl
  exact⟨h1,h2.cut _ _ (by rw[hs.nb];exact c2)⟩
theorem rG(hC:CfgOk C){k:Option (List Nat)}{s s1:St}{m0:Mem}{w0 w w':World}{g g':Gh}{tmps:Array Value}(h:endRound k m0 s=some s1)(hs0:SR C.P C.gl w0 g m0 w)(hs:SR C.P C.gl w0 g' s.m w')(he:Ext w g w' g')(ht:TmR w' g' s.tm tmps):
  ∃g'',SR C.P C.gl w0 g'' s1.m w'∧Ext w g w' g''∧TmR w' g'' s1.tm tmps:=by
 unfold endRound at h
 cases k with
 |none=>
  simp only[Option.some.injEq] at h
  subst h
  exact⟨g',hs,he,ht⟩
 |some l=>
  simp only at h
  split at h
  ·rename_i hc
   obtain⟨c1,c2,c3,c4⟩:=hc
   simp only[Option.some.injEq] at h
   subst h
   have hlen:=hs.rlen
   have hlen0:=hs0.rlen
   have hle:m0.rw.length≤s.m.rw.length:=by
    rcases Nat.eq_zero_or_pos m0.rw.length with q|q
    ·omega
    ·have hlt:m0.rw.length-1<g.rl.length:=by omega
     obtain⟨L',h1,_⟩:=he.rl _ _ (List.getElem?_eq_getElem hlt)
     have:=(List.getElem?_eq_some_iff.1 h1).1
     omega
   have hcut:=hs.cut hC.gl m0.bx.length s.m.rw.length c2 (Nat.le_refl _)
    (fun i cs hi hq=>by
     rcases c3 i hi with e|⟨ds,e,hd⟩
     ·rw[hq] at e
      obtain⟨us,ty,_,hv⟩:=hs0.bx i cs e.symm
      have:=VRs.closed _ _ hv
      rw[hs0.nb,hlen0,ce] at this
      rw[←ce] at this⊢
      exact cd (Nat.le_refl _) hle _ this
     ·rw[hq] at e
      cases e
      exact hd)
    (fun i r hi hq=>by
     rcases c4 i hi with e|⟨r',e,hd⟩
     ·rw[hq] at e
      obtain⟨us,ss,rest,_,_,_,hv⟩:=hs0.rw i r e.symm
      have:=VRs.closed _ _ hv
      rw[hs0.nb,hlen0] at this
      rw[←ce]
      exact cd (Nat.le_refl _) hle _ this
     ·rw[hq] at e
      cases e
      exact hd)
   rw[List.take_length] at hcut
   refine⟨_,hcut, ?_, ?_⟩
   ·refine⟨⟨fun b o hF=>⟨.inl (he.fx b o hF).1,(he.fx b o hF).2⟩,by simp[dc,hs0.nb],he.bb,fun i L hL=> ?_⟩,fun b hb hl=> ?_,he.sz⟩
    ·obtain⟨L',h1,h2⟩:=he.rl i L hL
     have:=(List.getElem?_eq_some_iff.1 h1).1
     exact⟨L',by simp only[dc];rw[List.getElem?_take,if_pos (by omega)];exact h1,h2⟩
    ·obtain⟨h1,h2⟩:=he.fr b hb hl
     exact⟨h1,h2.cut _ _ (by rw[hs.nb];exact c2)⟩
   ·intro t
    show VR w' _ (lk t (l.map fun t=>(t,lk t s.tm))) _
    by_cases hin:t∈l
    ·rcases AB l s.tm t with e|e
     ·rw[e]
      exact VR.cut _ _ (c1 t hin) (ht t)
     ·rw[e,VR];trivial
    ·have:lk t (l.map fun t=>(t,lk t s.tm))= .undef:=by
      clear c1
      induction l with
      |nil=>rfl
      |cons u r ih=>
       simp only[List.mem_cons,not_or] at hin
       simp only[List.map_cons,lk]
       rw[if_neg (Ne.symm hin.1)]
       exact ih hin.2
     rw[this,VR];trivial
  ·cases h
theorem xd(hC:CfgOk C){keep:Bool}{m0 m:Mem}{r:Res}{x:Res×Mem}{w0 w w':World}{g g':Gh}{e:Ending}(h:bC C.P keep m0 r m=some x)(hs0:SR C.P C.gl w0 g m0 w)(hs:SR C.P C.gl w0 g' m w')(he:Ext w g w' g')(hr:oL w' g' r e):
  ∃g'',SR C.P C.gl w0 g'' x.2 w'∧Ext w g w' g''∧oL w' g'' x.1 e:=by
 unfold bC at h
 split at h
 ·split at h
  ·rename_i hk
   obtain⟨⟨c2,c3,c4⟩,c1⟩:=hk
   simp only[Option.some.injEq] at h
   subst h
   obtain⟨q1,q2⟩:=tS hC c2 c3 c4 hs0 hs he
   refine⟨_,q1,q2, ?_⟩
   cases r with
   |ret a=>
    cases e with
    |returned v=>exact VR.cut _ _ c1 hr
    |panicked ch=>exact hr.elim
    |outgrown=>exact hr.elim
   |pan a=>
    cases e with
    |returned v=>exact hr.elim
    |panicked ch=>
     obtain⟨v,hv,hr⟩:=hr
     exact⟨v,hv,VR.cut _ _ c1 hr⟩
    |outgrown=>exact hr.elim
  ·cases h
 ·split at h
  ·rename_i hk
   obtain⟨k1,k2,k3,k4⟩:=hk
   simp only[Option.some.injEq] at h
   subst h
   have hlen0:=hs0.rlen
   have hcut:=hs.cut hC.gl m0.bx.length m0.rw.length k1 k2
    (fun i cs hi hq=>by
     rcases k3 i hi with e|⟨ds,e,hd⟩
     ·rw[hq] at e
      obtain⟨us,ty,_,hv⟩:=hs0.bx i cs e.symm
      have:=VRs.closed _ _ hv
      rwa [hs0.nb,hlen0,ce] at this
     ·rw[hq] at e
      cases e
      exact hd)
    (fun i r hi hq=>by
     rcases k4 i hi with e|⟨r',e,hd⟩
     ·rw[hq] at e
      obtain⟨us,ss,rest,_,_,_,hv⟩:=hs0.rw i r e.symm
      have:=VRs.closed _ _ hv
      rwa [hs0.nb,hlen0,ce] at this
     ·rw[hq] at e
      cases e
      exact hd)
   have hext:=he.cut
   rw[hs0.nb,hlen0] at hext
   refine⟨_,hcut,hext, ?_⟩
   cases r with
   |ret a=>
    cases e with
    |returned v=>exact xB hs _ _ _ hr
    |panicked ch=>exact hr.elim
    |outgrown=>exact hr.elim
   |pan a=>
    cases e with
    |returned v=>exact hr.elim
    |panicked ch=>
     obtain⟨v,hv,hr⟩:=hr
     exact⟨v,hv,xB hs _ _ _ hr⟩
    |outgrown=>exact hr.elim
  ·cases h
end
end AE
end Go.Proofs.YtmfdpijmholedaaGreatDoor
/- Regions that draw their order: whatever order the tape fg, what the evaluator answers in the text's order holds. -/
set_option linter.unusedVariables false
set_option linter.unusedSimpArgs false
set_option linter.unusedSectionVars false
set_option maxHeartbeats 1600000
namespace Go.Proofs.YtmfdpijmholedaaGreatDoor
namespace AE
open Go Go.RowKit
def Ax(ops:Array Oper):(Nat→Bool)→List Nat→Prop
 |L,[]=>∀i,i<ops.size→L i=true
 |L,i::r=>i<ops.size∧L i=false∧(∀o,ops[i]? =some o→∀e∈o.after.toList,Region.binds .any e=true→L e.on=true)∧Ax ops (fun j=>if j=i then true else L j) r
theorem Ax.congr{ops:Array Oper}:∀{l:List Nat} {L L':Nat→Bool},(∀i,i<ops.size→L i=L' i)→(∀(i:Nat) (o:Oper),ops[i]? =some o→∀e∈o.after.toList,Region.binds .any e=true→e.on<ops.size)→Ax ops L l→Ax ops L' l
 |[],L,L',h,_,k=>fun i hi=>by rw[←h i hi];exact k i hi
 |i::r,L,L',h,hb,⟨k1,k2,k3,k4⟩=>by
  refine⟨k1,by rw[←h i k1];exact k2,fun o ho e he hbe=> ?_,k4.congr (fun j hj=> ?_) hb⟩
  ·rw[←h _ (hb i o ho e he hbe)];exact k3 o ho e he hbe
  ·show(if j=i then true else L j)=(if j=i then true else L' j)
   rw[h j hj]
def iS(L:Array Bool)(n:Nat):Nat:=((List.range n).filter fun i=> !L.getD i true).length
theorem wM{L:Array Bool}{n i:Nat}(hi:i<n)(hs:L.size=n)(hL:L.getD i true=false):iS (L.setIfInBounds i true) n+1=iS L n:=by
 unfold iS
 have key:∀l:List Nat,l.Nodup→i∈l→(l.filter fun j=> !(L.setIfInBounds i true).getD j true).length+1=(l.filter fun j=> !L.getD j true).length:=by
  intro l
  induction l with
  |nil=>intro _ h;simp at h
  |cons j r ih=>
   intro hnd hmem
   have hnd':=List.nodup_cons.1 hnd
   by_cases hji:j=i
   ·subst hji
    have h1:(L.setIfInBounds j true).getD j true=true:=by
     simp[Array.getD_eq_getD_getElem?,Array.getElem?_setIfInBounds]
     split<;>simp
    have h2:∀k∈r,(L.setIfInBounds j true).getD k true=L.getD k true:=by
     intro k hk
     have:j≠k:=fun e=>hnd'.1 (e▸hk)
     simp[Array.getD_eq_getD_getElem?,Array.getElem?_setIfInBounds,this]
    have h3:(r.filter fun k=> !(L.setIfInBounds j true).getD k true)=r.filter fun k=> !L.getD k true:=List.filter_congr fun k hk=>by rw[h2 k hk]
    simp only[List.filter_cons,h1,hL,h3]
    simp
   ·have hm:i∈r:=by
     rcases List.mem_cons.1 hmem with e|e
     ·exact absurd e.symm hji
     ·exact e
    have h1:(L.setIfInBounds i true).getD j true=L.getD j true:=by
     have:i≠j:=fun e=>hji e.symm
     simp[Array.getD_eq_getD_getElem?,Array.getElem?_setIfInBounds,this]
    have:=ih hnd'.2 hm
    simp only[List.filter_cons,h1]
    split
    ·simp only[List.length_cons];omega
    ·exact this
 exact key (List.range n) List.nodup_range (List.mem_range.2 hi)
theorem ol(ops:Array Oper)(hlt:∀i o,ops[i]? =some o→∀e∈o.after.toList,Region.binds .any e=true→e.on<i):
  ∀(fuel t:Nat) (L:Array Bool) (acc:List Nat),L.size=ops.size→iS L ops.size=fuel→∃l,Region.linearise.go .any ops fuel t L acc=acc.reverse++l∧Ax ops (fun i=>L.getD i true) l
 |0,t,L,acc,hs,hu=>by
  refine⟨[],by simp[Region.linearise.go],fun i hi=> ?_⟩
  unfold iS at hu
  have:(List.range ops.size).filter (fun i=> !L.getD i true)=[]:=List.eq_nil_of_length_eq_zero hu
  have:=List.filter_eq_nil_iff.1 this i (List.mem_range.2 hi)
  simpa using this
 |fuel+1,t,L,acc,hs,hu=>by
  let rs:=(List.range ops.size).filter fun i=> !L.getD i true&&((ops[i]?).map (·.after.all fun e=> !Region.binds .any e||L.getD e.on false)).getD false
  have hne:rs≠[]:=by
   have hpos:(List.range ops.size).filter (fun i=> !L.getD i true)≠[]:=by
    intro h
    unfold iS at hu
    rw[h] at hu
    simp at hu
   obtain⟨i0,hi0⟩:=List.exists_mem_of_ne_nil _ hpos
   rw[List.mem_filter,List.mem_range] at hi0
   have hmin:∀i,i<ops.size→(!L.getD i true)=true→∃j,j<ops.size∧(!L.getD j true)=true∧∀k,k<j→L.getD k true=true:=by
    intro i
    induction i using Nat.strongRecOn with
    |_ i ih=>
     intro hi hL
     by_cases h:∀k,k<i→L.getD k true=true
     ·exact⟨i,hi,hL,h⟩
     ·simp only[Classical.not_forall] at h
      obtain⟨k,hk,hk'⟩:=h
      exact ih k hk (by omega) (by simpa using hk')
   obtain⟨j,hj,hjL,hjmin⟩:=hmin i0 hi0.1 hi0.2
   intro h
   have:j∈rs:=by
    rw[List.mem_filter,List.mem_range]
    refine⟨hj, ?_⟩
    rw[Bool.and_eq_true]
    refine⟨hjL, ?_⟩
    rw[Array.getElem?_eq_getElem hj]
    simp only[Option.map_some,Option.getD_some]
    rw[Array.all_eq_true']
    intro e he
    cases hb:Region.binds .any e with
    |false=>rfl
    |true=>
     have hlt':=hlt j ops[j] (Array.getElem?_eq_getElem hj) e (by simpa using he) hb
     have:=hjmin _ hlt'
     have hin:e.on<L.size:=by omega
     simp only[Array.getD_eq_getD_getElem?,Array.getElem?_eq_getElem hin,Option.getD_some] at this⊢
     rw[this]
     rfl
   rw[h] at this
   simp at this
  have hlen:t % rs.length<rs.length:=Nat.mod_lt _ (List.length_pos_iff.2 hne)
  have hget:rs[t % rs.length]? =some rs[t % rs.length]:=List.getElem?_eq_getElem hlen
  have hmem:rs[t % rs.length]∈rs:=List.getElem_mem hlen
  generalize rs[t % rs.length]=i at hget hmem
  rw[List.mem_filter,List.mem_range,Bool.and_eq_true] at hmem
  obtain⟨hi,hL,hr⟩:=hmem
  have hL':L.getD i true=false:=by simpa using hL
  obtain⟨l,h1,h2⟩:=ol ops hlt fuel (t / rs.length) (L.setIfInBounds i true) (i::acc) (by simpa using hs) (by have:=wM hi hs hL';omega)
  refine⟨i::l, ?_,hi,hL',fun o ho e he hb=> ?_, ?_⟩
  ·rw[Region.linearise.go]
   show(match rs[t % rs.length]? with|some i=>_|none=>_)=_
   rw[hget]
   simp only
   rw[h1]
   simp
  ·rw[ho] at hr
   simp only[Option.map_some,Option.getD_some] at hr
   rw[Array.all_eq_true'] at hr
   have:=hr e (by simpa using he)
   rw[hb] at this
   simp only[Bool.not_true,Bool.false_or] at this
   simp only[Array.getD_eq_getD_getElem?] at this⊢
   cases hq:L[e.on]? with
   |none=>rfl
   |some b=>rw[hq] at this;simpa using this
  ·refine h2.congr (fun j hj=> ?_) (fun j o ho e he hb=>Nat.lt_trans (hlt j o ho e he hb) (Array.getElem?_eq_some_iff.1 ho).1)
   by_cases hji:j=i
   ·subst hji
    have:j<L.size:=by omega
    simp[Array.getD_eq_getD_getElem?,Array.getElem?_setIfInBounds,this]
   ·have:i≠j:=fun e=>hji e.symm
    simp[Array.getD_eq_getD_getElem?,Array.getElem?_setIfInBounds,this,hji]
theorem tK(ops:Array Oper)(hlt:∀i o,ops[i]? =some o→∀e∈o.after.toList,Region.binds .any e=true→e.on<i)(mixed:Bool)(hm:mixed=true)(t:Nat):Ax ops (fun _=>false) (Region.schedule mixed ops t):=by
 subst hm
 unfold Region.schedule
 simp only[Bool.true_or,if_true]
 unfold Region.linearise
 obtain⟨l,h1,h2⟩:=ol ops hlt ops.size t (Array.replicate ops.size false) [] (by simp) (by
  unfold iS
  rw[List.filter_eq_self.2]
  ·simp
  ·intro i hi
   rw[List.mem_range] at hi
   simp[Array.getD_eq_getD_getElem?,hi])
 rw[h1]
 simp only[List.reverse_nil,List.nil_append]
 refine h2.congr (fun i hi=> ?_) (fun j o ho e he hb=>Nat.lt_trans (hlt j o ho e he hb) (Array.getElem?_eq_some_iff.1 ho).1)
 simp[Array.getD_eq_getD_getElem?,hi]
section
variable {C:Cfg}
def Gz(C:Cfg)(all:List Oper)(o:Oper)(s:St)(kd:EKind)(v:A)(m1:Mem):Prop:=
 (cW o all s.tm=some false∧v= .tup []∧m1=s.m∧kd=qz o.op)∨
 (cW o all s.tm=some true∧((∃gop args tys h caps,o.op= .call {callee:= .value gop,args:=args,argTypes:=tys}∧opd C.gl s.tm gop= .fn h caps∧aV C h (args.toList.map (opd C.gl s.tm)++caps) s.m (.ret v,m1)∧kd= .eff)∨
  ((∀gop args tys,o.op≠ .call {callee:= .value gop,args:=args,argTypes:=tys})∧opA C.P o.op (opd C.gl s.tm) s.m=some (v,m1)∧kd=qy o.op (opd C.gl s.tm))))
def G8(C:Cfg)(all:List Oper)(o:Oper)(s:St)(a:A)(m:Mem):Prop:=
 cW o all s.tm=some true∧∃gop args tys h caps,o.op= .call {callee:= .value gop,args:=args,argTypes:=tys}∧opd C.gl s.tm gop= .fn h caps∧aV C h (args.toList.map (opd C.gl s.tm)++caps) s.m (.pan a,m)
def Au(C:Cfg)(d:DrawAnn)(po:Option (Nat×A×Mem))(i:Nat)(all:List Oper)(o:Oper)(s:St)(kd:EKind)(v:A)(m1:Mem):Prop:=
 (Gz C all o s kd v m1∧∀a m,po≠some (i,a,m))∨(∃p a m,po=some (p,a,m)∧p∈d.pre.getD i []∧m1=s.m)∨(∃a m,po=some (i,a,m)∧m1=s.m∧G8 C all o s a m)
def iV(C:Cfg)(nt:Nat)(d:DrawAnn)(po:Option (Nat×A×Mem))(all:List Oper):Nat→List Oper→St→List Ent→St→Prop
 |_,[],s,tr,s'=>tr=[]∧s'=s
 |i,o::rest,s,tr,s'=>∃kd v m1 tr',tr=⟨kd,v,s.m⟩::tr'∧o.dst.all (· <nt)=true∧Au C d po i all o s kd v m1∧iV C nt d po all (i+1) rest ⟨put o.dst v s.tm,m1⟩ tr' s'
def iu(C:Cfg)(nt:Nat)(all:List Oper):List Oper→St→List Ent→Option (A×Mem)×St→Prop
 |[],s,tr,y=>tr=[]∧y=(none,s)
 |o::rest,s,tr,y=>o.dst.all (· <nt)=true∧
  ((∃kd v m1 tr',tr=⟨kd,v,s.m⟩::tr'∧Gz C all o s kd v m1∧iu C nt all rest ⟨put o.dst v s.tm,m1⟩ tr' y)∨
   (∃a m,tr=[⟨.eff,.undef,s.m⟩]∧y=(some (a,m),⟨put o.dst .undef s.tm,s.m⟩)∧G8 C all o s a m))
theorem iu.valid{C:Cfg}{nt:Nat}{d:DrawAnn}{all:List Oper}:∀{l:List Oper} {i:Nat} {s s':St} {tr:List Ent},iu C nt all l s tr (none,s')→iV C nt d none all i l s tr s'
 |[],i,s,s',tr,⟨h1,h2⟩=>by
  simp only[Prod.mk.injEq,true_and] at h2
  exact⟨h1,h2⟩
 |o::rest,i,s,s',tr,⟨hd,h⟩=>by
  rcases h with⟨kd,v,m1,tr',h1,h2,h3⟩|⟨a,m,_,h2,_⟩
  ·exact⟨kd,v,m1,tr',h1,hd,.inl ⟨h2,fun a m e=>by cases e⟩,h3.valid⟩
  ·simp at h2
theorem iE{C:Cfg}{nt:Nat}{d:DrawAnn}{all:List Oper}{p:Nat}{a:A}{m:Mem}:∀{l:List Oper} {i:Nat} {s s':St} {tr:List Ent},dG C.P C.gl nt d all p i l s=some (tr,s')→p<i→iV C nt d (some (p,a,m)) all i l s tr s'
 |[],i,s,s',tr,h,hpi=>by
  rw[dG] at h
  simp only[Option.some.injEq,Prod.mk.injEq] at h
  exact⟨h.1.symm,h.2.symm⟩
 |o::rest,i,s,s',tr,h,hpi=>by
  have hne:∀(a':A) (m':Mem),some (p,a,m)≠some (i,a',m'):=fun a' m' e=>by simp only[Option.some.injEq,Prod.mk.injEq] at e;omega
  rw[dG] at h
  split at h
  case isFalse=>cases h
  rename_i hd
  split at h
  ·rename_i hp
   obtain⟨⟨tr',s1⟩,h1,h2⟩:=Option.map_eq_some_iff.1 h
   simp only[Prod.mk.injEq] at h2
   obtain⟨rfl,rfl⟩:=h2
   exact⟨_,_,_,_,rfl,hd,.inr (.inl ⟨p,a,m,rfl,List.contains_iff_mem.1 hp,rfl⟩),iE h1 (by omega)⟩
  ·split at h
   ·cases h
   ·rename_i hnee
    cases hw:cW o all s.tm with
    |none=>simp only[hw] at h;cases h
    |some b=>
    cases b with
    |false=>
     simp only[hw] at h
     obtain⟨⟨tr',s1⟩,h1,h2⟩:=Option.map_eq_some_iff.1 h
     simp only[Prod.mk.injEq] at h2
     obtain⟨rfl,rfl⟩:=h2
     exact⟨_,_,_,_,rfl,hd,.inl ⟨.inl ⟨hw,rfl,rfl,rfl⟩,hne⟩,iE h1 (by omega)⟩
    |true=>
     simp only[hw] at h
     obtain⟨⟨v,m1⟩,h0,h⟩:=Option.bind_eq_some_iff.1 h
     obtain⟨⟨tr',s1⟩,h1,h2⟩:=Option.map_eq_some_iff.1 h
     simp only[Prod.mk.injEq] at h2
     obtain⟨rfl,rfl⟩:=h2
     exact⟨_,_,_,_,rfl,hd,.inl ⟨.inr ⟨hw,.inr ⟨fun gop args tys e=>by rw[e] at hnee;simp[eE] at hnee,h0,rfl⟩⟩,hne⟩,iE h1 (by omega)⟩
theorem iu.pan_pos{C:Cfg}{nt:Nat}{all:List Oper}{z:A×Mem}:∀{l:List Oper} {s s1:St} {tr:List Ent},iu C nt all l s tr (some z,s1)→1≤tr.length
 |[],s,s1,tr,⟨h1,h2⟩=>by simp at h2
 |o::rest,s,s1,tr,⟨hd,hh⟩=>by
  rcases hh with⟨kd,v,m1,tr',rfl,h2,h3⟩|⟨a',m',rfl,h2,h3⟩<;>simp
theorem iu.valid_pan{C:Cfg}{nt:Nat}{d:DrawAnn}{all:List Oper}{a:A}{m:Mem}{p:Nat}:∀{l:List Oper} {i:Nat} {s s1 s':St} {tr tr2:List Ent},iu C nt all l s tr (some (a,m),s1)→p+1=i+tr.length→dG C.P C.gl nt d all p (i+tr.length) (l.drop tr.length) s1=some (tr2,s')→iV C nt d (some (p,a,m)) all i l s (tr++tr2) s'
 |[],i,s,s1,s',tr,tr2,⟨h1,h2⟩,hp,h=>by simp at h2
 |o::rest,i,s,s1,s',tr,tr2,⟨hd,hh⟩,hp,h=>by
  rcases hh with⟨kd,v,m1,tr',rfl,h2,h3⟩|⟨a',m',rfl,h2,h3⟩
  ·have hpos:=h3.pan_pos
   refine⟨kd,v,m1,tr'++tr2,rfl,hd,.inl ⟨h2,fun a' m' e=>by simp only[Option.some.injEq,Prod.mk.injEq] at e;simp at hp;omega⟩,h3.valid_pan (i:=i+1) (by simp at hp;omega) ?_⟩
   rw[List.length_cons,List.drop_succ_cons] at h
   rw[show i+1+tr'.length=i+(tr'.length+1) by omega]
   exact h
  ·simp only[Prod.mk.injEq,Option.some.injEq] at h2
   obtain⟨⟨rfl,rfl⟩,rfl⟩:=h2
   have:p=i:=by simp at hp;omega
   subst this
   exact⟨.eff,.undef,s.m,tr2,rfl,hd,.inr (.inr ⟨a,m,rfl,rfl,h3⟩),iE h (by simp)⟩
theorem iu.slots{C:Cfg}{nt:Nat}{all:List Oper}{t:Nat}:∀{l:List Oper} {s:St} {tr:List Ent} {y:Option (A×Mem)×St},iu C nt all l s tr y→(∀o∈l,o.dst≠some t)→lk t y.2.tm=lk t s.tm
 |[],s,tr,y,⟨_,h⟩,_=>by rw[h]
 |o::rest,s,tr,y,⟨hd,h⟩,hne=>by
  have h0:∀v:A,lk t (put o.dst v s.tm)=lk t s.tm:=fun v=>by
   have h1:=hne o (by simp)
   cases hdst:o.dst with
   |none=>rfl
   |some u=>
    rw[hdst] at h1
    have:¬u=t:=fun e=>h1 (by rw[e])
    simp only[put,lk]
    rw[if_neg this]
  rcases h with⟨kd,v,m1,tr',_,_,h3⟩|⟨a,m,_,h2,_⟩
  ·rw[h3.slots fun o' ho'=>hne o' (by simp[ho'])]
   exact h0 v
  ·rw[h2]
   exact h0 _
theorem nq {evC:FuncId→List A→Mem→Option (Res×Mem)} {evD:FuncId→Nat→List Oper→List Oper→St→Option (List Ent×Option (A×Mem)×St)}
  (hc:∀f args m r,evC f args m=some r→aV C f args m r) (hd:∀f nt all l s x,evD f nt all l s=some x→iu C nt all l s x.1 x.2)
  (f nt:Nat) (all l:List Oper) (s:St) (x:List Ent×Option (A×Mem)×St)
  (h:(match l with
   |[]=>some ([],none,s)
   |o::rest=>
    match o.dst.all (· <nt),cW o all s.tm with
    |true,some true=>
     match o.op with
     | .call {callee:= .value g,args,argTypes}=>
       match opd C.gl s.tm g with
       | .fn h caps=>(do
         let x ←evC h (args.toList.map (opd C.gl s.tm)++caps) s.m
         match x.1 with
          | .ret a=>(do let y ←evD f nt all rest ⟨put o.dst a s.tm,x.2⟩;some (⟨.eff,a,s.m⟩::y.1,y.2))
          | .pan a=>some ([⟨.eff,.undef,s.m⟩],some (a,x.2),⟨put o.dst .undef s.tm,s.m⟩))
       |_=>none
     |op=>(do
      let x ←opA C.P op (opd C.gl s.tm) s.m
      let y ←evD f nt all rest ⟨put o.dst x.1 s.tm,x.2⟩
      some (⟨qy op (opd C.gl s.tm),x.1,s.m⟩::y.1,y.2))
    |true,some false=>(do let y ←evD f nt all rest ⟨put o.dst (.tup []) s.tm,s.m⟩;some (⟨qz o.op,.tup [],s.m⟩::y.1,y.2))
    |_,_=>none)=some x):iu C nt all l s x.1 x.2:=by
 cases l with
 |nil=>
  simp only[Option.some.injEq] at h
  subst h
  exact⟨rfl,rfl⟩
 |cons o rest=>
  simp only at h
  cases hdd:o.dst.all (· <nt) with
  |false=>simp[hdd] at h
  |true=>
  cases hw:cW o all s.tm with
  |none=>simp[hdd,hw] at h
  |some b=>
  simp only[hdd,hw] at h
  cases b with
  |false=>
   simp only at h
   obtain⟨y,h1,h2⟩:=Option.bind_eq_some_iff.1 h
   simp only[Option.some.injEq] at h2
   subst h2
   exact⟨hdd,.inl ⟨_,_,_,_,rfl,.inl ⟨hw,rfl,rfl,rfl⟩,hd _ _ _ _ _ _ h1⟩⟩
  |true=>
   simp only at h
   split at h
   ·rename_i gop args tys hop
    cases hfn:opd C.gl s.tm gop<;>simp only[hfn,reduceCtorEq] at h
    rename_i hh caps
    obtain⟨⟨r,m'⟩,h1,h2⟩:=Option.bind_eq_some_iff.1 h
    cases r with
    |pan a=>
     simp only[Option.some.injEq] at h2
     subst h2
     exact⟨hdd,.inr ⟨a,m',rfl,rfl,hw,gop,args,tys,hh,caps,hop,hfn,hc _ _ _ _ h1⟩⟩
    |ret a=>
     obtain⟨y,h3,h4⟩:=Option.bind_eq_some_iff.1 h2
     simp only[Option.some.injEq] at h4
     subst h4
     exact⟨hdd,.inl ⟨_,_,_,_,rfl,.inr ⟨hw,.inl ⟨gop,args,tys,hh,caps,hop,hfn,hc _ _ _ _ h1,rfl⟩⟩,hd _ _ _ _ _ _ h3⟩⟩
   ·rename_i op hop
    obtain⟨⟨a,m'⟩,h1,h2⟩:=Option.bind_eq_some_iff.1 h
    obtain⟨y,h3,h4⟩:=Option.bind_eq_some_iff.1 h2
    simp only[Option.some.injEq] at h4
    subst h4
    exact⟨hdd,.inl ⟨_,_,_,_,rfl,.inr ⟨hw,.inr ⟨fun gop args tys e=>hop gop args tys e,h1,rfl⟩⟩,hd _ _ _ _ _ _ h3⟩⟩
def ik:List Oper→List Ent→List (Nat×A)→Nat→List (Nat×A)
 |o::l,e::tr,tm,i+1=>ik l tr (put o.dst e.v tm) i
 |_,_,tm,_=>tm
theorem B0{d:Option Nat}{a:A}{tm:List (Nat×A)}{t:Nat}(h:d≠some t):lk t (put d a tm)=lk t tm:=by
 cases d with
 |none=>rfl
 |some d=>
  have:d≠t:=fun e=>h (by rw[e])
  simp only[put,lk]
  rw[if_neg this]
theorem i8:∀(l:List Oper) (tr:List Ent) (tm:List (Nat×A)) (i t:Nat),(∀j o,j<i→l[j]? =some o→o.dst≠some t)→lk t (ik l tr tm i)=lk t tm
 |[],tr,tm,i,t,_=>by cases tr<;>cases i<;>rfl
 |o::l,[],tm,i,t,_=>by cases i<;>rfl
 |o::l,e::tr,tm,0,t,_=>rfl
 |o::l,e::tr,tm,i+1,t,h=>by
  rw[ik,i8 l tr _ i t fun j o' hj ho=>h (j+1) o' (by omega) (by simpa using ho)]
  exact B0 (h 0 o (by omega) rfl)
theorem oC:∀(l:List Oper) (tr:List Ent) (tm:List (Nat×A)) (i j t:Nat) (o:Oper) (e:Ent),j<i→l[j]? =some o→tr[j]? =some e→o.dst=some t→(∀k o',k≠j→l[k]? =some o'→o'.dst≠some t)→lk t (ik l tr tm i)=e.v
 |[],tr,tm,i,j,t,o,e,_,ho,_,_,_=>by simp at ho
 |o'::l,[],tm,i,j,t,o,e,_,_,he,_,_=>by simp at he
 |o'::l,e'::tr,tm,0,j,t,o,e,hj,_,_,_,_=>by omega
 |o'::l,e'::tr,tm,i+1,0,t,o,e,hj,ho,he,hd,hne=>by
  simp at ho he
  subst ho he
  rw[ik,i8 l tr _ i t fun k o'' _ hk=>hne (k+1) o'' (by omega) (by simpa using hk),hd]
  simp[put,lk]
 |o'::l,e'::tr,tm,i+1,j+1,t,o,e,hj,ho,he,hd,hne=>by
  rw[ik]
  exact oC l tr _ i j t o e (by omega) (by simpa using ho) (by simpa using he) hd fun k o'' hk hk'=>hne (k+1) o'' (by omega) (by simpa using hk')
def bF(tr:List Ent)(fin:Mem)(i:Nat):Mem:=((tr[i]?).map (·.m)).getD fin
section
variable {nt:Nat} {d:DrawAnn} {po:Option (Nat×A×Mem)} {all:List Oper}
theorem iV.length:∀{n:Nat} {l:List Oper} {s s':St} {tr:List Ent},iV C nt d po all n l s tr s'→tr.length=l.length
 |_,[],_,_,_,⟨rfl,_⟩=>rfl
 |_,_::_,_,_,_,⟨_,_,_,_,rfl,_,_,h⟩=>by simp[h.length]
theorem iV.head:∀{n:Nat} {l:List Oper} {s s':St} {tr:List Ent},iV C nt d po all n l s tr s'→bF tr s'.m 0=s.m
 |_,[],_,_,_,⟨rfl,rfl⟩=>rfl
 |_,_::_,_,_,_,⟨_,_,_,_,rfl,_,_,h⟩=>rfl
theorem iV.last:∀{n:Nat} {l:List Oper} {s s':St} {tr:List Ent},iV C nt d po all n l s tr s'→s'.tm=ik l tr s.tm l.length
 |_,[],_,_,_,⟨rfl,rfl⟩=>rfl
 |_,_::_,_,_,_,⟨_,_,_,_,rfl,_,_,h⟩=>by rw[h.last];rfl
theorem iV.at_:∀{n:Nat} {l:List Oper} {s s':St} {tr:List Ent} (i:Nat) (o:Oper),iV C nt d po all n l s tr s'→l[i]? =some o→
  ∃e,tr[i]? =some e∧o.dst.all (· <nt)=true∧Au C d po (n+i) all o ⟨ik l tr s.tm i,e.m⟩ e.kd e.v (bF tr s'.m (i+1))
 |_,[],_,_,_,i,o,_,h=>by simp at h
 |n,o'::l,s,s',_,0,o,⟨kd,v,m1,tr',rfl,h1,h2,h3⟩,h=>by
  simp at h
  subst h
  refine⟨_,rfl,h1, ?_⟩
  have hm:bF (⟨kd,v,s.m⟩::tr') s'.m 1=m1:=h3.head
  rw[hm]
  exact h2
 |n,o'::l,s,s',_,i+1,o,⟨kd,v,m1,tr',rfl,h1,h2,h3⟩,h=>by
  obtain⟨e,k1,k2,k3⟩:=iV.at_ i o h3 (by simpa using h)
  refine⟨e,by simpa using k1,k2, ?_⟩
  rw[show n+(i+1)=n+1+i by omega]
  exact k3
end
theorem jP{op:Op}{ρ ρ':Operand→A}{m:Mem}(h:∀x∈op.operands.toList,ρ x=ρ' x):opA C.P op ρ m=opA C.P op ρ' m:=by
 cases op
 case move x=>simp only[opA];rw[h x (by simp[Op.operands])]
 case assign x=>simp only[opA];rw[h x (by simp[Op.operands])]
 case pick c x y=>simp only[opA];rw[h c (by simp[Op.operands]),h x (by simp[Op.operands]),h y (by simp[Op.operands])]
 case alloc e=>rfl
 case box e x=>simp only[opA];rw[h x (by simp[Op.operands])]
 case build t ps=>
  simp only[opA]
  rw[List.map_congr_left fun p hp=>by rw[h p.2 (by simp only[Op.operands];exact List.mem_map.2 ⟨p,hp,rfl⟩)]]
 case buildSlice t n ps=>
  simp only[opA]
  rw[List.map_congr_left fun p hp=>by rw[h p.2 (by simp only[Op.operands];exact List.mem_map.2 ⟨p,hp,rfl⟩)]]
 case load t x=>simp only[opA];rw[h x (by simp[Op.operands])]
 case store t x y=>simp only[opA];rw[h x (by simp[Op.operands]),h y (by simp[Op.operands])]
 case nilCheck x=>simp only[opA];rw[h x (by simp[Op.operands])]
 case binOp o t x y u=>simp only[opA];rw[h x (by simp[Op.operands]),h y (by simp[Op.operands])]
 case unOp o t x=>simp only[opA];rw[h x (by simp[Op.operands])]
 case convert t u x=>simp only[opA];rw[h x (by simp[Op.operands])]
 case makeInterface t x=>simp only[opA];rw[h x (by simp[Op.operands])]
 case makeFunc f first caps=>
  cases f<;>simp only[opA]
  rw[List.map_congr_left fun x hx=>h x (by simp only[Op.operands,Array.toList_append,List.mem_append];exact .inr hx)]
 case makeSlice t x y=>simp only[opA];rw[h x (by simp[Op.operands]),h y (by simp[Op.operands])]
 case slice t x lo hi mx=>
  simp only[opA]
  have e1:lo.map ρ=lo.map ρ':=by cases lo with|none=>rfl|some y=>simp only[Option.map_some];rw[h y (by simp[Op.operands])]
  have e2:hi.map ρ=hi.map ρ':=by cases hi with|none=>rfl|some y=>simp only[Option.map_some];rw[h y (by simp[Op.operands])]
  have e3:mx.map ρ=mx.map ρ':=by cases mx with|none=>rfl|some y=>simp only[Option.map_some];rw[h y (by simp[Op.operands])]
  rw[h x (by simp[Op.operands]),e1,e2,e3]
 case fieldAddr t x i=>simp only[opA];rw[h x (by simp[Op.operands])]
 case field t x i=>simp only[opA];rw[h x (by simp[Op.operands])]
 case indexAddr t x i=>simp only[opA];rw[h x (by simp[Op.operands]),h i (by simp[Op.operands])]
 case index t x i=>simp only[opA];rw[h x (by simp[Op.operands]),h i (by simp[Op.operands])]
 case typeAssert x xt t ok=>simp only[opA];rw[h x (by simp[Op.operands])]
 case extract x i=>simp only[opA];rw[h x (by simp[Op.operands])]
 case call c=>
  obtain⟨callee,args,tys⟩:=c
  cases callee<;>simp only[opA]
  rw[List.map_congr_left fun x hx=>h x (by simp only[Op.operands,Call.operands,Array.toList_append,List.mem_append];exact .inr hx)]
 all_goals rfl
theorem Be{op:Op}{ρ:Operand→A}{m m' m1:Mem}{v:A}(he:eE op=false)(hl:∀t x,op≠ .load t x)(h:opA C.P op ρ m=some (v,m1)):m1=m∧opA C.P op ρ m'=some (v,m'):=by
 have mp:∀x:Option A,x.map (·,m)=some (v,m1)→m1=m∧x.map (·,m')=some (v,m'):=by
  intro x hx
  obtain⟨r,hr,e⟩:=Option.map_eq_some_iff.1 hx
  simp only[Prod.mk.injEq] at e
  obtain⟨rfl,rfl⟩:=e
  exact⟨rfl,by rw[hr];rfl⟩
 cases op<;>simp only[opA,eE,reduceCtorEq] at h he⊢
 case move x=>simp only[Option.some.injEq,Prod.mk.injEq] at h;obtain⟨rfl,rfl⟩:=h;exact⟨rfl,rfl⟩
 case assign x=>simp only[Option.some.injEq,Prod.mk.injEq] at h;obtain⟨rfl,rfl⟩:=h;exact⟨rfl,rfl⟩
 case load t x=>exact absurd rfl (hl t x)
 case makeInterface t x=>
  split at h
  ·cases h
  ·rename_i hi
   simp only[Option.some.injEq,Prod.mk.injEq] at h
   obtain⟨rfl,rfl⟩:=h
   exact⟨rfl,by rw[if_neg hi]⟩
 case makeFunc f first caps=>
  cases f<;>simp only[opA,reduceCtorEq] at h⊢
  split at h
  ·rename_i hi
   simp only[Option.some.injEq,Prod.mk.injEq] at h
   obtain⟨rfl,rfl⟩:=h
   exact⟨rfl,by rw[if_pos hi]⟩
  ·cases h
 case call c=>
  obtain⟨callee,args,tys⟩:=c
  cases callee<;>simp only[opA,reduceCtorEq] at h⊢
  rename_i b
  unfold il at h⊢
  split at h
  ·exact mp _ h
  ·exact mp _ h
  ·exact mp _ h
  ·simp at he
  ·cases h
 all_goals exact mp _ h
section
variable {P:Program} {gl:Nat→A}
theorem SR.adoptRow{w0 w:World}{g:Gh}{m:Mem}(h:SR P gl w0 g m w){b:Nat}{us:Array Value}{ss rest:List Value}{e:TypeId}{z:List A}(hb:w0.heap.size≤b)(hl:dj g b)(hh:w.heap[b]? =some (.cells us e (0,0)))(hus:us.toList=ss++rest)(hc:VRs w g z ss):
  ∃g',SR P gl w0 g' ⟨m.bx,m.rw++[⟨e,z⟩]⟩ w∧ExtB w g w g'∧g'.br m.rw.length=b∧g'.cz m.rw.length=us.size∧g'.es m.rw.length=ao P e∧g'.rl[m.rw.length]? =some z.length∧g'.sh m.rw.length=0∧∀b',b'≠b→dj g b'→dj g' b':=by
 let g':Gh:={g with br:=fun i=>if i=m.rw.length then b else g.br i,cz:=fun i=>if i=m.rw.length then us.size else g.cz i,es:=fun i=>if i=m.rw.length then ao P e else g.es i,sh:=fun i=>if i=m.rw.length then 0 else g.sh i,rl:=g.rl++[z.length]}
 have hlen:=h.rlen
 have E:ExtB w g w g':=by
  refine⟨fun b o hF=>⟨hF,rfl⟩,Nat.le_refl _,fun i hi=>rfl,fun i L hL=> ?_⟩
  have hi:=(List.getElem?_eq_some_iff.1 hL).1
  refine⟨L,by simp only[g'];rw[List.getElem?_append_left hi];exact hL,Nat.le_refl _,fun _=> ?_, ?_⟩
  ·simp only[g'];rw[if_neg (by omega),if_neg (by omega),if_neg (by omega)];exact⟨rfl,rfl,rfl⟩
  ·simp only[g'];rw[if_neg (by omega)]
 have hlt:∀i,i<m.rw.length→g'.br i=g.br i∧g'.cz i=g.cz i∧g'.es i=g.es i∧g'.sh i=g.sh i:=fun i hi=>by
  simp only[g'];rw[if_neg (by omega),if_neg (by omega),if_neg (by omega),if_neg (by omega)];exact⟨rfl,rfl,rfl,rfl⟩
 have hnew:g'.br m.rw.length=b∧g'.cz m.rw.length=us.size∧g'.es m.rw.length=ao P e∧g'.sh m.rw.length=0:=by simp[g']
 have hl':g'.rl.length=m.rw.length+1:=by simp[g',hlen]
 have hcase:∀i,i<g'.rl.length→i=m.rw.length∨(i<m.rw.length∧i<g.rl.length):=fun i hi=>by omega
 refine⟨g',⟨h.below,h.nb,by simp[g',h.rl],fun i r hi=> ?_,fun i ds hi=> ?_,fun i r hi=> ?_,h.ownb,fun i hi=> ?_,h.injb,fun i j hi hj hij=> ?_,fun i j hi hj=> ?_,h.lim,fun n=>VR.monoB E _ _ (h.gl n),h.dr,h.tb⟩,E,hnew.1,hnew.2.1,hnew.2.2.1, ?_,hnew.2.2.2,fun b' hb' hl'=>⟨hl'.1,fun i hi=> ?_,hl'.2.2⟩⟩
 ·rcases Nat.lt_or_ge i m.rw.length with hk|hk
  ·rw[List.getElem?_append_left hk] at hi
   rw[(hlt i hk).2.2.1]
   exact h.es i r hi
  ·rw[List.getElem?_append_right hk] at hi
   obtain rfl:i=m.rw.length:=by
    have:=(List.getElem?_eq_some_iff.1 hi).1
    simp at this
    omega
   simp at hi
   subst hi
   exact hnew.2.2.1
 ·obtain⟨vs,t,h1,h2⟩:=h.bx i ds hi
  exact⟨vs,t,h1,VRs.monoB E _ _ h2⟩
 ·rcases Nat.lt_or_ge i m.rw.length with hk|hk
  ·rw[List.getElem?_append_left hk] at hi
   obtain⟨vs,ss',rest',h1,h2,h3,h4⟩:=h.rw i r hi
   exact⟨vs,ss',rest',by rw[(hlt i hk).1];exact h1,by rw[(hlt i hk).2.1];exact h2,by rw[(hlt i hk).2.2.2];exact h3,VRs.monoB E _ _ h4⟩
  ·rw[List.getElem?_append_right hk] at hi
   obtain rfl:i=m.rw.length:=by
    have:=(List.getElem?_eq_some_iff.1 hi).1
    simp at this
    omega
   simp at hi
   subst hi
   exact⟨us,ss,rest,by rw[hnew.1];exact hh,hnew.2.1.symm,by rw[hnew.2.2.2];exact hus,VRs.monoB E _ _ hc⟩
 ·rcases hcase i hi with rfl|⟨h1,h2⟩
  ·rw[hnew.1];exact⟨hb,hl.2.2⟩
  ·rw[(hlt i h1).1];exact h.ownr i h2
 ·rcases hcase i hi with rfl|⟨h1,h2⟩
  ·rcases hcase j hj with rfl|⟨h3,h4⟩
   ·rfl
   ·rw[hnew.1,(hlt j h3).1] at hij
    exact absurd hij.symm (hl.2.1 j h4)
  ·rcases hcase j hj with rfl|⟨h3,h4⟩
   ·rw[hnew.1,(hlt i h1).1] at hij
    exact absurd hij (hl.2.1 i h2)
   ·rw[(hlt i h1).1,(hlt j h3).1] at hij
    exact h.injr i j h2 h4 hij
 ·rcases hcase j hj with rfl|⟨h1,h2⟩
  ·rw[hnew.1];exact hl.1 i hi
  ·rw[(hlt j h1).1];exact h.dis i j hi h2
 ·simp only[g']
  rw[List.getElem?_append_right (by omega),hlen]
  simp
 ·rcases hcase i hi with rfl|⟨h1,h2⟩
  ·rw[hnew.1];exact Ne.symm hb'
  ·rw[(hlt i h1).1];exact hl'.2.1 i h2
def AK(P:Program)(gl:Nat→A)(op:Op)(ρ:Operand→A)(b:Nat)(us:Array Value)(T:TypeId)(val:Value):Prop:=
 ∀(w0 w:World) (g:Gh) (m m':Mem) (a:A),SR P gl w0 g m w→w0.heap.size≤b→dj g b→w.heap[b]? =some (.cells us T (0,0))→opA P op ρ m=some (a,m')→
  ∃g',SR P gl w0 g' m' w∧ExtB w g w g'∧VR w g' a val∧∀b',b'≠b→dj g b'→dj g' b'
theorem Dy{o:Oper}(hal:EG o.op=true){ρA:Operand→A}{ρ:Operand→Value}{w:World}{g:Gh}{m m':Mem}{a:A}(h:opA P o.op ρA m=some (a,m'))(hρ:∀x,VR w g (ρA x) (ρ x)):
  ∃us T val,(execOp ρ o).run P w= .ok (.value val) (w.alloc (.cells us T))∧AK P gl o.op ρA w.heap.size us T val:=by
 obtain⟨dst,op,ty,pos,after,guard⟩:=o
 simp only at hal h
 cases op<;>simp only[EG,Bool.false_eq_true] at hal
 case alloc T=>
  simp only[opA] at h
  obtain⟨z,hz,_⟩:=Option.bind_eq_some_iff.1 h
  obtain⟨zv,hzr,hzz⟩:=jK (w:=w) hz
  refine⟨zv.cells,T,.pointer (some ⟨w.heap.size,0,none⟩), ?_, ?_⟩
  ·simp only[execOp,Instr.alloc,Sem.run_bind,hzr,Result.andThen_ok,newVar,newRow,run_newObj,Sem.run_pure]
   rfl
  ·intro w0 w2 g2 m2 m2' a2 hs hb hl hh ho
   simp only[opA,hz,Option.bind_some,Option.some.injEq,Prod.mk.injEq] at ho
   obtain⟨rfl,rfl⟩:=ho
   obtain⟨g',s1,s2,s3,s4,s5⟩:=hs.adopt hb hl hh (z:=z) (by rw[hzz];exact dp _)
   refine⟨g',s1,s2, ?_,s5⟩
   rw[VR]
   exact⟨by rw[s4];omega,by rw[s3]⟩
 case makeSlice t lo co=>
  simp only[opA] at h
  obtain⟨n,us,e,zl,h1,h2,h3,h4⟩:=ll h (hρ lo) (hρ co)
  refine⟨us,e,.slice (some ⟨w.heap.size,0,none⟩) n n, ?_, ?_⟩
  ·simp only[execOp,Sem.run_bind,h4,Result.andThen_ok,Sem.run_pure]
  ·intro w0 w2 g2 m2 m2' a2 hs hb hl hh ho
   simp only[opA,h1,Option.some.injEq,Prod.mk.injEq] at ho
   obtain⟨rfl,rfl⟩:=ho
   obtain⟨g',s1,s2,s3,s4,s5,s6,s6',s7⟩:=hs.adoptRow hb hl hh (ss:=us.toList) (rest:=[]) (z:=zl) (by simp) (by rw[h2];exact dp _)
   refine⟨g',s1,s2, ?_,s7⟩
   have hzl:zl.length=n*ao P e:=by rw[h2];simp[h3]
   have:=VR.mk_sl (w:=w2) (n:=n) (c:=n) s6 s6' (Nat.le_refl _) (by rw[s5,s4,h3];exact Nat.le_refl _) (by rw[s5,hzl];exact Nat.le_refl _)
   rw[s3,hzl] at this
   exact this
end
def JV(ops:Array Oper)(d:DrawAnn)(j:Nat)(o':Oper):Prop:=
 EG o'.op=true∧o'.guard=none∧∀(k:Nat) (ok:Oper) (t:Nat),ops[k]? =some ok→o'.dst=some t→t∈cI ops ok→∀(e:Nat) (oe:Oper),ops[e]? =some oe→eE oe.op=true→e<j→e∈d.pre.getD k []
def rk(ops:Array Oper)(i:Nat)(k:Option Nat)(s:Nat):Prop:=match k with
 |some k=>k<i∧∃o,ops[k]? =some o∧o.dst=some s
 |none=>∀(q:Nat) (o:Oper),ops[q]? =some o→o.dst≠some s
structure LateOk (ops:Array Oper) (d:DrawAnn) (i j:Nat) (o o':Oper) (l:LateAnn):Prop where
 mem:l∈d.late
 st:∃x,o.op= .store l.t (.tmp l.sa) x
 st':∃x,o'.op= .store l.u (.tmp l.sb) x
 gd:o.guard=none
 gd':o'.guard=none
 ds:o.dst=none
 ds':o'.dst=none
 sl:rk ops i l.ka l.sa
 sl':rk ops j l.kb l.sb
 effs:∀(k:Nat) (ok:Oper),ops[k]? =some ok→eE ok.op=true→k≠i→k≠j→k<i∧k∈d.pre.getD i []∧k∈d.pre.getD j []
 lds:∀(k:Nat) (ok:Oper) (t:TypeId) (x:Operand),ops[k]? =some ok→ok.op= .load t x→k∈d.pre.getD j []
structure DrawFacts (ops:Array Oper) (d:DrawAnn):Prop where
 lt:∀(i:Nat) (o:Oper),ops[i]? =some o→∀e∈o.after.toList,Region.binds .any e=true→e.on<i
 pre:∀(i:Nat) (o:Oper),ops[i]? =some o→∀j∈d.pre.getD i [],∃e∈o.after.toList,Region.binds .any e=true∧(e.on=j∨j∈d.pre.getD e.on [])
 dst:∀(i j:Nat) (o o':Oper) (t:Nat),ops[i]? =some o→ops[j]? =some o'→i≠j→o.dst=some t→o'.dst≠some t
 reads:∀(i j:Nat) (o o':Oper) (t:Nat),ops[i]? =some o→ops[j]? =some o'→t∈cI ops o→o'.dst=some t→(j<i∧j∈d.pre.getD i [])∨(i<j∧i∈d.pre.getD j [])
 effs:∀(i j:Nat) (o o':Oper),ops[i]? =some o→ops[j]? =some o'→eE o.op=true→eE o'.op=true→i<j→i∈d.pre.getD j []∨JV ops d j o'∨∃l,LateOk ops d i j o o' l
 need:∀(i:Nat) (o:Oper) (t:TypeId) (x:Operand),ops[i]? =some o→o.op= .load t x→(i,(kZ d.pre i (kt ops)).1,(kZ d.pre i (kt ops)).2)∈d.need
 pan:∀(i:Nat) (o:Oper) (x:Operand),ops[i]? =some o→o.op≠ .panic x
theorem wS{ops:Array Oper}{d:DrawAnn}(h:sE ops d=true):DrawFacts ops d:=by
 unfold sE at h
 simp only[List.all_eq_true,List.mem_range,Bool.and_eq_true] at h
 have hat:∀(i:Nat) (o:Oper),ops[i]? =some o→i<ops.size∧(ops[i]?).getD default=o:=fun i o ho=>⟨(Array.getElem?_eq_some_iff.1 ho).1,by rw[ho];rfl⟩
 refine⟨fun i o ho e he hb=> ?_,fun i o ho j hj=> ?_,fun i j o o' t ho ho' hij hd=> ?_,fun i j o o' t ho ho' ht hd=> ?_,fun i j o o' ho ho' h1 h2 hij=> ?_,fun i o t x ho hop=> ?_,fun i o x ho hop=> ?_⟩
 ·obtain⟨hi,hq⟩:=hat i o ho
  have:=(h i hi).1.1.1.1.1.1
  rw[hq] at this
  have:=this e he
  rw[hb] at this
  simpa using this
 ·obtain⟨hi,hq⟩:=hat i o ho
  have:=(h i hi).1.1.1.1.1.2
  rw[hq] at this
  have:=this j hj
  rw[List.any_eq_true] at this
  obtain⟨e,he,hb⟩:=this
  simp only[Bool.and_eq_true,Bool.or_eq_true,beq_iff_eq,List.contains_iff_mem] at hb
  exact⟨e,he,hb.1,hb.2⟩
 ·obtain⟨hi,hq⟩:=hat i o ho
  obtain⟨hj,hq'⟩:=hat j o' ho'
  have:=(h i hi).1.1.1.1.2 j hj
  rw[hq,hq',hd] at this
  simp only[Bool.or_eq_true,beq_iff_eq,Option.isNone_some,Bool.false_eq_true,or_false,bne_iff_ne,ne_eq] at this
  rcases this with e|e
  ·exact absurd e hij
  ·exact fun q=>e q.symm
 ·obtain⟨hi,hq⟩:=hat i o ho
  obtain⟨hj,hq'⟩:=hat j o' ho'
  have:=(h i hi).1.1.1.2 t (by rw[hq];exact ht) j hj
  rw[hq',hd] at this
  simpa [List.contains_iff_mem] using this
 ·obtain⟨hi,hq⟩:=hat i o ho
  obtain⟨hj,hq'⟩:=hat j o' ho'
  have:=(h i hi).1.1.2 j hj
  rw[hq,hq',h1,h2] at this
  simp only[Bool.not_true,Bool.false_or,hij,decide_true,Bool.or_eq_true,Bool.and_eq_true,List.all_eq_true,List.mem_range,List.contains_iff_mem,List.any_eq_true,beq_iff_eq] at this
  rcases this with(q|⟨⟨q1,q2⟩,q3⟩)|⟨l,hl,⟨e1,e2⟩,hb⟩
  ·exact .inl q
  ·refine .inr (.inl ⟨?_,by simpa using q2,fun k ok t hok hdt htk e oe hoe hee hej=> ?_⟩)
   ·exact q1
   ·obtain⟨hk,hqk⟩:=hat k ok hok
    obtain⟨he,hqe⟩:=hat e oe hoe
    have:=q3 k hk t (by rw[hqk];exact htk)
    rw[hdt] at this
    simp only[bne_self_eq_false,Bool.false_eq_true,false_or] at this
    have:=this e hej
    rw[hqe,hee] at this
    simpa using this
  ·refine .inr (.inr ⟨l, ?_⟩)
   unfold GS at hb
   simp only[Bool.and_eq_true,List.all_eq_true,List.mem_range] at hb
   obtain⟨⟨⟨⟨⟨⟨⟨⟨b1,b2⟩,b3⟩,b4⟩,b5⟩,b6⟩,b7⟩,b8⟩,b9⟩:=hb
   subst e1
   subst e2
   rw[hq] at b1 b3 b5
   rw[hq'] at b2 b4 b6
   have slot:∀(i:Nat) (k:Option Nat) (s:Nat),Bo ops i k s=true→rk ops i k s:=fun i k s hs=>by
    unfold Bo at hs
    unfold rk
    cases k with
    |some k=>
     simp only[Bool.and_eq_true,decide_eq_true_eq,beq_iff_eq] at hs⊢
     exact⟨hs.1.1,ops[k],Array.getElem?_eq_getElem hs.1.2,by have:=hs.2;rw[Array.getElem?_eq_getElem hs.1.2] at this;exact this⟩
    |none=>
     simp only[List.all_eq_true,List.mem_range,bne_iff_ne] at hs⊢
     intro q oq hoq
     have h1:=hs q (hat q oq hoq).1
     rwa [(hat q oq hoq).2] at h1
   have store:∀(op:Op) (t:TypeId) (s:Nat),EY t s op=true→∃x,op= .store t (.tmp s) x:=fun op t s hs=>by
    cases op<;>simp only[EY,Bool.false_eq_true] at hs
    rename_i u a x
    cases a<;>simp only[EY,Bool.false_eq_true,Bool.and_eq_true,beq_iff_eq] at hs
    obtain⟨rfl,rfl⟩:=hs
    exact⟨x,rfl⟩
   refine⟨hl,store _ _ _ b1,store _ _ _ b2,by simpa using b3,by simpa using b4,by simpa using b5,by simpa using b6,slot _ _ _ b7,slot _ _ _ b8,fun k ok hok hke hki hkj=> ?_,fun k ok t x hok hkl=> ?_⟩
   ·obtain⟨hk,hqk⟩:=hat k ok hok
    have:=(b9 k hk).1
    rw[hqk,hke] at this
    simp only[Bool.not_true,Bool.false_or,Bool.or_eq_true,beq_iff_eq,Bool.and_eq_true,decide_eq_true_eq,List.contains_iff_mem] at this
    rcases this with(e|e)|⟨⟨e1,e2⟩,e3⟩
    ·exact absurd e hki
    ·exact absurd e hkj
    ·exact⟨e1,e2,e3⟩
   ·obtain⟨hk,hqk⟩:=hat k ok hok
    have:=(b9 k hk).2
    rw[hqk,hkl] at this
    simpa [Kl,List.contains_iff_mem] using this
 ·obtain⟨hi,hq⟩:=hat i o ho
  have:=(h i hi).1.2
  rw[hq,hop] at this
  simp only[List.any_eq_true,Bool.and_eq_true,beq_iff_eq] at this
  obtain⟨q,hp,⟨h1,h2⟩,h3⟩:=this
  have e:q=(i,(kZ d.pre i (kt ops)).1,(kZ d.pre i (kt ops)).2):=Prod.ext h1 (Prod.ext h2 h3)
  rw[←e]
  exact hp
 ·obtain⟨hi,hq⟩:=hat i o ho
  have:=(h i hi).2
  rw[hq,hop] at this
  cases this
theorem EZ(Pp:Nat→Prop)[DecidablePred Pp](n:Nat):∀k a,a+k=n→∃c,a≤c∧c≤n∧(∀j,a≤j→j<c→¬Pp j)∧(c=n∨Pp c)
 |0,a,h=>⟨a,Nat.le_refl _,by omega,fun j h1 h2=>by omega,.inl (by omega)⟩
 |k+1,a,h=>by
  by_cases ha:Pp a
  ·exact⟨a,Nat.le_refl _,by omega,fun j h1 h2=>by omega,.inr ha⟩
  ·obtain⟨c,h1,h2,h3,h4⟩:=EZ Pp n k (a+1) (by omega)
   refine⟨c,by omega,h2,fun j h5 h6=> ?_,h4⟩
   by_cases hj:j=a
   ·subst hj;exact ha
   ·exact h3 j (by omega) h6
structure Drawn (C:Cfg) (nt:Nat) (ops:Array Oper) (d:DrawAnn) (po:Option (Nat×A×Mem)) (s s':St) (tr:List Ent):Prop where
 valid:iV C nt d po ops.toList 0 ops.toList s tr s'
 facts:DrawFacts ops d
 need:iz C.P tr s'.m d.need
 late:po=none→iR C.P tr s'.tm d.late
def da(ops:Array Oper)(i:Nat):Prop:=∃o,ops[i]? =some o∧eE o.op=true
instance (ops:Array Oper):DecidablePred (da ops):=fun i=>by
 unfold da
 cases h:ops[i]? with
 |none=>exact isFalse (by rintro⟨o,h,_⟩;cases h)
 |some o=>
  by_cases he:eE o.op=true
  ·exact isTrue ⟨o,rfl,he⟩
  ·exact isFalse (by rintro⟨o',h,h'⟩;cases h;exact he h')
section
variable {nt:Nat} {ops:Array Oper} {d:DrawAnn} {po:Option (Nat×A×Mem)} {s s':St} {tr:List Ent} (D:Drawn C nt ops d po s s' tr)
include D
theorem Drawn.step(i:Nat)(o:Oper)(h:ops[i]? =some o):∃e,tr[i]? =some e∧e.m=bF tr s'.m i∧o.dst.all (· <nt)=true∧Au C d po i ops.toList o ⟨ik ops.toList tr s.tm i,bF tr s'.m i⟩ e.kd e.v (bF tr s'.m (i+1)):=by
 obtain⟨e,h1,h2,h3⟩:=D.valid.at_ i o (by simpa using h)
 rw[Nat.zero_add] at h3
 have hm:bF tr s'.m i=e.m:=by unfold bF;rw[h1];rfl
 exact⟨e,h1,hm.symm,h2,by rw[hm];exact h3⟩
theorem Drawn.still(i:Nat)(o:Oper)(h:ops[i]? =some o)(he:eE o.op=false):bF tr s'.m (i+1)=bF tr s'.m i:=by
 obtain⟨e,_,_,_,hs⟩:=D.step i o h
 rcases hs with⟨⟨_,_,hm,_⟩|⟨_,⟨gop,args,tys,hh,caps,hop,_,_,_⟩|⟨_,hop,_⟩⟩,_⟩|⟨_,_,_,_,_,hm⟩|⟨_,_,_,hm,_⟩
 ·exact hm
 ·rw[hop] at he;cases he
 ·by_cases hl:∃t x,o.op= .load t x
  ·obtain⟨t,x,hl⟩:=hl
   rw[hl] at hop
   simp only[opA] at hop
   obtain⟨r,_,hr⟩:=Option.map_eq_some_iff.1 hop
   simp only[Prod.mk.injEq] at hr
   exact hr.2.symm
  ·exact(Be (m':=s.m) he (fun t x e=>hl ⟨t,x,e⟩) hop).1
 ·exact hm
 ·exact hm
theorem Drawn.same(a:Nat):∀k,a+k≤ops.size→(∀j,a≤j→j<a+k→¬da ops j)→bF tr s'.m (a+k)=bF tr s'.m a
 |0,_,_=>rfl
 |k+1,hk,h=>by
  rw[←Drawn.same a k (by omega) fun j h1 h2=>h j h1 (by omega)]
  have hlt:a+k<ops.size:=by omega
  refine D.still (a+k) ops[a+k] (Array.getElem?_eq_getElem hlt) ?_
  cases hq:eE ops[a+k].op with
  |false=>rfl
  |true=>exact absurd ⟨_,Array.getElem?_eq_getElem hlt,hq⟩ (h (a+k) (by omega) (by omega))
end
def mQ(ops:Array Oper)(tr:List Ent)(L:Nat→Bool)(c:Nat)(g:Gh)(a:Act)(w:World):Prop:=
 ∀i o t e,ops[i]? =some o→L i=true→o.dst=some t→tr[i]? =some e→(da ops i→i<c)→VR w g e.v (a.tmps.getD t undef)
structure PendAt (C:Cfg) (ops:Array Oper) (d:DrawAnn) (tr:List Ent) (s:St) (w0 w1:World) (i b:Nat) (g:Gh) (a:Act) (w:World):Prop where
 old0:w0.heap.size≤b
 old1:w1.heap.size≤b
 lt:b<w.heap.size
 loose:dj g b
 op:∃o us T val,ops[i]? =some o∧EG o.op=true∧o.guard=none∧(∀t,o.dst=some t→a.tmps.getD t undef=val)∧w.heap[b]? =some (.cells us T (0,0))∧AK C.P C.gl o.op (opd C.gl (ik ops.toList tr s.tm i)) b us T val
def HF(C:Cfg)(ops:Array Oper)(d:DrawAnn)(s s':St)(tr:List Ent)(L:Nat→Bool)(c:Nat)(lt:Option Nat)(M:Mem):Prop:=match lt with
 |none=>M=bF tr s'.m c
 |some j=>c<j∧L j=true∧∃oc oj l,ops[c]? =some oc∧ops[j]? =some oj∧LateOk ops d c j oc oj l∧opA C.P oc.op (opd C.gl (ik ops.toList tr s.tm c)) M=some (.tup [],s'.m)
def HK(C:Cfg)(ops:Array Oper)(d:DrawAnn)(s s':St)(tr:List Ent)(w0 w1:World)(L:Nat→Bool)(g:Gh)(a:Act)(w:World):Prop:=
 ∃c lt M,c≤ops.size∧(∀e,e<c→da ops e→L e=true)∧(c=ops.size∨(da ops c∧L c=false))∧SR C.P C.gl w0 g M w∧mQ ops tr L c g a w∧HF C ops d s s' tr L c lt M∧
  ∃B:Nat→Nat,(∀i,c<i→da ops i→L i=true→lt=some i∨PendAt C ops d tr s w0 w1 i (B i) g a w)∧∀i j,c<i→da ops i→L i=true→c<j→da ops j→L j=true→B i=B j→i=j
structure Inv (C:Cfg) (nt:Nat) (ops:Array Oper) (d:DrawAnn) (po:Option (Nat×A×Mem)) (s s':St) (tr:List Ent) (w0:World) (df:List Deferred) (w1:World) (g1:Gh) (L:Nat→Bool) (g:Gh) (a:Act) (w:World):Prop where
 size:a.tmps.size=nt
 dfr:a.defers=df
 clo:∀i,L i=true→∀j∈d.pre.getD i [],L j=true
 old:∀t,(∀i o,ops[i]? =some o→o.dst=some t→L i=false)→VR w g (lk t s.tm) (a.tmps.getD t undef)
 mem:HK C ops d s s' tr w0 w1 L g a w
 ext:Ext w1 g1 w g
 np:∀p b m,po=some (p,b,m)→L p=false
theorem kO{ops:Array Oper}{i:Nat}:i∈kt ops↔da ops i:=by
 unfold kt da
 rw[List.mem_filter,List.mem_range]
 constructor
 ·rintro⟨h,k⟩
  refine⟨ops[i],Array.getElem?_eq_getElem h, ?_⟩
  rw[Array.getElem?_eq_getElem h] at k
  exact k
 ·rintro⟨o,h,k⟩
  exact⟨(Array.getElem?_eq_some_iff.1 h).1,by rw[h];exact k⟩
theorem uy{pre:List (List Nat)}{p c n:Nat}{L:Nat→Bool}(hclo:∀i,L i=true→∀j∈pre.getD i [],L j=true)(hp:L p=false)(hpc:∀j∈pre.getD p [],L j=true):
  ∀l:List Nat,(∀e∈l,e<c→L e=true)→l.Pairwise (· < ·)→(c∈l∧L c=false→c∈(kZ pre p l).1)∧((∀e∈l,L e=true)→(kZ pre p l).2=true)
 |[],_,_=>⟨fun h=>by simp at h,fun _=>rfl⟩
 |e::r,hl,hs=>by
  have ih:=uy (c:=c) (n:=n) hclo hp hpc r (fun e he=>hl e (List.mem_cons_of_mem _ he)) (List.pairwise_cons.1 hs).2
  rw[kZ]
  by_cases h1:(pre.getD p []).contains e=true
  ·rw[if_pos h1]
   have hLe:=hpc e (List.contains_iff_mem.1 h1)
   refine⟨fun h=>ih.1 ⟨?_,h.2⟩,fun h=>ih.2 fun e he=>h e (List.mem_cons_of_mem _ he)⟩
   rcases List.mem_cons.1 h.1 with q|q
   ·rw[q,hLe] at h;cases h.2
   ·exact q
  ·rw[if_neg h1]
   by_cases h2:(pre.getD e []).contains p=true
   ·rw[if_pos h2]
    have hLe:L e=false:=by
     cases hq:L e with
     |false=>rfl
     |true=>have:=hclo e hq p (List.contains_iff_mem.1 h2);rw[hp] at this;cases this
    refine⟨fun h=> ?_,fun h=> ?_⟩
    ·rcases List.mem_cons.1 h.1 with q|q
     ·rw[q];simp
     ·have:=(List.pairwise_cons.1 hs).1 c q
      have:=hl e (by simp) this
      rw[hLe] at this;cases this
    ·have:=h e (by simp)
     rw[hLe] at this;cases this
   ·rw[if_neg h2]
    refine⟨fun h=> ?_,fun h=>ih.2 fun e he=>h e (List.mem_cons_of_mem _ he)⟩
    rcases List.mem_cons.1 h.1 with q|q
    ·rw[q];simp
    ·exact List.mem_cons_of_mem _ (ih.1 ⟨q,h.2⟩)
theorem qE{P:Program}{tr:List Ent}{fin:Mem}:∀{l:List (Nat×List Nat×Bool)} {p:Nat} {es:List Nat} {f:Bool},iz P tr fin l→(p,es,f)∈l→∀t x v m,tr[p]? =some ⟨.load t x,v,m⟩→(∀e∈es,∀en,tr[e]? =some en→iw P t x en.m=some v)∧(f=true→iw P t x fin=some v)
 |[],_,_,_,_,h,_,_,_,_,_=>by simp at h
 |(p',es',f')::r,p,es,f,hc,hm,t,x,v,m,he=>by
  rcases List.mem_cons.1 hm with q|q
  ·simp only[Prod.mk.injEq] at q
   obtain⟨rfl,rfl,rfl⟩:=q
   have:=hc.1
   rw[he] at this
   exact this
  ·exact qE hc.2 q t x v m he
theorem want_sound'{o:Oper}{all:List Oper}{ops:Array Oper}(ho:ops.toList=all){tm:List (Nat×A)}{tmps:Array Value}{w:World}{g:Gh}{b:Bool}(h:cW o all tm=some b)(ht:∀t∈cI ops o,VR w g (lk t tm) (tmps.getD t undef)):Region.wanted o (yielded ops tmps)=b:=by
 let tm':List (Nat×A):=(cI ops o).map fun t=>(t,lk t tm)
 have htm:TmR w g tm' tmps:=fun t=>by
  rcases AB (cI ops o) tm t with e|e
  ·by_cases hin:t∈cI ops o
   ·show VR w g (lk t tm') _
    rw[e];exact ht t hin
   ·have:lk t tm'= .undef:=by
     show lk t ((cI ops o).map fun t=>(t,lk t tm))= .undef
     generalize cI ops o=l at hin
     induction l with
     |nil=>rfl
     |cons u r ih=>
      simp only[List.mem_cons,not_or] at hin
      simp only[List.map_cons,lk]
      rw[if_neg (Ne.symm hin.1)]
      exact ih hin.2
    rw[this,VR];trivial
  ·show VR w g (lk t tm') _
   rw[e,VR];trivial
 refine s9 ho ?_ htm
 unfold cW at h⊢
 cases hg:o.guard with
 |none=>rw[hg] at h;exact h
 |some p=>
  obtain⟨j,want⟩:=p
  rw[hg] at h
  simp only at h⊢
  cases hd:(all[j]?).bind (·.dst) with
  |none=>rw[hd] at h;exact h
  |some dd=>
   rw[hd] at h
   simp only at h⊢
   have hin:dd∈cI ops o:=by
    unfold cI
    rw[hg]
    simp only[List.mem_append]
    refine .inr ?_
    rw[show ops[j]? =all[j]? from by rw[←ho];simp,hd]
    simp
   have:lk dd tm'=lk dd tm:=by
    show lk dd ((cI ops o).map fun t=>(t,lk t tm))=_
    generalize cI ops o=l at hin
    induction l with
    |nil=>simp at hin
    |cons u r ih=>
     simp only[List.map_cons,lk]
     by_cases hu:u=dd
     ·subst hu;rw[if_pos rfl]
     ·rw[if_neg hu]
      exact ih (by rcases List.mem_cons.1 hin with q|q;exact absurd q.symm hu;exact q)
   rw[this]
   exact h
end
theorem getElem?_setCells{cs xs:List A}{o:Nat}(h:o+xs.length≤cs.length)(n:Nat):(setCells cs o xs)[n]? =if n<o then cs[n]? else if n<o+xs.length then xs[n-o]? else cs[n]? :=by
 unfold setCells
 have hl:(cs.take o).length=o:=by rw[List.length_take];omega
 rw[List.append_assoc,List.getElem?_append,hl]
 by_cases h1:n<o
 ·rw[if_pos h1,if_pos h1,List.getElem?_take_of_lt h1]
 ·rw[if_neg h1,if_neg h1,List.getElem?_append]
  by_cases h2:n<o+xs.length
  ·rw[if_pos (by omega),if_pos h2]
  ·rw[if_neg (by omega),if_neg h2,List.getElem?_drop]
   congr 1
   omega
theorem cA{cs xs:List A}{o:Nat}(h:o+xs.length≤cs.length):(setCells cs o xs).length=cs.length:=by
 unfold setCells
 simp only[List.length_append,List.length_take,List.length_drop]
 omega
theorem mO{cs xs ys:List A}{o q:Nat}(h1:o+xs.length≤cs.length)(h2:q+ys.length≤cs.length)(hd:o+xs.length≤q∨q+ys.length≤o):setCells (setCells cs o xs) q ys=setCells (setCells cs q ys) o xs:=by
 apply List.ext_getElem?
 intro n
 rw[getElem?_setCells (by rw[cA h1];exact h2),getElem?_setCells h1,getElem?_setCells (by rw[cA h2];exact h1),getElem?_setCells h2]
 by_cases a:n<q
 ·by_cases b:n<o
  ·simp[a,b]
  ·by_cases c:n<o+xs.length
   ·simp[a,b,c]
   ·simp[a,b,c]
 ·by_cases e:n<q+ys.length
  ·by_cases b:n<o
   ·simp[a,b,e]
   ·have:¬n<o+xs.length:=by omega
    simp[a,b,e,this]
  ·by_cases b:n<o
   ·simp[a,b,e]
   ·by_cases c:n<o+xs.length
    ·simp[a,b,c,e]
    ·simp[a,b,c,e]
theorem qO{P:Program}{t:TypeId}(h:ao P t=0){a x:A}{m m1:Mem}(hs:dY P t a x m=some m1):m1=m∧∀m',dY P t a x m'=some m':=by
 unfold dY at hs⊢
 rw[if_pos h] at hs
 simp only[if_pos h]
 cases a<;>simp only[reduceCtorEq] at hs⊢
 all_goals
  split at hs
  ·rename_i hc
   simp only[Option.some.injEq] at hs
   exact⟨hs.symm,fun m'=>by rw[if_pos hc]⟩
  ·cases hs
theorem bL{P:Program}{t:TypeId}(h:ao P t≠0){id off:Nat}{x:A}{m m1:Mem}:dY P t (.ptr id off) x m=some m1↔x.cells.length=ao P t∧x.cells.all flat=true∧∃cs,m.bx[id]? =some cs∧off+x.cells.length≤cs.length∧m1=⟨m.bx.set id (setCells cs off x.cells),m.rw⟩:=by
 unfold dY
 rw[if_neg h]
 constructor
 ·intro hs
  split at hs
  ·rename_i hc
   simp only at hs
   obtain⟨cs,h1,h2⟩:=Option.bind_eq_some_iff.1 hs
   split at h2
   ·rename_i hl
    simp only[Option.some.injEq] at h2
    exact⟨hc.1,hc.2.2,cs,h1,hl,h2.symm⟩
   ·cases h2
  ·cases hs
 ·rintro⟨h1,h2,cs,h3,h4,rfl⟩
  rw[if_pos ⟨h1,by omega,h2⟩]
  simp only[h3]
  show(if _ then _ else _)=_
  rw[if_pos h4]
theorem bG{P:Program}{t:TypeId}(h:ao P t≠0){id ver off:Nat}{x:A}{m m1:Mem}:dY P t (.rptr id ver off) x m=some m1↔x.cells.length=ao P t∧x.cells.all flat=true∧∃r,m.rw[id]? =some r∧r.cs.length=ver∧off+x.cells.length≤r.cs.length∧m1=⟨m.bx,m.rw.set id {r with cs:=setCells r.cs off x.cells}⟩:=by
 unfold dY
 rw[if_neg h]
 constructor
 ·intro hs
  split at hs
  ·rename_i hc
   simp only at hs
   obtain⟨cs,h1,h2⟩:=Option.bind_eq_some_iff.1 hs
   split at h2
   ·rename_i hl
    simp only[Option.some.injEq] at h2
    exact⟨hc.1,hc.2.2,cs,h1,hl.1,hl.2,h2.symm⟩
   ·cases h2
  ·cases hs
 ·rintro⟨h1,h2,r,h3,h4,h5,rfl⟩
  rw[if_pos ⟨h1,by omega,h2⟩]
  simp only[h3]
  show(if _ then _ else _)=_
  rw[if_pos ⟨h4,h5⟩]
theorem Al{P:Program}{t u:TypeId}{a b x y:A}{m m1 m2:Mem}(hd:n8 (ao P t) (ao P u) a b)(h1:dY P t a x m=some m1)(h2:dY P u b y m1=some m2):
  ∃m3,dY P u b y m=some m3∧dY P t a x m3=some m2:=by
 by_cases ht:ao P t=0
 ·obtain⟨rfl,h3⟩:=qO ht h1
  exact⟨m2,h2,h3 m2⟩
 by_cases hu:ao P u=0
 ·obtain⟨rfl,h3⟩:=qO hu h2
  exact⟨m,h3 m,h1⟩
 cases a with
 |ptr i o=>
  obtain⟨x1,x2,cs,hc,hl,rfl⟩:=(bL ht).1 h1
  cases b with
  |ptr j q=>
   obtain⟨y1,y2,cs',hc',hl',rfl⟩:=(bL hu).1 h2
   simp only at hc'
   by_cases hij:i=j
   ·subst hij
    have hil:=(List.getElem?_eq_some_iff.1 hc).1
    rw[List.getElem?_set_self hil] at hc'
    cases hc'
    have hl2:q+y.cells.length≤cs.length:=by rw[cA hl] at hl';exact hl'
    have hdd:o+x.cells.length≤q∨q+y.cells.length≤o:=by
     rcases hd with h|h|h
     ·exact absurd rfl h
     ·exact .inl (by omega)
     ·exact .inr (by omega)
    refine⟨⟨m.bx.set i (setCells cs q y.cells),m.rw⟩,(bL hu).2 ⟨y1,y2,cs,hc,hl2,rfl⟩,(bL ht).2 ⟨x1,x2,setCells cs q y.cells,by simp only;rw[List.getElem?_set_self hil],by rw[cA hl2];exact hl, ?_⟩⟩
    simp only[List.set_set]
    rw[mO hl hl2 hdd]
   ·rw[List.getElem?_set_ne hij] at hc'
    refine⟨⟨m.bx.set j (setCells cs' q y.cells),m.rw⟩,(bL hu).2 ⟨y1,y2,cs',hc',hl',rfl⟩,(bL ht).2 ⟨x1,x2,cs,by simp only;rw[List.getElem?_set_ne (Ne.symm hij)];exact hc,hl, ?_⟩⟩
    simp only
    rw[List.set_comm _ _ hij]
  |rptr j v q=>
   obtain⟨y1,y2,r,hc',hv,hl',rfl⟩:=(bG hu).1 h2
   simp only at hc'
   exact⟨⟨m.bx,m.rw.set j {r with cs:=setCells r.cs q y.cells}⟩,(bG hu).2 ⟨y1,y2,r,hc',hv,hl',rfl⟩,(bL ht).2 ⟨x1,x2,cs,hc,hl,rfl⟩⟩
  |_=>exact hd.elim
 |rptr i v o=>
  obtain⟨x1,x2,r,hc,hv,hl,rfl⟩:=(bG ht).1 h1
  cases b with
  |ptr j q=>
   obtain⟨y1,y2,cs',hc',hl',rfl⟩:=(bL hu).1 h2
   simp only at hc'
   exact⟨⟨m.bx.set j (setCells cs' q y.cells),m.rw⟩,(bL hu).2 ⟨y1,y2,cs',hc',hl',rfl⟩,(bG ht).2 ⟨x1,x2,r,hc,hv,hl,rfl⟩⟩
  |rptr j v' q=>
   obtain⟨y1,y2,r',hc',hv',hl',rfl⟩:=(bG hu).1 h2
   simp only at hc'
   by_cases hij:i=j
   ·subst hij
    have hil:=(List.getElem?_eq_some_iff.1 hc).1
    rw[List.getElem?_set_self hil] at hc'
    cases hc'
    simp only at hv' hl'
    rw[cA hl] at hv' hl'
    have hdd:o+x.cells.length≤q∨q+y.cells.length≤o:=by
     rcases hd with h|h|h
     ·exact absurd rfl h
     ·exact .inl (by omega)
     ·exact .inr (by omega)
    refine⟨⟨m.bx,m.rw.set i {r with cs:=setCells r.cs q y.cells}⟩,(bG hu).2 ⟨y1,y2,r,hc,hv',hl',rfl⟩,(bG ht).2 ⟨x1,x2,{r with cs:=setCells r.cs q y.cells},by simp only;rw[List.getElem?_set_self hil],by simp only;rw[cA hl'];exact hv,by simp only;rw[cA hl'];exact hl, ?_⟩⟩
    simp only[List.set_set]
    rw[mO hl hl' hdd]
   ·rw[List.getElem?_set_ne hij] at hc'
    refine⟨⟨m.bx,m.rw.set j {r' with cs:=setCells r'.cs q y.cells}⟩,(bG hu).2 ⟨y1,y2,r',hc',hv',hl',rfl⟩,(bG ht).2 ⟨x1,x2,r,by simp only;rw[List.getElem?_set_ne (Ne.symm hij)];exact hc,hv,hl, ?_⟩⟩
    simp only
    rw[List.set_comm _ _ hij]
  |_=>exact hd.elim
 |_=>cases b<;>exact hd.elim
section
variable {C:Cfg} {nt:Nat} {ops:Array Oper} {d:DrawAnn} {po:Option (Nat×A×Mem)} {s s':St} {tr:List Ent} (D:Drawn C nt ops d po s s' tr)
include D
theorem Drawn.addr{i:Nat}{o:Oper}(ho:ops[i]? =some o){k:Option Nat}{sl:Nat}(hs:rk ops i k sl):gr tr s'.tm k sl=lk sl (ik ops.toList tr s.tm i):=by
 cases k with
 |some k=>
  obtain⟨hk,o',ho',hd'⟩:=hs
  obtain⟨e,he,_⟩:=D.step k o' ho'
  rw[oC ops.toList tr s.tm i k sl o' e hk (by simpa using ho') he hd' fun q o'' hq hq' hdq=>D.facts.dst q k o'' o' sl (by simpa using hq') ho' hq hdq hd']
  simp[gr,he]
 |none=>
  have hno:∀(j:Nat) (o':Oper),ops.toList[j]? =some o'→o'.dst≠some sl:=fun j o' h=>hs j o' (by simpa using h)
  rw[i8 ops.toList tr s.tm i sl fun j o' _ h=>hno j o' h]
  show lk sl s'.tm=_
  rw[D.valid.last,i8 ops.toList tr s.tm _ sl fun j o' _ h=>hno j o' h]
theorem Drawn.pre_lt{j:Nat}:∀(i:Nat) (o:Oper),ops[i]? =some o→j∈d.pre.getD i []→j<i:=by
 intro i
 induction i using Nat.strongRecOn with
 |_ i ih=>
  intro o ho hj
  obtain⟨e,he,hb,q⟩:=D.facts.pre i o ho j hj
  have hlt:=D.facts.lt i o ho e he hb
  rcases q with q|q
  ·omega
  ·have hi:=(Array.getElem?_eq_some_iff.1 ho).1
   have:=ih e.on hlt ops[e.on] (Array.getElem?_eq_getElem (by omega)) q
   omega
theorem Drawn.pan_eff{p:Nat}{b:A}{m:Mem}(hpo:po=some (p,b,m))(hp:p<ops.size):da ops p:=by
 obtain⟨e,_,_,_,hs⟩:=D.step p ops[p] (Array.getElem?_eq_getElem hp)
 rcases hs with⟨_,hne⟩|⟨p',b',m',hpo',hin,_⟩|⟨b',m',_,_,_,gop,args,tys,hh,caps,hop,_⟩
 ·exact absurd hpo (hne b m)
 ·rw[hpo] at hpo'
  simp only[Option.some.injEq,Prod.mk.injEq] at hpo'
  obtain⟨rfl,_,_⟩:=hpo'
  have:=D.pre_lt p _ (Array.getElem?_eq_getElem hp) hin
  omega
 ·exact⟨_,Array.getElem?_eq_getElem hp,by rw[hop];rfl⟩
end
end AE
end Go.Proofs.YtmfdpijmholedaaGreatDoor
