/- The configuration in which system.Parse and system.String are answered. -/
import Derived.Test.YtmfdpijmholedaaGreatDoorGD
import Derived.Test.YtmfdpijmholedaaGreatDoorGF
import Derived.Test.YtmfdpijmholedaaGreatDoorGI
import Derived.Test.YtmfdpijmholedaaGreatDoorGH
set_option linter.unusedVariables false
set_option linter.unusedSimpArgs false
namespace Go.Proofs.YtmfdpijmholedaaGreatDoor
namespace AE
open Go
noncomputable def Cq:Cfg:={P:=C0.P,gl:=C0.gl,ann:=C0.ann,ext:=fun f=>if f=aS∨f=aR then none else C0.ext f}
theorem okq:CfgOk Cq where
 gl:=ok0.gl
 mixed:=ok0.mixed
 dok:=ok0.dok
 ext:=fun f h he args m r hr=>by
  have he':(if f=aS∨f=aR then none else C0.ext f)=some h:=he
  split at he'
  ·cases he'
  ·exact ok0.ext f h he' args m r hr
theorem Lb:ExtLe C0 Cq where
 none:=fun f h=>by
  show(if f=aS∨f=aR then none else C0.ext f)=none
  split
  ·rfl
  ·exact h
 some:=fun f g h args m r hr=>by
  by_cases hf:f=aS∨f=aR
  ·have:g=noG:=by
    rcases hf with rfl|rfl
    ·rw[mt] at h;exact(Option.some.inj h).symm
    ·rw[ku] at h;exact(Option.some.inj h).symm
   rw[this] at hr
   cases hr
  ·have h2:Cq.ext f=some g:=by
    show(if f=aS∨f=aR then none else C0.ext f)=some g
    rw[if_neg hf]
    exact h
   rw[ai,h2]
   exact hr
theorem uA {f:FuncId} (hf:f=aS∨f=aR) {fn:Func} {c:Code} (hfn:C0.P.funcs[f]? =some fn) (hb:fn.body=some c) (hr:C0.ann.recov f=false) (hal:C0.ann.all f=false) (hn:fn.name≠ "runtime.NumGoroutine") {args:List A} (ha:args.length≤fn.ntmps) {m:Mem} {r:Res×Mem}
  (h:fG C0.P (C0.ann.keep f) fn.results.toList m (ak C0 f fn.ntmps c ⟨bi 0 args,m⟩)=some r):aV C0 f args m r:=by
 have hx:Cq.ext f=none:=by
  show(if f=aS∨f=aR then none else C0.ext f)=none
  rw[if_pos hf]
 have h1:ai Cq f args m=some r:=by
  rw[ab Cq hx (show Cq.P.funcs[f]? =some fn from hfn) hb hr hal hn ha]
  cases he:ak C0 f fn.ntmps c ⟨bi 0 args,m⟩ with
  |none=>rw[he] at h;cases h
  |some x=>
   rw[he] at h
   rw[(qg C0 Cq rfl rfl rfl Lb).2 _ _ _ _ _ he]
   exact h
 exact u6 okq _ _ _ _ h1
theorem ug{f:Fun}{vs:List Val}(h:okS f vs=true):okF f=true∧vs.length≤100∧Val.nodesL vs≤20000∧∀v∈vs,okV exS vs.length v f=true:=by
 unfold okS at h
 simp only[Bool.and_eq_true,decide_eq_true_eq] at h
 obtain⟨⟨⟨h1,h2⟩,h3⟩,h4⟩:=h
 refine⟨h1,h2,h4,fun v hv=> ?_⟩
 unfold nG at h3
 have:=List.all_eq_true.1 h3 v hv
 exact(((iJ exS vs.length v f 2000 (by omega)).1).1 this).2
def mI(f:Fun)(vs:List Val):List UInt8×Int:=if okS f vs then(sj f vs,0) else([],30)
theorem zX(f:Fun)(vs:List Val)(hf:f.nodes≤10000)(hb:Val.nodesL vs≤100000)(hs:∀v∈vs,aP v)(m:Mem):aV C0 aR [.agg (eG f (.isl false vs.length (Val.cellsL vs)))] m (.ret (.tup [.str (mI f vs).1,.int .i64 (mI f vs).2]),m):=by
 have hv:=B6 f vs (by omega) (by omega) hs
 simp at hv
 cases ho:okS f vs with
 |false=>
  rw[ho] at hv
  unfold mI
  rw[ho]
  refine uA (.inr rfl) (fn:=Tryz.f17) (by rw[ay];exact Tryz.func17) rfl (by rw[ae];rfl) (by rw[ae];rfl) (by decide) (by simp[Tryz.f17]) ?_
  show fG C0.P (C0.ann.keep 17) _ m (ak C0 17 _ _ _)=_
  simp[Tryz.f17,a17,reg17,loop17,draw17,dok17,hv]
 |true=>
  rw[ho] at hv
  obtain⟨h1,h2,h3,h4⟩:=ug ho
  have hsh:au f=true:=iY h1
  unfold mI
  rw[ho]
  have hT:=Fw f.nodes f (Nat.le_refl _) (by omega) hsh true
  have hl:=aU f true
  have hW:=qV (ig f) (by simp[ig]) (by have:=mh f hf;omega)
  simp at hT
  simp[ig] at hW
  have k0:ak C0 aR 36 (sq1 sB) ⟨bi 0 [.agg (eG f (.isl false vs.length (Val.cellsL vs)))],⟨[],[]⟩⟩=some (.normal,⟨[(1,.ptr 0 0)],⟨[[.int .i64 f.kind,.int .i64 f.num,.isl false f.args.length (Fun.cellsL f.args),.isl false vs.length (Val.cellsL vs)]],[]⟩⟩):=by
   show ak C0 17 36 _ _=_
   simp[sB,bE,sq1,sq2,Tryz.f17,a17,reg17,loop17,draw17,dok17]
  have k1:ak C0 aR 36 (sq1 (sq2 sB)) ⟨[(1,.ptr 0 0)],⟨[[.int .i64 f.kind,.int .i64 f.num,.isl false f.args.length (Fun.cellsL f.args),.isl false vs.length (Val.cellsL vs)]],[]⟩⟩=some (.normal,⟨[(1,.ptr 0 0),(9,.bool false)],⟨[[.int .i64 f.kind,.int .i64 f.num,.isl false f.args.length (Fun.cellsL f.args),.isl false vs.length (Val.cellsL vs)]],[]⟩⟩):=by
   show ak C0 17 36 _ _=_
   simp[sB,bE,sq1,sq2,Tryz.f17,a17,reg17,loop17,draw17,dok17,hv]
  have k4:ak C0 aR 36 (sq1 (sq2 (sq2 (sq2 sB)))) ⟨[(4,.rptr 0 2 0),(1,.ptr 0 0),(9,.bool false)],⟨[[.int .i64 f.kind,.int .i64 f.num,.isl false f.args.length (Fun.cellsL f.args),.isl false vs.length (Val.cellsL vs)]],[⟨78,[.nilp,.nils]⟩]⟩⟩=some (.normal,⟨[(1,.ptr 0 0),(4,.rptr 0 2 0)],⟨[[.int .i64 f.kind,.int .i64 f.num,.isl false f.args.length (Fun.cellsL f.args),.isl false vs.length (Val.cellsL vs)]],ew (ig f)⟩⟩):=by
   show ak C0 17 36 _ _=_
   have c1:5+(aH f true).length≤9223372036854775807:=by omega
   have c2:(aH f true).length+5+1≤9223372036854775807:=by omega
   have c3:(aH f true).length+1+1+1+1+1≤9223372036854775806:=by omega
   simp[sB,bE,sq1,sq2,Tryz.f17,a17,reg17,loop17,draw17,dok17,hT,hW,c1,c2,c3,ig]
  obtain⟨tm,k5,h5⟩:=FN f vs hf hb (by omega) hsh h4 [(1,.ptr 0 0),(4,.rptr 0 2 0)] rfl rfl
  rw[show eG f (.isl false vs.length (Val.cellsL vs))=[.int .i64 f.kind,.int .i64 f.num,.isl false f.args.length (Fun.cellsL f.args),.isl false vs.length (Val.cellsL vs)] by simp] at k5
  have hlen:(sj f vs).length≤9223372036854775807:=by
   have a1:=mh f hf
   have a2:=ko (n:=vs.length) (by omega) hsh vs 0 (by omega) h4
   simp only[sj,List.length_append]
   omega
  refine eO (m1:=⟨[],[]⟩) ok0.gl ?_ rfl ?_ m
  ·simp[closed,bK]
  ·exact xU ok0 ay (f:=aR) (nt:=36) (K:=ak C0 aR 36) (fun c s x h=>nK ok0 _ _ _ _ _ h) (by rw[ay];exact Tryz.func17) BD rfl (by decide) (by decide) rfl ⟨_,_,_,rfl⟩ ⟨_,_,_,_,_,_,_,_,_,_,rfl⟩ (by simp) k0 k1 k4 k5 h5 rfl rfl (by simp[sj,ig]) hlen
theorem tT:∀t:List UInt8,(Lib.indexByte t 10= -1∧t.takeWhile (· !=10)=t∧t.dropWhile (· !=10)=[])∨
  ∃k:Nat,Lib.indexByte t 10=k∧k<t.length∧t.take k=t.takeWhile (· !=10)∧t.drop (k+1)=(t.dropWhile (· !=10)).drop 1
 |[]=> .inl ⟨rfl,rfl,rfl⟩
 |b::l=>by
  rw[Lib.indexByte]
  by_cases h:b=10
  ·subst h
   right
   exact⟨0,by simp,by simp,by simp,by simp⟩
  ·have hb:(b==10)=false:=by simpa using h
   have hb2:(b !=10)=true:=by simpa using h
   rw[hb,List.takeWhile_cons,List.dropWhile_cons,if_pos hb2,if_pos hb2]
   rcases tT l with⟨h1,h2,h3⟩|⟨k,h1,h2,h3,h4⟩
   ·left
    rw[h1,h2,h3]
    exact⟨rfl,rfl,rfl⟩
   ·right
    refine⟨k+1, ?_,by simp;omega,by rw[List.take_succ_cons,h3],by rw[List.drop_succ_cons,h4]⟩
    rw[h1]
    have:((k:Int)== -1)=false:=by rw[beq_eq_false_iff_ne];omega
    rw[this]
    rfl
theorem zy(t:List UInt8)(m:Mem):ai C0 175 [.str t,.str [10]] m=some (.ret (.int .i64 (Lib.indexByte t 10)),m):=by
 rw[ab C0 (aj _ (by decide)) (by rw[ay];exact Tryz.func175) rfl (by rw[ae];rfl) (by rw[ae];rfl) (by decide) (by simp[Tryz.f175])]
 by_cases h:t=[10]
 ·subst h
  simp[Tryz.f175,a175,reg175,loop175,show Lib.indexByte [10] 10=0 from rfl]
 ·have h':¬[10]=t:=fun e=>h e.symm
  have e:=zr t 10
  simp at e
  simp[Tryz.f175,a175,reg175,loop175,e,h']
theorem yE(t:List UInt8)(ht:t.length≤1000000000)(m:Mem):ai C0 99 [.str t,.str [10]] m=some (.ret (.tup [.str (bm t).1,.str (bm t).2,.bool (decide (0≤Lib.indexByte t 10))]),m):=by
 rw[ab C0 (aj _ (by decide)) (by rw[ay];exact Tryz.func99) rfl (by rw[ae];rfl) (by rw[ae];rfl) (by decide) (by simp[Tryz.f99])]
 have hc:∀m,ai C0 138 [.str t,.str [10]] m=some (.ret (.tup [.str (bm t).1,.str (bm t).2,.bool (decide (0≤Lib.indexByte t 10))]),m):=fun m=>by
  rw[ab C0 (aj _ (by decide)) (by rw[ay];exact Tryz.func138) rfl (by rw[ae];rfl) (by rw[ae];rfl) (by decide) (by simp[Tryz.f138])]
  have hi:=zy t
  rcases tT t with⟨h1,h2,h3⟩|⟨k,h1,h2,h3,h4⟩
  ·rw[h1] at hi⊢
   have e1:(bm t).1=t:=h2
   have e2:(bm t).2=[]:=by show(t.dropWhile (· !=10)).drop 1=[];rw[h3];rfl
   simp[Tryz.f138,a138,reg138,draw138,dok138,hi,e1,e2]
  ·rw[h1] at hi⊢
   have e1:(bm t).1=t.take k:=h3.symm
   have e2:(bm t).2=t.drop (k+1):=h4.symm
   have w:IntKind.i64.wrap ((k:Int)+1)=k+1:=al _ (by omega)
   simp[Tryz.f138,a138,reg138,draw138,dok138,hi,e1,e2,w,h2,show k≤t.length by omega,show k+1≤t.length by omega,show(0:Int)≤(k:Int)+1 by omega,show(k:Int)+1≤t.length by omega,show((k:Int)+1).toNat=k+1 by omega]
 simp[Tryz.f99,a99,reg99,hc]
theorem gS{w l:List UInt8}:w.isPrefixOf l=true↔w.length≤l.length∧l.take w.length=w:=by
 rw[List.isPrefixOf_iff_prefix,List.prefix_iff_eq_take]
 constructor
 ·intro h
  have h2:=congrArg List.length h
  rw[List.length_take] at h2
  exact⟨by omega,h.symm⟩
 ·exact fun h=>h.2.symm
theorem wv(l w:List UInt8)(hl:l.length≤1000000000)(hw:w.length≤1000000000)(m:Mem):ai C0 176 [.str l,.str w] m=some (.ret (.bool (w.isPrefixOf l)),m):=by
 rw[ab C0 (aj _ (by decide)) (by rw[ay];exact Tryz.func176) rfl (by rw[ae];rfl) (by rw[ae];rfl) (by decide) (by simp[Tryz.f176])]
 cases hp:w.isPrefixOf l with
 |true=>
  obtain⟨h1,h2⟩:=gS.1 hp
  simp[Tryz.f176,a176,reg176,h1,h2]
 |false=>
  by_cases h1:w.length≤l.length
  ·have h2:¬l.take w.length=w:=fun h=>by rw[gS.2 ⟨h1,h⟩] at hp;cases hp
   simp[Tryz.f176,a176,reg176,h1,h2]
  ·simp[Tryz.f176,a176,reg176,h1]
theorem wk(l w:List UInt8)(hl:l.length≤1000000000)(hw:w.length≤1000000000)(m:Mem):ai C0 56 [.str l,.str w] m=some (.ret (.tup [.str (aO l w).1,.bool (aO l w).2]),m):=by
 rw[ab C0 (aj _ (by decide)) (by rw[ay];exact Tryz.func56) rfl (by rw[ae];rfl) (by rw[ae];rfl) (by decide) (by simp[Tryz.f56])]
 have hd:=bf 32 l
 have h1:=fQ 32 (by decide) l
 have h2:=wv (aw 32 l) w (by omega) hw
 have h3:∀m,ai C0 139 [.str (aw 32 l),.str w] m=some (.ret (.tup [.str (aO l w).1,.bool (aO l w).2]),m):=fun m=>by
  rw[ab C0 (aj _ (by decide)) (by rw[ay];exact Tryz.func139) rfl (by rw[ae];rfl) (by rw[ae];rfl) (by decide) (by simp[Tryz.f139])]
  unfold aO
  cases hp:w.isPrefixOf (aw 32 l) with
  |true=>
   rw[hp] at h2
   obtain⟨h4,_⟩:=gS.1 hp
   simp[Tryz.f139,a139,reg139,h2,h4]
  |false=>
   rw[hp] at h2
   simp[Tryz.f139,a139,reg139,h2]
 have h4:∀m,ai C0 100 [.str (aw 32 l),.str w] m=some (.ret (.tup [.str (aO l w).1,.bool (aO l w).2]),m):=fun m=>by
  rw[ab C0 (aj _ (by decide)) (by rw[ay];exact Tryz.func100) rfl (by rw[ae];rfl) (by rw[ae];rfl) (by decide) (by simp[Tryz.f100])]
  simp[Tryz.f100,a100,reg100,h3]
 simp[Tryz.f56,a56,reg56,h1,h4]
abbrev RS:=List (List UInt8)×Bool
def rd(s:RS):List A:=[.isl false s.1.length (bv s.1),.bool s.2]
@[simp] theorem rd_mk(l:List (List UInt8))(b:Bool):rd (l,b)=[.isl false l.length (bv l),.bool b]:=rfl
def gH(l:List (List UInt8)):Prop:=∀t,t∈l→∃c r,t=c::r∧t.length≤1000000∧(be c=true→∀b,b∈t→be b=true)
theorem gH.suffix{l q:List (List UInt8)}(h:gH l)(k:q<:+l):gH q:=fun t ht=>h t (k.subset ht)
theorem gH.tail{l:List (List UInt8)}(h:gH l):gH l.tail:=h.suffix (List.tail_suffix l)
def aq(t:List UInt8)(s:RS):RS:=if s.1.head? =some t then(s.1.tail,s.2) else(s.1,true)
def dA(s:RS):List UInt8×RS:=match s.1 with
 |(c::r)::q=>if be c then(c::r,(q,s.2)) else([48],(s.1,true))
 |_=>([48],(s.1,true))
theorem ap(t:List UInt8)(s:RS):(aq t s).1<:+s.1:=by
 unfold aq
 split
 ·exact List.tail_suffix _
 ·exact List.suffix_refl _
theorem ij(s:RS):(dA s).2.1<:+s.1:=by
 unfold dA
 split
 ·rename_i c r q he
  split
  ·rw[he];exact List.suffix_cons _ _
  ·exact List.suffix_refl _
 ·exact List.suffix_refl _
theorem eX(id:Nat)(t:List UInt8)(s:RS)(m:Mem)(hl:s.1.length≤1000000)(hbx:m.bx[id]? =some (rd s)):ai C0 155 [.ptr id 0,.str t] m=some (.ret (.bool (decide (s.1.head? =some t))),m):=by
 have hid:id<m.bx.length:=(List.getElem?_eq_some_iff.1 hbx).1
 have hg:m.bx[id]=rd s:=(List.getElem?_eq_some_iff.1 hbx).2
 obtain⟨l,b⟩:=s
 rw[ab C0 (aj _ (by decide)) (by rw[ay];exact Tryz.func155) rfl (by rw[ae];rfl) (by rw[ae];rfl) (by decide) (by simp[Tryz.f155])]
 cases l with
 |nil=>simp[Tryz.f155,a155,reg155,hid,hg]
 |cons u q=>
  have hp:(0:Int)<q.length+1:=by omega
  simp[Tryz.f155,a155,reg155,hid,hg,hp]
set_option maxHeartbeats 1000000 in
theorem cG(id:Nat)(t:List UInt8)(s:RS)(m:Mem)(hl:s.1.length≤1000000)(hbx:m.bx[id]? =some (rd s)):ai C0 156 [.ptr id 0,.str t] m=some (.ret (.tup []),⟨m.bx.set id (rd (aq t s)),m.rw⟩):=by
 have hid:id<m.bx.length:=(List.getElem?_eq_some_iff.1 hbx).1
 have hg:m.bx[id]=rd s:=(List.getElem?_eq_some_iff.1 hbx).2
 have hse:=eX id t s m hl hbx
 obtain⟨l,b⟩:=s
 rw[ab C0 (aj _ (by decide)) (by rw[ay];exact Tryz.func156) rfl (by rw[ae];rfl) (by rw[ae];rfl) (by decide) (by simp[Tryz.f156])]
 unfold aq
 cases l with
 |nil=>
  simp at hse
  simp[Tryz.f156,a156,reg156,hid,hg,hse,setCells,av]
 |cons u q=>
  have hp:(1:Int)≤q.length+1:=by omega
  by_cases hu:u=t
  ·subst hu
   simp at hse
   simp[Tryz.f156,a156,reg156,hid,hg,hse,hp,setCells,av]
  ·simp[hu] at hse
   simp[Tryz.f156,a156,reg156,hid,hg,hse,hu,setCells,av]
set_option maxHeartbeats 1000000 in
theorem nF(id:Nat)(s:RS)(m:Mem)(hl:s.1.length≤1000000)(hk:gH s.1)(hbx:m.bx[id]? =some (rd s)):ai C0 187 [.ptr id 0] m=some (.ret (.str (dA s).1),⟨m.bx.set id (rd (dA s).2),m.rw⟩):=by
 have hid:id<m.bx.length:=(List.getElem?_eq_some_iff.1 hbx).1
 have hg:m.bx[id]=rd s:=(List.getElem?_eq_some_iff.1 hbx).2
 obtain⟨l,b⟩:=s
 rw[ab C0 (aj _ (by decide)) (by rw[ay];exact Tryz.func187) rfl (by rw[ae];rfl) (by rw[ae];rfl) (by decide) (by simp[Tryz.f187])]
 unfold dA
 cases l with
 |nil=>simp[Tryz.f187,a187,reg187,hid,hg,setCells,av]
 |cons u q=>
  obtain⟨c,r,rfl,_,_⟩:=hk u (by simp)
  have hp:(1:Int)≤q.length+1:=by omega
  have hp0:(0:Int)<q.length+1:=by omega
  have hp1:(0:Int)<r.length+1:=by omega
  have hp2:¬(q.length:Int)+1=0:=by omega
  have hdg:=jf c
  cases hd:be c with
  |false=>
   simp only[hd] at hdg
   simp[Tryz.f187,a187,reg187,hid,hg,hp,hp0,hp1,hp2,hdg,hd,setCells,av]
  |true=>
   simp only[hd] at hdg
   simp[Tryz.f187,a187,reg187,hid,hg,hp,hp0,hp1,hp2,hdg,hd,setCells,av]
theorem uc(k n:Int)(fl:Bool)(l:List Fun)(m:Mem):ai C0 157 [.int .i64 k,.int .i64 n,.isl fl l.length (Fun.cellsL l)] m=some (.ret (.agg (Fun.mk k n l).cells),m):=by
 rw[ab C0 (aj _ (by decide)) (by rw[ay];exact Tryz.func157) rfl (by rw[ae];rfl) (by rw[ae];rfl) (by decide) (by simp[Tryz.f157])]
 simp[Tryz.f157,a157,reg157]
theorem DT(k n:Int)(m:Mem):ai C0 157 [.int .i64 k,.int .i64 n,.nils] m=some (.ret (.agg (Fun.mk k n []).cells),m):=by
 rw[ab C0 (aj _ (by decide)) (by rw[ay];exact Tryz.func157) rfl (by rw[ae];rfl) (by rw[ae];rfl) (by decide) (by simp[Tryz.f157])]
 simp[Tryz.f157,a157,reg157]
theorem eK{l:List Nat}{M L L':List (List A)}{k:Nat}{x x':List A}{R J J':List Row}{tm:List (Nat×A)}(hJ:J'.all (fun r=>r.cs.all (closed 0 0))=true)(hx:x'.all (closed (M.length+L.length) (R.length+J'.length))=true)(hL:L.length≤L'.length)(hl:l.all (fun t=>closed (M.length+L.length) (R.length+J'.length) (lk t tm))=true)(hc:(L'.take L.length).all (fun cs=>cs.all (closed (M.length+L.length) (R.length+J'.length)))=true):
  endRound (some l) ⟨M.set k x++L,R++J⟩ ⟨tm,⟨M.set k x'++L',R++J'⟩⟩=some ⟨prune (some l) tm,⟨M.set k x'++L'.take L.length,R++J'⟩⟩:=by
 refine dK (B:=M.set k x'++L'.take L.length) (J:=L'.drop L.length) (by simp) (by simp;omega) (by simpa using List.all_eq_true.1 hl) (fun i hi=> ?_) (fun i hi=> ?_)
 ·simp only[List.length_append,List.length_set] at hi⊢
  by_cases h:i<M.length
  ·rw[List.getElem?_append_left (by simpa using h),List.getElem?_append_left (by simpa using h)]
   by_cases hk:k=i
   ·subst hk;right;exact⟨x',by simp[h],hx⟩
   ·left;simp[hk]
  ·right
   have:=jT (B:=M.set k x') hc (by simpa using h) (by simpa using hi) hL
   simpa using this
 ·by_cases h:i<R.length
  ·left;rw[List.getElem?_append_left h,List.getElem?_append_left h]
  ·right
   have hi':i<(R++J').length:=hi
   simp only[List.length_append] at hi
   refine⟨(R++J')[i],List.getElem?_eq_getElem hi', ?_⟩
   rw[List.getElem_append_right (by omega)]
   exact gX (List.all_eq_true.1 hJ _ (List.getElem_mem (l:=J') (n:=i-R.length) (by omega)))
theorem fd{l:List Nat}{M L L':List (List A)}{k:Nat}{x x':List A}{R J':List Row}{tm:List (Nat×A)}(hJ:J'.all (fun r=>r.cs.all (closed 0 0))=true)(hx:x'.all (closed (M.length+L.length) (R.length+J'.length))=true)(hL:L.length≤L'.length)(hl:l.all (fun t=>closed (M.length+L.length) (R.length+J'.length) (lk t tm))=true)(hc:(L'.take L.length).all (fun cs=>cs.all (closed (M.length+L.length) (R.length+J'.length)))=true):
  endRound (some l) ⟨M.set k x++L,R⟩ ⟨tm,⟨M.set k x'++L',R++J'⟩⟩=some ⟨prune (some l) tm,⟨M.set k x'++L'.take L.length,R++J'⟩⟩:=by
 have:=eK (J:=[]) (x:=x) (k:=k) hJ hx hL hl hc
 simpa using this
def Df(x:PRV):Res:=match x.1 with
 |some v=> .ret (.agg v.cells)
 |none=> .pan bp
@[simp] theorem Jp(v:Val)(t:List UInt8):Df (some v,t)= .ret (.agg v.cells):=rfl
@[simp] theorem IB(t:List UInt8):Df (none,t)= .pan bp:=rfl
def lvR(w:Bool)(a:List Val)(ws:List Int):List Row:=if a.length=0 then [] else if w then [⟨47,Val.cellsL a⟩,⟨3,az ws⟩] else [⟨47,Val.cellsL a⟩]
def lvW(w:Bool)(n:Nat)(a:List Val)(ws:List Int):A:=if a.length=0∨w=false then .nils else .sl (n+1) ws.length 0 ws.length
def kY(id:Nat)(f:Fun)(val:List UInt8→PRV):Prop:=∀s (m:Mem),Sm s→m.bx[id]? =some [.str s]→ai C0 106 [.ptr id 0,.agg f.cells] m=some (Df (val s),⟨m.bx.set id [.str (val s).2],m.rw⟩)
structure LvS where
 n:Nat
 a:List Val
 ws:List Int
 s:List UInt8
set_option maxHeartbeats 16000000 in
theorem xM(id:Nat)(f:Fun)(val:List UInt8→PRV)(hsuf:∀s,(val s).2<:+s)(hval:kY id f val)(hcost:∀s v t,Sm s→val s=(some v,t)→t.length<s.length)(e:UInt8)(he0:e≠0)(w:Bool)(s:List UInt8)(hs:Sm s)(m:Mem)(hbx:m.bx[id]? =some [.str s]):
  ai C0 149 [.ptr id 0,.agg f.cells,.int .u8 e.toNat,.bool w] m=some (Df (ck val e w (s.length+1) [] [] s),⟨m.bx.set id [.str (ck val e w (s.length+1) [] [] s).2],m.rw⟩):=by
 have hid:id<m.bx.length:=(List.getElem?_eq_some_iff.1 hbx).1
 have hg:m.bx[id]=[.str s]:=(List.getElem?_eq_some_iff.1 hbx).2
 have hset:m.bx.set id [.str s]=m.bx:=by rw[←hg];exact List.set_getElem_self hid
 have hidk:∀k,id<m.bx.length+k:=fun k=>by omega
 rw[ab C0 (aj _ (by decide)) (by rw[ay];exact Tryz.func149) rfl (by rw[ae];rfl) (by rw[ae];rfl) (by decide) (by simp[Tryz.f149])]
 simp[Tryz.f149,a149,reg149,loop149,draw149,dok149]
 refine aC (fun x:LvS=>⟨[(0,.ptr id 0),(2,.int .u8 e.toNat),(3,.bool w),(5,.ptr m.bx.length 0),(8,.ptr (m.bx.length+1) 0),(9,.ptr (m.bx.length+2) 0)],
   ⟨m.bx.set id [.str x.s]++[f.cells,[.int .i64 0,.nils,.nils],[.int .i64 0,xA m.rw.length x.a,lvW w m.rw.length x.a x.ws]],m.rw++lvR w x.a x.ws⟩⟩)
  (fun x=>some (Df (ck val e w x.n x.a x.ws x.s),⟨m.bx.set id [.str (ck val e w x.n x.a x.ws x.s).2],m.rw⟩)) (fun x=>x.s.length)
  (fun x=>Sm x.s∧x.s.length<x.n∧x.a.length+x.s.length≤1000000∧(w=true→x.ws.length=x.a.length)∧(w=false→x.ws=[])) ⟨s.length+1,[],[],s⟩ ?_ ?_ ?_ ?_ ?_
 ·simp[xA,lvW,lvR,hset]
 ·rfl
 ·simp[hs];exact hs
 ·intro x;simp[Tryz.f149,a149,reg149,loop149,draw149,dok149]
 ·rintro⟨n,a,ws,t⟩ ⟨ht,hn,hal,hwt,hwf⟩ hrec
  simp only at ht hn hal hwt hwf⊢
  obtain⟨n,rfl⟩:∃k,n=k+1:=⟨n-1,by omega⟩
  have ht1:Sm (isC e t).2:=ht.suffix (am e t)
  have ht1l:=(am e t).length_le
  rw[ck]
  cases a with
  |nil=>
   have hws:ws=[]:=by
    cases w
    ·exact hwf rfl
    ·exact List.eq_nil_of_length_eq_zero (hwt rfl)
   subst hws
   have e1:=we id e he0 t ⟨m.bx.set id [.str t]++[f.cells,[.int .i64 0,.nils,.nils],[.int .i64 0,.nils,.nils]],m.rw⟩ (by simp[ah,hid])
   cases hc:(isC e t).1 with
   |true=>
    clear hrec
    simp[ad,hid,hc] at e1
    simp[round,Tryz.f149,a149,reg149,loop149,draw149,dok149,hid,hidk,ah,ad,aF,aD,aL,aJ,aM,ag,xA,lvW,lvR,e1]
   |false=>
   have e2:=hval (isC e t).2 ⟨m.bx.set id [.str (isC e t).2]++[f.cells,[.int .i64 0,.nils,.nils],[.int .i64 0,.nils,.nils]],m.rw⟩ ht1 (by simp[ah,hid])
   have hvs:=hsuf (isC e t).2
   have hvc:=hcost (isC e t).2
   simp[ad,hid,hc] at e1
   simp only[Bool.false_eq_true,if_false,List.length_nil,ne_eq,not_true_eq_false,false_and,if_true]
   cases hv:val (isC e t).2 with
   |mk o u=>
   rw[hv] at e2 hvs
   have hu:=ht1.suffix hvs
   have hul:=hvs.length_le
   simp only at hu hul
   cases o with
   |none=>
    clear hrec
    simp[ad,hid] at e2
    simp[round,Tryz.f149,a149,reg149,loop149,draw149,dok149,hid,hidk,ah,ad,aF,aD,aL,aJ,aM,ag,xA,lvW,lvR,e1,e2,bA,dG,eH]
    try simp[bp]
   |some x=>
   have hult:=hvc x u ht1 hv
   simp at hal
   simp[ad,hid] at e2
   cases w with
   |false=>
    simp[round,Tryz.f149,a149,reg149,loop149,draw149,dok149,hid,hidk,ah,ad,aF,aD,aL,aJ,aM,ag,xA,lvW,lvR,e1,e2,bA,eK,fd]
    refine hrec ⟨n,[x],[],u⟩ _ _ ?_ ?_ ?_ ?_
    ·simp only;omega
    ·exact⟨hu,by simp only;omega,by simp;omega,(fun h=>by cases h),fun _=>rfl⟩
    ·simp[xA,lvW,lvR,Val.cellsL,Val.cellsL_append]
    ·simp
   |true=>
    have e3:=gj id 58 (by decide) u ⟨m.bx.set id [.str u]++[f.cells,[.int .i64 0,.nils,.nils],[.int .i64 0,.sl m.rw.length 3 0 1,.nils]],m.rw++[⟨47,x.cells⟩]⟩ (by simp[ah,hid])
    have hu2:Sm (isC 58 u).2:=hu.suffix (am 58 u)
    have hu2l:=(am 58 u).length_le
    cases h58:(isC 58 u).1 with
    |false=>
     clear hrec
     simp[ad,hid,h58] at e3
     simp[round,Tryz.f149,a149,reg149,loop149,draw149,dok149,hid,hidk,ah,ad,aF,aD,aL,aJ,aM,ag,xA,lvW,lvR,e1,e2,e3,bA,bJ,h58,dG,eH]
     try simp[bp]
    |true=>
    have e4:=nk id (isC 58 u).2 hu2 ⟨m.bx.set id [.str (isC 58 u).2]++[f.cells,[.int .i64 0,.nils,.nils],[.int .i64 0,.sl m.rw.length 3 0 1,.nils]],m.rw++[⟨47,x.cells⟩]⟩ (by simp[ah,hid])
    have hql:=(dq (isC 58 u).2).length_le
    have hqs:=hu2.suffix (dq (isC 58 u).2)
    simp[ad,hid,h58] at e3
    cases hp:jV (isC 58 u).2 with
    |mk o2 q=>
    rw[hp] at e4 hql hqs
    simp only at hql hqs
    cases o2 with
    |none=>
     clear hrec
     simp[ad,hid] at e4
     simp[round,Tryz.f149,a149,reg149,loop149,draw149,dok149,hid,hidk,ah,ad,aF,aD,aL,aJ,aM,ag,xA,lvW,lvR,e1,e2,e3,e4,bA,bJ,fX,h58,hp,dG,eH]
     try simp[bp]
    |some k=>
     simp[ad,hid] at e4
     simp[round,Tryz.f149,a149,reg149,loop149,draw149,dok149,hid,hidk,ah,ad,aF,aD,aL,aJ,aM,ag,xA,lvW,lvR,e1,e2,e3,e4,bA,bJ,fX,h58,hp,eK,fd]
     refine hrec ⟨n,[x],[k],q⟩ _ _ ?_ ?_ ?_ ?_
     ·simp only;omega
     ·exact⟨hqs,by simp only;omega,by simp;omega,fun _=>by simp,(fun h=>by cases h)⟩
     ·simp[xA,lvW,lvR,Val.cellsL,Val.cellsL_append,dP,az]
     ·simp
  |cons b r=>
   simp at hal
   have hsz:(r.length+1+1)*56≤70368744177664∧r.length+1+1≤70368744177664∧(r.length+1+1)*8≤70368744177664:=by omega
   have e1:=we id e he0 t ⟨m.bx.set id [.str t]++[f.cells,[.int .i64 0,.nils,.nils],[.int .i64 0,xA m.rw.length (b::r),lvW w m.rw.length (b::r) ws]],m.rw++lvR w (b::r) ws⟩ (by simp[ah,hid])
   cases hc:(isC e t).1 with
   |true=>
    clear hrec
    have hall:List.take ((r.length+1)*3) (Val.cellsL (b::r))=Val.cellsL (b::r):=List.take_of_length_le (by simp)
    have hallw:List.take ws.length (az ws)=az ws:=uZ ws
    cases w with
    |false=>
     have hwe:ws=[]:=hwf rfl
     subst hwe
     simp[ad,hid,hc,xA,lvW,lvR] at e1
     simp[round,Tryz.f149,a149,reg149,loop149,draw149,dok149,hid,hidk,ah,ad,aF,aD,aL,aJ,aM,ag,xA,lvW,lvR,e1,hall]
    |true=>
     have hwl:ws.length=r.length+1:=by simpa using hwt rfl
     simp[ad,hid,hc,xA,lvW,lvR] at e1
     simp[round,Tryz.f149,a149,reg149,loop149,draw149,dok149,hid,hidk,ah,ad,aF,aD,aL,aJ,aM,ag,xA,lvW,lvR,e1,hall]
   |false=>
   have e0:=gj id 44 (by decide) (isC e t).2 ⟨m.bx.set id [.str (isC e t).2]++[f.cells,[.int .i64 0,.nils,.nils],[.int .i64 0,xA m.rw.length (b::r),lvW w m.rw.length (b::r) ws]],m.rw++lvR w (b::r) ws⟩ (by simp[ah,hid])
   have ht2:Sm (isC 44 (isC e t).2).2:=ht1.suffix (am 44 _)
   have ht2l:=(am 44 (isC e t).2).length_le
   cases h44:(isC 44 (isC e t).2).1 with
   |false=>
    clear hrec
    cases w with
    |false=>
     have hwe:ws=[]:=hwf rfl
     subst hwe
     simp[ad,hid,hc,h44,xA,lvW,lvR] at e0 e1
     simp[round,Tryz.f149,a149,reg149,loop149,draw149,dok149,hid,hidk,ah,ad,aF,aD,aL,aJ,aM,ag,xA,lvW,lvR,e0,e1]
     try simp[bp]
    |true=>
     simp[ad,hid,hc,h44,xA,lvW,lvR] at e0 e1
     simp[round,Tryz.f149,a149,reg149,loop149,draw149,dok149,hid,hidk,ah,ad,aF,aD,aL,aJ,aM,ag,xA,lvW,lvR,e0,e1]
     try simp[bp]
   |true=>
   have e2:=hval (isC 44 (isC e t).2).2 ⟨m.bx.set id [.str (isC 44 (isC e t).2).2]++[f.cells,[.int .i64 0,.nils,.nils],[.int .i64 0,xA m.rw.length (b::r),lvW w m.rw.length (b::r) ws]],m.rw++lvR w (b::r) ws⟩ ht2 (by simp[ah,hid])
   have hvs:=hsuf (isC 44 (isC e t).2).2
   have hvc:=hcost (isC 44 (isC e t).2).2
   simp only[Bool.false_eq_true,if_false,List.length_cons,Nat.succ_ne_zero,ne_eq,not_false_eq_true,true_and,reduceCtorEq]
   cases hv:val (isC 44 (isC e t).2).2 with
   |mk o u=>
   rw[hv] at e2 hvs
   have hu:=ht2.suffix hvs
   have hul:=hvs.length_le
   simp only at hu hul
   cases o with
   |none=>
    clear hrec
    cases w with
    |false=>
     have hwe:ws=[]:=hwf rfl
     subst hwe
     simp[ad,hid,hc,h44,xA,lvW,lvR] at e0 e1 e2
     simp[round,Tryz.f149,a149,reg149,loop149,draw149,dok149,hid,hidk,ah,ad,aF,aD,aL,aJ,aM,ag,xA,lvW,lvR,e0,e1,e2,bA,dG,eH]
     try simp[bp]
    |true=>
     simp[ad,hid,hc,h44,xA,lvW,lvR] at e0 e1 e2
     simp[round,Tryz.f149,a149,reg149,loop149,draw149,dok149,hid,hidk,ah,ad,aF,aD,aL,aJ,aM,ag,xA,lvW,lvR,e0,e1,e2,bA,dG,eH]
     try simp[bp]
   |some x=>
   have hult:=hvc x u ht2 hv
   cases w with
   |false=>
    have hwe:ws=[]:=hwf rfl
    subst hwe
    simp[ad,hid,hc,h44,xA,lvW,lvR] at e0 e1 e2
    simp[round,Tryz.f149,a149,reg149,loop149,draw149,dok149,hid,hidk,ah,ad,aF,aD,aL,aJ,aM,ag,xA,lvW,lvR,e0,e1,e2,bA,eK,fd,hsz]
    refine hrec ⟨n,b::r++[x],[],u⟩ _ _ ?_ ?_ ?_ ?_
    ·simp only;omega
    ·exact⟨hu,by simp only;omega,by simp;omega,(fun h=>by cases h),fun _=>rfl⟩
    ·simp[xA,lvW,lvR,Val.cellsL,Val.cellsL_append]
    ·simp
   |true=>
    simp[ad,hid,hc,h44,xA,lvW,lvR] at e0 e1 e2
    have hwl:ws.length=r.length+1:=by simpa using hwt rfl
    have hszw:(ws.length+1)*8≤70368744177664∧ws.length+1≤70368744177664:=by omega
    have e3:=gj id 58 (by decide) u ⟨m.bx.set id [.str u]++[f.cells,[.int .i64 0,.nils,.nils],[.int .i64 0,.sl m.rw.length ((r.length+1+1)*3) 0 (r.length+1+1),.sl (m.rw.length+1) ws.length 0 ws.length]],m.rw++[⟨47,Val.cellsL (b::r)++x.cells⟩,⟨3,az ws⟩]⟩ (by simp[ah,hid])
    have hu2:Sm (isC 58 u).2:=hu.suffix (am 58 u)
    have hu2l:=(am 58 u).length_le
    cases h58:(isC 58 u).1 with
    |false=>
     clear hrec
     simp[ad,hid,h58] at e3
     simp[round,Tryz.f149,a149,reg149,loop149,draw149,dok149,hid,hidk,ah,ad,aF,aD,aL,aJ,aM,ag,xA,lvW,lvR,e0,e1,e2,e3,bA,bJ,h58,dG,eH,hsz]
     try simp[bp]
    |true=>
    have e4:=nk id (isC 58 u).2 hu2 ⟨m.bx.set id [.str (isC 58 u).2]++[f.cells,[.int .i64 0,.nils,.nils],[.int .i64 0,.sl m.rw.length ((r.length+1+1)*3) 0 (r.length+1+1),.sl (m.rw.length+1) ws.length 0 ws.length]],m.rw++[⟨47,Val.cellsL (b::r)++x.cells⟩,⟨3,az ws⟩]⟩ (by simp[ah,hid])
    have hql:=(dq (isC 58 u).2).length_le
    have hqs:=hu2.suffix (dq (isC 58 u).2)
    simp[ad,hid,h58] at e3
    cases hp:jV (isC 58 u).2 with
    |mk o2 q=>
    rw[hp] at e4 hql hqs
    simp only at hql hqs
    cases o2 with
    |none=>
     clear hrec
     simp[ad,hid] at e4
     simp[round,Tryz.f149,a149,reg149,loop149,draw149,dok149,hid,hidk,ah,ad,aF,aD,aL,aJ,aM,ag,xA,lvW,lvR,e0,e1,e2,e3,e4,bA,bJ,fX,h58,hp,dG,eH,hsz]
     try simp[bp]
    |some k=>
     simp[ad,hid] at e4
     simp[round,Tryz.f149,a149,reg149,loop149,draw149,dok149,hid,hidk,ah,ad,aF,aD,aL,aJ,aM,ag,xA,lvW,lvR,e0,e1,e2,e3,e4,bA,bJ,fX,h58,hp,eK,fd,hsz,hszw,gY]
     refine hrec ⟨n,b::r++[x],ws++[k],q⟩ _ _ ?_ ?_ ?_ ?_
     ·simp only;omega
     ·exact⟨hqs,by simp only;omega,by simp;omega,fun _=>by simp[hwl],(fun h=>by cases h)⟩
     ·simp[xA,lvW,lvR,Val.cellsL,Val.cellsL_append,dP,az,hwl]
     ·simp
section
variable {id N:Nat}
theorem DW(N:Nat)(f:Fun)(s:List UInt8)(v:Val)(t:List UInt8)(hs:Sm s)(h:pV N f s=(some v,t)):t.length<s.length:=by
 have:=(wL N f s hs v t h).1
 have:=v.nodes_pos
 omega
set_option maxHeartbeats 4000000 in
theorem si{f:Fun}(hk:f.kind=0∨f.kind=1):kY id f (pV (N+1) f):=by
 intro s m hs hbx
 have hid:id<m.bx.length:=(List.getElem?_eq_some_iff.1 hbx).1
 have hg:m.bx[id]=[.str s]:=(List.getElem?_eq_some_iff.1 hbx).2
 have hidk:∀k,id<m.bx.length+k:=fun k=>by omega
 rw[pV,if_pos hk]
 rw[ab C0 (aj _ (by decide)) (by rw[ay];exact Tryz.func106) rfl (by rw[ae];rfl) (by rw[ae];rfl) (by decide) (by simp[Tryz.f106])]
 have e1:=nk id s hs ⟨m.bx++[f.cells,[.int .i64 0,.nils,.nils]],m.rw⟩ (by simp[ah,hid,hg])
 cases hp:jV s with
 |mk o u=>
 rw[hp] at e1
 cases o with
 |none=>
  rcases hk with hk|hk
  ·simp[ad,hid,hk] at e1
   simp[Tryz.f106,a106,reg106,draw106,dok106,hid,hidk,ah,ad,ag,hk,e1,fX]
   try simp[bp]
  ·simp[ad,hid,hk] at e1
   simp[Tryz.f106,a106,reg106,draw106,dok106,hid,hidk,ah,ad,ag,hk,e1,fX]
   try simp[bp]
 |some k=>
  rcases hk with hk|hk
  ·simp[ad,hid,hk] at e1
   simp[Tryz.f106,a106,reg106,draw106,dok106,hid,hidk,ah,ad,ag,hk,e1,fX]
  ·simp[ad,hid,hk] at e1
   simp[Tryz.f106,a106,reg106,draw106,dok106,hid,hidk,ah,ad,ag,hk,e1,fX]
set_option maxHeartbeats 8000000 in
theorem AR{f:Fun}(hf:au f=true)(hk:f.kind=2)(hl:f.args.length=2)(ih:∀g,g∈f.args→kY id g (pV N g)):kY id f (pV (N+1) f):=by
 intro s m hs hbx
 have hid:id<m.bx.length:=(List.getElem?_eq_some_iff.1 hbx).1
 have hg:m.bx[id]=[.str s]:=(List.getElem?_eq_some_iff.1 hbx).2
 have hidk:∀k,id<m.bx.length+k:=fun k=>by omega
 have f0:0<f.args.length:=by omega
 have f1:1<f.args.length:=by omega
 have b1:=Fun.at_cellsL f.args 0 f0
 have b2:=Fun.at_cellsL f.args 1 f1
 simp at b1 b2
 have g0:f.args.getD 0 bN=f.args[0]:=by rw[List.getD_eq_getElem?_getD,List.getElem?_eq_getElem f0];rfl
 have g1:f.args.getD 1 bN=f.args[1]:=by rw[List.getD_eq_getElem?_getD,List.getElem?_eq_getElem f1];rfl
 rw[pV,if_neg (by omega),if_pos hk,g0,g1]
 rw[ab C0 (aj _ (by decide)) (by rw[ay];exact Tryz.func106) rfl (by rw[ae];rfl) (by rw[ae];rfl) (by decide) (by simp[Tryz.f106])]
 have e1:=gj id 40 (by decide) s ⟨m.bx++[f.cells,[.int .i64 0,.nils,.nils]],m.rw⟩ (by simp[ah,hid,hg])
 have s1:=hs.suffix (am 40 s)
 cases h1:(isC 40 s).1 with
 |false=>
  simp[ad,hid,hk,hl,h1] at e1
  simp[Tryz.f106,a106,reg106,draw106,dok106,hid,hidk,ah,ad,ag,hk,hl,e1,bJ,h1]
  try simp[bp]
 |true=>
 have e2:=ih f.args[0] (List.getElem_mem f0) (isC 40 s).2 ⟨m.bx.set id [.str (isC 40 s).2]++[f.cells,[.int .i64 0,.nils,.nils]],m.rw⟩ s1 (by simp[ah,hid])
 have p2:=fP N f.args[0] (isC 40 s).2
 simp[ad,hid,hk,hl,h1] at e1
 cases h2:pV N f.args[0] (isC 40 s).2 with
 |mk o u=>
 rw[h2] at e2 p2
 have s2:=s1.suffix p2
 cases o with
 |none=>
  simp[ad,hid,hk,hl] at e2
  simp[Tryz.f106,a106,reg106,draw106,dok106,hid,hidk,ah,ad,ag,hk,hl,b1,b2,e1,e2,bJ,h1,h2,bA]
  try simp[bp]
 |some x=>
 have e3:=gj id 44 (by decide) u ⟨m.bx.set id [.str u]++[f.cells,[.int .i64 0,.nils,.nils],x.cells],m.rw⟩ (by simp[ah,hid])
 have s3:=s2.suffix (am 44 u)
 simp[ad,hid,hk,hl] at e2
 cases h3:(isC 44 u).1 with
 |false=>
  simp[ad,hid,hk,hl,h3] at e3
  simp[Tryz.f106,a106,reg106,draw106,dok106,hid,hidk,ah,ad,ag,hk,hl,b1,b2,e1,e2,e3,bJ,h1,h2,h3,bA]
  try simp[bp]
 |true=>
 have e4:=ih f.args[1] (List.getElem_mem f1) (isC 44 u).2 ⟨m.bx.set id [.str (isC 44 u).2]++[f.cells,[.int .i64 0,.nils,.nils],x.cells],m.rw⟩ s3 (by simp[ah,hid])
 have p4:=fP N f.args[1] (isC 44 u).2
 simp[ad,hid,hk,hl,h3] at e3
 cases h4:pV N f.args[1] (isC 44 u).2 with
 |mk o q=>
 rw[h4] at e4 p4
 have s4:=s3.suffix p4
 cases o with
 |none=>
  simp[ad,hid,hk,hl] at e4
  simp[Tryz.f106,a106,reg106,draw106,dok106,hid,hidk,ah,ad,ag,hk,hl,b1,b2,e1,e2,e3,e4,bJ,h1,h2,h3,h4,bA]
  try simp[bp]
 |some y=>
 have e5:=gj id 41 (by decide) q ⟨m.bx.set id [.str q]++[f.cells,[.int .i64 0,.nils,.nils],x.cells,y.cells],m.rw⟩ (by simp[ah,hid])
 simp[ad,hid,hk,hl] at e4
 cases h5:(isC 41 q).1 with
 |false=>
  simp[ad,hid,hk,hl,h5] at e5
  simp[Tryz.f106,a106,reg106,draw106,dok106,hid,hidk,ah,ad,ag,hk,hl,b1,b2,e1,e2,e3,e4,e5,bJ,h1,h2,h3,h4,h5,bA]
  try simp[bp]
 |true=>
  simp[ad,hid,hk,hl,h5] at e5
  simp[Tryz.f106,a106,reg106,draw106,dok106,hid,hidk,ah,ad,ag,hk,hl,b1,b2,e1,e2,e3,e4,e5,bJ,h1,h2,h3,h4,h5,bA,Val.cellsL]
set_option maxHeartbeats 8000000 in
theorem B7{f:Fun}(hf:au f=true)(hk:f.kind=3)(hl:f.args.length=2)(ih:∀g,g∈f.args→kY id g (pV N g)):kY id f (pV (N+1) f):=by
 intro s m hs hbx
 have hid:id<m.bx.length:=(List.getElem?_eq_some_iff.1 hbx).1
 have hg:m.bx[id]=[.str s]:=(List.getElem?_eq_some_iff.1 hbx).2
 have hidk:∀k,id<m.bx.length+k:=fun k=>by omega
 have f0:0<f.args.length:=by omega
 have f1:1<f.args.length:=by omega
 have b1:=Fun.at_cellsL f.args 0 f0
 have b2:=Fun.at_cellsL f.args 1 f1
 simp at b1 b2
 have g0:f.args.getD 0 bN=f.args[0]:=by rw[List.getD_eq_getElem?_getD,List.getElem?_eq_getElem f0];rfl
 have g1:f.args.getD 1 bN=f.args[1]:=by rw[List.getD_eq_getElem?_getD,List.getElem?_eq_getElem f1];rfl
 rw[pV,if_neg (by omega),if_neg (by omega),if_pos hk,g0,g1]
 rw[ab C0 (aj _ (by decide)) (by rw[ay];exact Tryz.func106) rfl (by rw[ae];rfl) (by rw[ae];rfl) (by decide) (by simp[Tryz.f106])]
 have e1:=we id 108 (by decide) s ⟨m.bx++[f.cells,[.int .i64 0,.nils,.nils]],m.rw⟩ (by simp[ah,hid,hg])
 have s1:=hs.suffix (am 108 s)
 cases h1:(isC 108 s).1 with
 |true=>
  have e2:=ih f.args[0] (List.getElem_mem f0) (isC 108 s).2 ⟨m.bx.set id [.str (isC 108 s).2]++[f.cells,[.int .i64 0,.nils,.nils]],m.rw⟩ s1 (by simp[ah,hid])
  simp[ad,hid,hk,hl,h1] at e1
  cases h2:pV N f.args[0] (isC 108 s).2 with
  |mk o u=>
  rw[h2] at e2
  cases o with
  |none=>
   simp[ad,hid,hk,hl] at e2
   simp[Tryz.f106,a106,reg106,draw106,dok106,hid,hidk,ah,ad,ag,hk,hl,b1,b2,e1,e2,h1,h2,bA]
   try simp[bp]
  |some x=>
   simp[ad,hid,hk,hl] at e2
   simp[Tryz.f106,a106,reg106,draw106,dok106,hid,hidk,ah,ad,ag,hk,hl,b1,b2,e1,e2,h1,h2,bA,Val.cellsL]
 |false=>
  have e3:=gj id 114 (by decide) (isC 108 s).2 ⟨m.bx.set id [.str (isC 108 s).2]++[f.cells,[.int .i64 0,.nils,.nils]],m.rw⟩ (by simp[ah,hid])
  have s3:=s1.suffix (am 114 (isC 108 s).2)
  simp[ad,hid,hk,hl,h1] at e1
  cases h3:(isC 114 (isC 108 s).2).1 with
  |false=>
   simp[ad,hid,hk,hl,h3] at e3
   simp[Tryz.f106,a106,reg106,draw106,dok106,hid,hidk,ah,ad,ag,hk,hl,b1,b2,e1,e3,h1,bJ,h3,bA]
   try simp[bp]
  |true=>
  have e2:=ih f.args[1] (List.getElem_mem f1) (isC 114 (isC 108 s).2).2 ⟨m.bx.set id [.str (isC 114 (isC 108 s).2).2]++[f.cells,[.int .i64 0,.nils,.nils]],m.rw⟩ s3 (by simp[ah,hid])
  simp[ad,hid,hk,hl,h3] at e3
  cases h2:pV N f.args[1] (isC 114 (isC 108 s).2).2 with
  |mk o u=>
  rw[h2] at e2
  cases o with
  |none=>
   simp[ad,hid,hk,hl] at e2
   simp[Tryz.f106,a106,reg106,draw106,dok106,hid,hidk,ah,ad,ag,hk,hl,b1,b2,e1,e2,e3,h1,h2,h3,bJ,bA]
   try simp[bp]
  |some x=>
   simp[ad,hid,hk,hl] at e2
   simp[Tryz.f106,a106,reg106,draw106,dok106,hid,hidk,ah,ad,ag,hk,hl,b1,b2,e1,e2,e3,h1,h2,h3,bJ,bA,Val.cellsL]
set_option maxHeartbeats 8000000 in
theorem Cx{f:Fun}(hf:au f=true)(hk:f.kind=4)(hl:f.args.length=1)(ih:∀g,g∈f.args→kY id g (pV N g)):kY id f (pV (N+1) f):=by
 intro s m hs hbx
 have hid:id<m.bx.length:=(List.getElem?_eq_some_iff.1 hbx).1
 have hg:m.bx[id]=[.str s]:=(List.getElem?_eq_some_iff.1 hbx).2
 have hidk:∀k,id<m.bx.length+k:=fun k=>by omega
 have f0:0<f.args.length:=by omega
 have b1:=Fun.at_cellsL f.args 0 f0
 simp at b1
 have g0:f.args.getD 0 bN=f.args[0]:=by rw[List.getD_eq_getElem?_getD,List.getElem?_eq_getElem f0];rfl
 rw[pV,if_neg (by omega),if_neg (by omega),if_neg (by omega),if_pos hk,g0]
 rw[ab C0 (aj _ (by decide)) (by rw[ay];exact Tryz.func106) rfl (by rw[ae];rfl) (by rw[ae];rfl) (by decide) (by simp[Tryz.f106])]
 have e1:=gj id 91 (by decide) s ⟨m.bx++[f.cells,[.int .i64 0,.nils,.nils]],m.rw⟩ (by simp[ah,hid,hg])
 have s1:=hs.suffix (am 91 s)
 cases h1:(isC 91 s).1 with
 |false=>
  simp[ad,hid,hk,hl,h1] at e1
  simp[Tryz.f106,a106,reg106,draw106,dok106,hid,hidk,ah,ad,ag,hk,hl,e1,bJ,h1]
  try simp[bp]
 |true=>
 have e2:=xM id f.args[0] _ (fP N f.args[0]) (ih _ (List.getElem_mem f0)) (DW N f.args[0]) 93 (by decide) false (isC 91 s).2 s1 ⟨m.bx.set id [.str (isC 91 s).2]++[f.cells,[.int .i64 0,.nils,.nils]],m.rw⟩ (by simp[ah,hid])
 simp[ad,hid,hk,hl,h1] at e1
 cases h2:ck (pV N f.args[0]) 93 false ((isC 91 s).2.length+1) [] [] (isC 91 s).2 with
 |mk o u=>
 rw[h2] at e2
 cases o with
 |none=>
  simp[ad,hid,hk,hl] at e2
  simp[Tryz.f106,a106,reg106,draw106,dok106,hid,hidk,ah,ad,ag,hk,hl,b1,e1,e2,bJ,h1,h2,bA]
  try simp[bp]
 |some x=>
 simp[ad,hid,hk,hl] at e2
 by_cases h3:(x.args.length:Int)=f.num
 ·simp[Tryz.f106,a106,reg106,draw106,dok106,hid,hidk,ah,ad,ag,hk,hl,b1,e1,e2,bJ,h1,h2,h3,bA]
 ·simp[Tryz.f106,a106,reg106,draw106,dok106,hid,hidk,ah,ad,ag,hk,hl,b1,e1,e2,bJ,h1,h2,h3,bA]
  try simp[bp]
set_option maxHeartbeats 8000000 in
theorem oY{f:Fun}(hf:au f=true)(hk:5≤f.kind)(hl:f.args.length=1)(ih:∀g,g∈f.args→kY id g (pV N g)):kY id f (pV (N+1) f):=by
 intro s m hs hbx
 have hid:id<m.bx.length:=(List.getElem?_eq_some_iff.1 hbx).1
 have hg:m.bx[id]=[.str s]:=(List.getElem?_eq_some_iff.1 hbx).2
 have hidk:∀k,id<m.bx.length+k:=fun k=>by omega
 have f0:0<f.args.length:=by omega
 have b1:=Fun.at_cellsL f.args 0 f0
 simp at b1
 have g0:f.args.getD 0 bN=f.args[0]:=by rw[List.getD_eq_getElem?_getD,List.getElem?_eq_getElem f0];rfl
 have n4:¬f.kind=0∧¬f.kind=1∧¬f.kind=2∧¬f.kind=3∧¬f.kind=4:=by omega
 rw[pV,if_neg (by omega),if_neg (by omega),if_neg (by omega),if_neg (by omega),g0]
 rw[ab C0 (aj _ (by decide)) (by rw[ay];exact Tryz.func106) rfl (by rw[ae];rfl) (by rw[ae];rfl) (by decide) (by simp[Tryz.f106])]
 have e1:=gj id 123 (by decide) s ⟨m.bx++[f.cells,[.int .i64 0,.nils,.nils]],m.rw⟩ (by simp[ah,hid,hg])
 have s1:=hs.suffix (am 123 s)
 cases h1:(isC 123 s).1 with
 |false=>
  simp[ad,hid,hl,h1] at e1
  simp[Tryz.f106,a106,reg106,draw106,dok106,hid,hidk,ah,ad,ag,n4,hl,e1,bJ,h1]
  try simp[bp]
 |true=>
 have e2:=xM id f.args[0] _ (fP N f.args[0]) (ih _ (List.getElem_mem f0)) (DW N f.args[0]) 125 (by decide) (decide (6≤f.kind)) (isC 123 s).2 s1 ⟨m.bx.set id [.str (isC 123 s).2]++[f.cells,[.int .i64 0,.nils,.nils]],m.rw⟩ (by simp[ah,hid])
 simp[ad,hid,hl,h1] at e1
 cases h2:ck (pV N f.args[0]) 125 (decide (6≤f.kind)) ((isC 123 s).2.length+1) [] [] (isC 123 s).2 with
 |mk o u=>
 rw[h2] at e2
 cases o with
 |none=>
  simp[ad,hid,hl] at e2
  simp[Tryz.f106,a106,reg106,draw106,dok106,hid,hidk,ah,ad,ag,n4,hl,b1,e1,e2,bJ,h1,h2,dG,eH]
  try simp[bp]
 |some x=>
  simp[ad,hid,hl] at e2
  simp[Tryz.f106,a106,reg106,draw106,dok106,hid,hidk,ah,ad,ag,n4,hl,b1,e1,e2,bJ,h1,h2]
end
theorem C3(id:Nat):∀(N:Nat) (f:Fun),f.nodes≤N→au f=true→kY id f (pV N f):=by
 intro N
 induction N with
 |zero=>intro f hN;have:=f.nodes_pos;omega
 |succ N ih=>
 intro f hN hf
 have H:∀g,g∈f.args→kY id g (pV N g):=fun g hg=>by
  obtain⟨i,hi,rfl⟩:=List.getElem_of_mem hg
  exact ih _ (by have:=Fun.nodes_arg hg;omega) (aN hf hi)
 rcases ba hf with⟨h,hl⟩|⟨h,hl⟩|⟨h,hl⟩|⟨h,hl⟩|⟨h,hl⟩|⟨h,hl⟩|⟨h,hl⟩|⟨h,hl⟩
 ·exact si (.inl h)
 ·exact si (.inr h)
 ·exact AR hf h hl H
 ·exact B7 hf h hl H
 ·exact Cx hf h hl H
 ·exact oY hf (by omega) hl H
 ·exact oY hf (by omega) hl H
 ·exact oY hf (by omega) hl H
noncomputable def tu:Code:=match Tryz.f105.body with|some (.seq _ r)=>r|_=> .skip
theorem rbR:d9 C0.P 105=some (17,5,2,tu):=by
 rw[ay]
 unfold d9
 rw[Tryz.func105]
 rfl
theorem vJ(x y:A)(s:St):cV C0 105 [x,y] (some (.ret,s))=deferred C0 105 (17,5,2,tu) [x,y] .nili s:=lx C0 _ _ rbR (by simp) s
theorem Gc(x y a:A)(s:St):cV C0 105 [x,y] (some (.pan a,s))=deferred C0 105 (17,5,2,tu) [x,y] a s:=lK C0 _ _ rbR (by simp) a s
def bz(f:Fun)(s:List UInt8):Val×Bool:=match pV f.nodes f s with
 |(none,_)=>(bO,false)
 |(some v,t)=>(v,decide (aw 32 t=[]))
set_option maxHeartbeats 4000000 in
theorem BN(f:Fun)(hf:au f=true)(s:List UInt8)(hs:Sm s)(m:Mem):
  ai C0 58 [.agg f.cells,.str s] m=some (.ret (.tup [.agg (bz f s).1.cells,.bool (bz f s).2]),m):=by
 rw[sC C0 (aj _ (by decide)) (by rw[ay];exact Tryz.func58) rfl (by rw[ae];rfl) (by rw[ae];rfl) (by decide) (by simp[Tryz.f58])]
 unfold bz
 rw[pu _ _ _ _ _ _ rfl]
 simp[Tryz.f58,a58,reg58,draw58,dok58]
 rw[qe _ _ _ _ _ _ (d:=(7,105,[.tmp 4,.tmp 5])) rfl (by decide)]
 have e1:=C3 (m.bx.length+3) f.nodes f (Nat.le_refl _) hf s ⟨m.bx++[f.cells,[.int .i64 0,.nils,.nils],[.bool false],[.str s]],m.rw⟩ hs (by simp)
 cases hp:pV f.nodes f s with
 |mk o t=>
 rw[hp] at e1
 cases o with
 |none=>
  simp at e1
  simp[Tryz.f58,a58,reg58,draw58,dok58,Tryz.f105,a105,reg105,e1,Gc,deferred,tu,bO,bp]
 |some v=>
 simp at e1
 have e2:=tD (m.bx.length+3) t ⟨m.bx++[f.cells,v.cells,[.bool false],[.str t]],m.rw⟩ (by simp)
 simp at e2
 cases hd:aw 32 t with
 |nil=>
  simp[hd] at e2
  simp[Tryz.f58,a58,reg58,draw58,dok58,Tryz.f105,a105,reg105,e1,e2,vJ,deferred,tu,hd]
 |cons b r=>
  simp[hd] at e2
  have:¬(b::r:List UInt8)=[]:=by simp
  by_cases hb:b.toNat=0
  ·have hb':=eq_true hb
   simp[Tryz.f58,a58,reg58,draw58,dok58,Tryz.f105,a105,reg105,e1,e2,vJ,deferred,tu,hb,hd]
  ·simp[Tryz.f58,a58,reg58,draw58,dok58,Tryz.f105,a105,reg105,e1,e2,vJ,deferred,tu,hb,hd]
theorem kU{f:Fun}{s:List UInt8}(hs:Sm s):(bz f s).1.nodes≤s.length+1∧aP (bz f s).1:=by
 unfold bz
 cases hp:pV f.nodes f s with
 |mk o t=>
 cases o with
 |none=>simp only;rw[Val.nodes_eq,bj];simp[bO,Val.nodesL,bS]
 |some v=>
  have:=wL _ _ _ hs _ _ hp
  exact⟨by simp only;omega,this.2⟩
theorem B8{b:UInt8}(h:be b=false)(r:List UInt8):bd (b::r)=0:=by unfold bd;simp[h]
theorem r7{b:UInt8}(h:be b=true)(r:List UInt8):bd (b::r)=bd r+1:=by unfold bd;simp[h]
abbrev RV:=Val×RS
def fh(s:RS):Int×RS:=(gz (dA s).1,((dA s).2.1,(dA s).2.2||(decide (1<(dA s).1.length)&&decide ((dA s).1.head? =some 48))))
def fm(val:RS→RV):Nat→List Val→RS→RV
 |0,a,s=>(.mk 0 a [],s)
 |k+1,a,s=>if s.2 then(.mk 0 a [],s) else fm val k (a++[(val (if a.length=0 then s else aq [44] s)).1]) (val (if a.length=0 then s else aq [44] s)).2
def cb(w:Bool)(ws:List Int)(s:RS):List Int×RS:=if w then(ws++[(fh (aq [58] s)).1],(fh (aq [58] s)).2) else(ws,s)
def dy(val:RS→RV)(w:Bool):Nat→List Val→List Int→RS→RV
 |0,a,ws,s=>(.mk 0 a ws,s)
 |n+1,a,ws,s=>if s.2 then(.mk 0 a ws,s) else
  if(cb w ws (val s).2).2.1.head? =some [44] then dy val w n (a++[(val s).1]) (cb w ws (val s).2).1 (aq [44] (cb w ws (val s).2).2)
  else(.mk 0 (a++[(val s).1]) (cb w ws (val s).2).1,(cb w ws (val s).2).2)
def kS(val:RS→RV)(w:Bool)(s:RS):RV:=
 if(aq [123] s).1.head? =some [125] then(.mk 0 [] [],aq [125] (aq [123] s))
 else((dy val w ((aq [123] s).1.length+1) [] [] (aq [123] s)).1,aq [125] (dy val w ((aq [123] s).1.length+1) [] [] (aq [123] s)).2)
def qR(v0 v1:RS→RV)(s:RS):RV:=
 if s.1.head? =some [114] then(if(aq [114] s).2 then(.mk 1 [] [],aq [114] s) else(.mk 1 [(v1 (aq [114] s)).1] [],(v1 (aq [114] s)).2))
 else if(aq [108] s).2 then(.mk 0 [] [],aq [108] s) else(.mk 0 [(v0 (aq [108] s)).1] [],(v0 (aq [108] s)).2)
def EP(v0 v1:RS→RV)(s:RS):RV:=(.mk 0 [(v0 (aq [40] s)).1,(v1 (aq [44] (v0 (aq [40] s)).2)).1] [],aq [41] (v1 (aq [44] (v0 (aq [40] s)).2)).2)
def cg:Nat→Fun→RS→RV
 |0,_,s=>(.mk 0 [] [],(s.1,true))
 |N+1,f,s=>
  if f.kind=0∨f.kind=1 then(.mk (fh s).1 [] [],(fh s).2)
  else if f.kind=2 then EP (cg N (f.args.getD 0 bN)) (cg N (f.args.getD 1 bN)) s
  else if f.kind=3 then qR (cg N (f.args.getD 0 bN)) (cg N (f.args.getD 1 bN)) s
  else if f.kind=4 then((fm (cg N (f.args.getD 0 bN)) f.num.toNat [] (aq [91] s)).1,aq [93] (fm (cg N (f.args.getD 0 bN)) f.num.toNat [] (aq [91] s)).2)
  else kS (cg N (f.args.getD 0 bN)) (decide (6≤f.kind)) s
theorem oJ(s:RS):(fh s).2.1<:+s.1:=ij s
theorem jG(w:Bool)(ws:List Int)(s:RS):(cb w ws s).2.1<:+s.1:=by
 unfold cb
 split
 ·exact(oJ _).trans (ap _ _)
 ·exact List.suffix_refl _
def CE(r:RS→RV):Prop:=∀s,(r s).2.1<:+s.1
theorem l7{val:RS→RV}(hv:CE val):∀(k:Nat) (a:List Val) (s:RS),(fm val k a s).2.1<:+s.1
 |0,a,s=>List.suffix_refl _
 |k+1,a,s=>by
  rw[fm]
  split
  ·exact List.suffix_refl _
  ·refine(l7 hv k _ _).trans ((hv _).trans ?_)
   split
   ·exact List.suffix_refl _
   ·exact ap _ _
theorem nZ{val:RS→RV}(hv:CE val)(w:Bool):∀(n:Nat) (a:List Val) (ws:List Int) (s:RS),(dy val w n a ws s).2.1<:+s.1
 |0,a,ws,s=>List.suffix_refl _
 |n+1,a,ws,s=>by
  rw[dy]
  have h1:=(jG w ws (val s).2).trans (hv s)
  split
  ·exact List.suffix_refl _
  split
  ·exact(nZ hv w n _ _ _).trans ((ap _ _).trans h1)
  ·exact h1
theorem fR:∀(N:Nat) (f:Fun),CE (cg N f)
 |0,f,s=>List.suffix_refl _
 |N+1,f,s=>by
  have ih:=fR N
  rw[cg]
  split
  ·exact oJ s
  split
  ·exact(ap _ _).trans ((ih _ _).trans ((ap _ _).trans ((ih _ _).trans (ap _ _))))
  split
  ·unfold qR
   split
   ·split
    ·exact ap _ _
    ·exact(ih _ _).trans (ap _ _)
   ·split
    ·exact ap _ _
    ·exact(ih _ _).trans (ap _ _)
  split
  ·exact(ap _ _).trans ((l7 (ih _) _ _ _).trans (ap _ _))
  ·unfold kS
   split
   ·exact(ap _ _).trans (ap _ _)
   ·exact(ap _ _).trans ((nZ (ih _) _ _ _ _ _).trans (ap _ _))
def vI(r:RS→RV):Prop:=∀s,s.2=true→(r s).2.2=true
theorem ax{t:List UInt8}{s:RS}(h:s.2=true):(aq t s).2=true:=by
 unfold aq
 split
 ·exact h
 ·rfl
theorem fL{t:List UInt8}{s:RS}(h:s.1.head? ≠some t):(aq t s).2=true:=by
 unfold aq
 rw[if_neg h]
theorem eJ{t:List UInt8}{l:List (List UInt8)}{b:Bool}:aq t (t::l,b)=(l,b):=by
 unfold aq
 rw[if_pos (by rfl)]
 rfl
theorem Ap{s:RS}(h:s.2=true):(dA s).2.2=true:=by
 unfold dA
 split
 ·split
  ·exact h
  ·rfl
 ·rfl
theorem lm{s:RS}(h:s.2=true):(fh s).2.2=true:=by
 unfold fh
 simp only[Ap h,Bool.true_or]
theorem oI{w:Bool}{ws:List Int}{s:RS}(h:s.2=true):(cb w ws s).2.2=true:=by
 unfold cb
 split
 ·exact lm (ax h)
 ·exact h
theorem fB{val:RS→RV}:∀(k:Nat) (a:List Val) {s:RS},s.2=true→fm val k a s=(.mk 0 a [],s)
 |0,a,s,h=>rfl
 |k+1,a,s,h=>by rw[fm,if_pos h]
theorem fN{val:RS→RV}{w:Bool}:∀(n:Nat) (a:List Val) (ws:List Int) {s:RS},s.2=true→dy val w n a ws s=(.mk 0 a ws,s)
 |0,a,ws,s,h=>rfl
 |k+1,a,ws,s,h=>by rw[dy,if_pos h]
theorem mZ:∀(N:Nat) (f:Fun),vI (cg N f)
 |0,f,s,h=>rfl
 |N+1,f,s,h=>by
  have ih:=mZ N
  rw[cg]
  split
  ·exact lm h
  split
  ·exact ax (ih _ _ (ax (ih _ _ (ax h))))
  split
  ·unfold qR
   split
   ·rw[if_pos (ax h)];exact ax h
   ·rw[if_pos (ax h)];exact ax h
  split
  ·rw[fB _ _ (ax h)]
   exact ax (ax h)
  ·unfold kS
   split
   ·exact ax (ax h)
   ·rw[fN _ _ _ (ax h)]
    exact ax (ax h)
theorem FI{c:UInt8}(hc:c=93∨c=125):∀(N:Nat) (f:Fun) (s:RS),s.1.head? =some [c]→(cg N f s).2.2=true
 |0,f,s,h=>rfl
 |N+1,f,s,h=>by
  have st:=mZ N
  have hb:∀t:List UInt8,¬[c]=t→(aq t s).2=true:=fun t ht=>fL (by rw[h];intro e;exact ht (Option.some.inj e))
  have hd:be c=false:=by rcases hc with rfl|rfl<;>rfl
  rw[cg]
  split
  ·unfold fh dA
   obtain⟨l,b⟩:=s
   cases l with
   |nil=>rfl
   |cons t q=>
    simp only[List.head?_cons,Option.some.injEq] at h
    subst h
    simp[hd]
  split
  ·exact ax (st _ _ (ax (st _ _ (hb [40] (by rcases hc with rfl|rfl<;>decide)))))
  split
  ·unfold qR
   rw[if_neg (by rw[h];rcases hc with rfl|rfl<;>decide)]
   have:=hb [108] (by rcases hc with rfl|rfl<;>decide)
   rw[if_pos this]
   exact this
  split
  ·have:=hb [91] (by rcases hc with rfl|rfl<;>decide)
   rw[fB _ _ this]
   exact ax this
  ·have:=hb [123] (by rcases hc with rfl|rfl<;>decide)
   unfold kS
   split
   ·exact ax this
   ·rw[fN _ _ _ this]
    exact ax this
theorem kg:∀s,tok (aw 32 s)=tok s
 |[]=>rfl
 |c::r=>by
  by_cases h:c=32
  ·subst h
   rw[eU,kg r,jb,if_pos rfl]
  ·rw[eu h]
theorem FB{c:UInt8}(h:c∈dJ):¬c=32∧be c=false:=by
 simp[dJ] at h
 rcases h with rfl|rfl|rfl|rfl|rfl|rfl|rfl|rfl|rfl|rfl<;>exact⟨by decide,rfl⟩
theorem DA{c:UInt8}(h:c∈dJ)(r:List UInt8):tok (c::r)=(tok r).map ([c]:: ·):=by
 have:=FB h
 rw[jb,if_neg this.1,this.2,if_pos h]
 simp
theorem A2{c:UInt8}(hc:c∈dJ){u:List UInt8}(h:(isC c u).1=true):tok u=(tok (isC c u).2).map ([c]:: ·):=by
 unfold isC at h⊢
 rw[←kg u]
 cases hd:aw 32 u with
 |nil=>rw[hd] at h;cases h
 |cons b r=>
  rw[hd] at h
  simp only at h⊢
  split at h
  ·rename_i hb
   subst hb
   rw[if_pos rfl]
   exact DA hc r
  ·cases h
theorem tg{c:UInt8}{r:List UInt8}{l:List (List UInt8)}(h32:¬c=32)(h:tok (c::r)=some l):∃t q,l=(c::t)::q∧(be c=false→t=[]):=by
 rw[jb,if_neg h32] at h
 split at h
 ·rename_i hd
  obtain⟨q,_,rfl⟩:=Option.map_eq_some_iff.1 h
  exact⟨_,q,rfl,fun hf=>by rw[hd] at hf;cases hf⟩
 ·split at h
  ·obtain⟨q,_,rfl⟩:=Option.map_eq_some_iff.1 h
   exact⟨[],q,rfl,fun _=>rfl⟩
  ·cases h
theorem gW{c:UInt8}:∀{s r:List UInt8} {b:UInt8},aw c s=b::r→¬b=c
 |[],r,b,h=>by cases h
 |x::s,r,b,h=>by
  by_cases hx:x=c
  ·subst hx
   rw[eU] at h
   exact gW h
  ·rw[eu hx] at h
   cases h
   exact hx
theorem fp{c:UInt8}{u:List UInt8}(h:(isC c u).1=false):tok (isC c u).2=tok u∧∀l,tok u=some l→l.head? ≠some [c]:=by
 unfold isC at h⊢
 rw[←kg u]
 cases hd:aw 32 u with
 |nil=>
  simp only
  refine⟨trivial,fun l hl=> ?_⟩
  rw[kR] at hl
  cases hl
  simp
 |cons b r=>
  rw[hd] at h
  simp only at h⊢
  split at h
  ·cases h
  ·rename_i hb
   rw[if_neg hb]
   refine⟨rfl,fun l hl=> ?_⟩
   obtain⟨t,q,rfl,_⟩:=tg (gW hd) hl
   simp
   intro e
   exact absurd e hb
theorem eW{c:UInt8}(hc:c∈dJ){u:List UInt8}(h:(isC c u).1=true){l:List (List UInt8)}(hl:tok u=some l):∃l',l=[c]::l'∧tok (isC c u).2=some l':=by
 rw[A2 hc h] at hl
 obtain⟨l',h1,rfl⟩:=Option.map_eq_some_iff.1 hl
 exact⟨l',rfl,h1⟩
def Bk(s t:List UInt8):Prop:=∀l',tok t=some l'→∃l,tok s=some l
theorem Bk.refl(s:List UInt8):Bk s s:=fun l h=>⟨l,h⟩
theorem Bk.trans{s t u:List UInt8}(h:Bk s t)(k:Bk t u):Bk s u:=fun l hl=>by
 obtain⟨q,hq⟩:=k l hl
 exact h q hq
theorem gM{c:UInt8}(hc:c∈dJ)(u:List UInt8):Bk u (isC c u).2:=fun l hl=>by
 cases h:(isC c u).1
 ·rw[(fp h).1] at hl;exact⟨l,hl⟩
 ·rw[A2 hc h,hl];exact⟨_,rfl⟩
theorem EX{s t:List UInt8}{k:Int}(h:jV s=(some k,t)):Bk s t∧∀l,tok s=some l→∃l',tok t=some l'∧fh (l,false)=(k,(l',false)):=by
 unfold jV at h
 split at h
 ·cases h
 ·rename_i h0
  simp only[Prod.mk.injEq,Option.some.injEq] at h
  have ht:=kg s
  cases hd:aw 32 s with
  |nil=>rw[hd] at h0;exact absurd (.inl rfl) h0
  |cons c r=>
   rw[hd] at h h0 ht
   cases hc:be c with
   |false=>rw[B8 hc] at h0;exact absurd (.inl rfl) h0
   |true=>
    have hn:=r7 hc r
    have hrl:=jr r
    rw[hn,List.take_succ_cons,List.drop_succ_cons] at h
    rw[jb,if_neg (gW hd),hc,if_pos rfl,h.2] at ht
    refine⟨fun l hl=>by rw[←ht,hl];exact⟨_,rfl⟩,fun l hl=> ?_⟩
    rw[←ht] at hl
    obtain⟨q,hq,rfl⟩:=Option.map_eq_some_iff.1 hl
    refine⟨q,hq, ?_⟩
    have hz:¬(0<bd r∧c=48):=fun e=>h0 (.inr ⟨by rw[e.2];rfl,by omega⟩)
    unfold fh dA
    simp only[hc,if_true,h.1,List.length_cons,List.length_take,List.head?_cons,Option.some.injEq,Bool.false_or]
    have:(decide (1<min (bd r) r.length+1)&&decide (c=48))=false:=by
     rw[Bool.and_eq_false_iff,decide_eq_false_iff_not,decide_eq_false_iff_not]
     by_cases e:c=48
     ·left;intro e2;exact hz ⟨by omega,e⟩
     ·right;exact e
    rw[this]
theorem Bi{s t:List UInt8}{l:List (List UInt8)}(h:jV s=(none,t))(hl:tok s=some l):(fh (l,false)).2.2=true:=by
 unfold jV at h
 split at h
 ·rename_i h0
  rw[←kg s] at hl
  cases hd:aw 32 s with
  |nil=>
   rw[hd,kR] at hl
   cases hl
   rfl
  |cons c r=>
   rw[hd] at hl h0
   cases hc:be c with
   |true=>
    rw[r7 hc] at h0
    have h1:oM (c::r)=48∧1<bd r+1:=by
     rcases h0 with h|h
     ·omega
     ·exact h
    have hrl:=jr r
    have hc48:c=48:=by
     have h2:(c.toNat:Int)=48:=h1.1
     exact UInt8.toNat_inj.1 (by simp;omega)
    rw[jb,if_neg (gW hd),hc,if_pos rfl] at hl
    obtain⟨q,_,rfl⟩:=Option.map_eq_some_iff.1 hl
    unfold fh dA
    simp only[hc48,show be 48=true from rfl,if_true,List.length_cons,List.length_take,List.head?_cons,Bool.false_or,decide_true,Bool.and_true,decide_eq_true_eq]
    omega
   |false=>
    obtain⟨t',q,rfl,_⟩:=tg (gW hd) hl
    unfold fh dA
    simp[hc]
 ·cases h
def wc(s:List UInt8)(x:PRV)(r:RS→RV):Prop:=
 (∀v t,x=(some v,t)→Bk s t∧∀l,tok s=some l→∃l',tok t=some l'∧r (l,false)=(v,(l',false)))∧
 (∀t l,x=(none,t)→tok s=some l→(r (l,false)).2.2=true)
def De(p:List UInt8→PRV)(r:RS→RV):Prop:=∀s,Sm s→wc s (p s) r
section
variable {val:List UInt8→PRV} {rv:RS→RV} (hsim:De val rv) (hsuf:∀s,(val s).2<:+s) (hlt:∀s v t,Sm s→val s=(some v,t)→t.length<s.length) (hst:vI rv) (hno:∀(c:UInt8) (s:RS),(c=93∨c=125)→s.1.head? =some [c]→(rv s).2.2=true) (hrs:CE rv)
include hsim hsuf hlt hst hno
theorem Ba:∀(n:Nat) (a:List Val) (s:List UInt8),Sm s→s.length<n→
  (∀v t,ck val 93 false n a [] s=(some v,t)→Bk s t∧a.length≤v.args.length∧v.num=0∧v.ws=[]∧∀l,tok s=some l→∃l',tok t=some l'∧∀k,(k+a.length=v.args.length→fm rv k a (l,false)=(v,([93]::l',false)))∧(k+a.length≠v.args.length→(aq [93] (fm rv k a (l,false)).2).2=true))∧
  (∀t l,ck val 93 false n a [] s=(none,t)→tok s=some l→∀k,(aq [93] (fm rv k a (l,false)).2).2=true)
 |0,a,s,hs,hn=>by omega
 |n+1,a,s,hs,hn=>by
  have m93:(93:UInt8)∈dJ:=by decide
  have m44:(44:UInt8)∈dJ:=by decide
  have h1s:=hs.suffix (am 93 s)
  have h1l:=(am 93 s).length_le
  rw[ck]
  cases h1:(isC 93 s).1 with
  |true=>
   simp only[if_true]
   refine⟨fun v t h=> ?_,fun t l h=>by simp at h⟩
   simp only[Prod.mk.injEq,Option.some.injEq] at h
   obtain⟨rfl,rfl⟩:=h
   refine⟨gM m93 s,Nat.le_refl _,rfl,rfl,fun l hl=> ?_⟩
   obtain⟨l',rfl,h2⟩:=eW m93 h1 hl
   refine⟨l',h2,fun k=>⟨fun hk=> ?_,fun hk=> ?_⟩⟩
   ·simp only[Val.args_mk] at hk
    obtain rfl:k=0:=by omega
    rfl
   ·simp only[Val.args_mk] at hk
    obtain⟨k,rfl⟩:∃j,k=j+1:=⟨k-1,by omega⟩
    rw[fm,if_neg (by simp)]
    have hb:(rv (if a.length=0 then([93]::l',false) else aq [44] ([93]::l',false))).2.2=true:=by
     split
     ·exact hno 93 _ (.inl rfl) rfl
     ·exact hst _ (fL (by simp))
    rw[fB _ _ hb]
    exact ax hb
  |false=>
  simp only[Bool.false_eq_true,if_false]
  obtain⟨t1,q1⟩:=fp h1
  have bk1:Bk s (isC 93 s).2:=gM m93 s
  have key0:∀l,tok s=some l→(aq [93] (fm rv 0 a (l,false)).2).2=true:=fun l hl=>fL (q1 l hl)
  by_cases h2:a.length≠0∧(isC 44 (isC 93 s).2).1=false
  ·rw[if_pos h2]
   refine⟨fun v t h=>by simp at h,fun t l h hl k=> ?_⟩
   cases k with
   |zero=>exact key0 l hl
   |succ k=>
    obtain⟨_,q2⟩:=fp h2.2
    have hb:(rv (if a.length=0 then(l,false) else aq [44] (l,false))).2.2=true:=by
     rw[if_neg h2.1]
     exact hst _ (fL (q2 l (by rw[t1];exact hl)))
    rw[fm,if_neg (by simp),fB _ _ hb]
    exact ax hb
  rw[if_neg h2]
  have hu:∃u,u=(if a.length=0 then(isC 93 s).2 else(isC 44 (isC 93 s).2).2)∧Sm u∧u.length≤s.length∧Bk s u∧∀l,tok s=some l→∃lu,tok u=some lu∧(if a.length=0 then((l,false):RS) else aq [44] (l,false))=(lu,false):=by
   by_cases ha:a.length=0
   ·refine⟨_,rfl, ?_⟩
    rw[if_pos ha]
    exact⟨h1s,h1l,bk1,fun l hl=>⟨l,by rw[t1];exact hl,by rw[if_pos ha]⟩⟩
   ·have h44:(isC 44 (isC 93 s).2).1=true:=by
     cases h:(isC 44 (isC 93 s).2).1
     ·exact absurd ⟨ha,h⟩ h2
     ·rfl
    refine⟨_,rfl, ?_⟩
    rw[if_neg ha]
    refine⟨h1s.suffix (am 44 _),by have:=(am 44 (isC 93 s).2).length_le;omega,bk1.trans (gM m44 _),fun l hl=> ?_⟩
    rw[←t1] at hl
    obtain⟨l',rfl,h3⟩:=eW m44 h44 hl
    exact⟨l',h3,by rw[if_neg ha,eJ]⟩
  obtain⟨u,hue,hus,hul,hub,huf⟩:=hu
  rw[←hue]
  obtain⟨p1,p2⟩:=hsim u hus
  have hvs:=hsuf u
  cases hv:val u with
  |mk o q=>
  rw[hv] at p1 p2 hvs
  cases o with
  |none=>
   simp only[bA]
   refine⟨fun v t h=>by simp at h,fun t l h hl k=> ?_⟩
   cases k with
   |zero=>exact key0 l hl
   |succ k=>
    obtain⟨lu,h3,h4⟩:=huf l hl
    have hb:=p2 q lu rfl h3
    rw[←h4] at hb
    rw[fm,if_neg (by simp),fB _ _ hb]
    exact ax hb
  |some x=>
   simp only[bA]
   obtain⟨hbq,hq⟩:=p1 x q rfl
   have hql:=hlt u x q hus hv
   obtain⟨i1,i2⟩:=Ba n (a++[x]) q (hus.suffix hvs) (by omega)
   have hstep:∀l,tok s=some l→∃lq,tok q=some lq∧∀k,fm rv (k+1) a (l,false)=fm rv k (a++[x]) (lq,false):=fun l hl=>by
    obtain⟨lu,h3,h4⟩:=huf l hl
    obtain⟨lq,h5,h6⟩:=hq lu h3
    refine⟨lq,h5,fun k=> ?_⟩
    rw[fm,if_neg (by simp),h4,h6]
   refine⟨fun v t h=> ?_,fun t l h hl k=> ?_⟩
   ·obtain⟨j1,j2,j3,j4,j5⟩:=i1 v t h
    simp only[List.length_append,List.length_cons,List.length_nil] at j2
    refine⟨(hub.trans hbq).trans j1,by omega,j3,j4,fun l hl=> ?_⟩
    obtain⟨lq,h5,h6⟩:=hstep l hl
    obtain⟨l',h7,h8⟩:=j5 lq h5
    refine⟨l',h7,fun k=> ?_⟩
    cases k with
    |zero=>exact⟨fun hk=>by omega,fun _=>key0 l hl⟩
    |succ k=>
     rw[h6]
     have:=h8 k
     simp only[List.length_append,List.length_cons,List.length_nil] at this
     exact⟨fun hk=>this.1 (by omega),fun hk=>this.2 (by omega)⟩
   ·cases k with
    |zero=>exact key0 l hl
    |succ k=>
     obtain⟨lq,h5,h6⟩:=hstep l hl
     rw[h6]
     exact i2 t lq h h5 k
def yq(val:List UInt8→PRV)(w:Bool)(n:Nat)(a:List Val)(ws:List Int)(s:List UInt8):PRV:=bA (val s) fun x u=>
 if w then bJ 58 u fun t=>fX (jV t) fun k v=>ck val 125 w n (a++[x]) (ws++[k]) v
 else ck val 125 w n (a++[x]) ws u
omit hst hno in
include hrs in
theorem Du(w:Bool):∀(n:Nat) (a:List Val) (ws:List Int) (s:List UInt8),Sm s→s.length≤n→∀M:Nat,
  (∀v t,yq val w n a ws s=(some v,t)→Bk s t∧∀l,tok s=some l→l.length<M→∃l',tok t=some l'∧dy rv w M a ws (l,false)=(v,([125]::l',false)))∧
  (∀t l,yq val w n a ws s=(none,t)→tok s=some l→l.length<M→(aq [125] (dy rv w M a ws (l,false)).2).2=true):=by
 intro n
 induction n with
 |zero=>
  intro a ws s hs hn M
  have hv:∃t,val s=(none,t):=by
   cases hv:val s with
   |mk o q=>
   cases o with
   |none=>exact⟨q,rfl⟩
   |some x=>have:=hlt s x q hs hv;omega
  obtain⟨t,hv⟩:=hv
  refine⟨fun v t' h=>by rw[yq,hv] at h;simp[bA] at h,fun t' l h hl hM=> ?_⟩
  obtain⟨M,rfl⟩:∃j,M=j+1:=⟨M-1,by omega⟩
  have hb:=(hsim s hs).2 t l hv hl
  have hb2:=oI (w:=w) (ws:=ws) hb
  rw[dy,if_neg (by simp)]
  split
  ·rw[fN _ _ _ (ax hb2)]
   exact ax (ax hb2)
  ·exact ax hb2
 |succ n ih=>
  intro a ws s hs hn M
  have m125:(125:UInt8)∈dJ:=by decide
  have m44:(44:UInt8)∈dJ:=by decide
  have m58:(58:UInt8)∈dJ:=by decide
  obtain⟨p1,p2⟩:=hsim s hs
  have hvs:=hsuf s
  have hbad:∀l:List (List UInt8),l.length<M→(cb w ws (rv (l,false)).2).2.2=true→(aq [125] (dy rv w M a ws (l,false)).2).2=true:=fun l hM hb2=>by
   obtain⟨M,rfl⟩:∃j,M=j+1:=⟨M-1,by omega⟩
   rw[dy,if_neg (by simp)]
   split
   ·rw[fN _ _ _ (ax hb2)]
    exact ax (ax hb2)
   ·exact ax hb2
  unfold yq
  cases hv:val s with
  |mk o u=>
  rw[hv] at p1 p2 hvs
  cases o with
  |none=>
   simp only[bA]
   exact⟨fun v t h=>by simp at h,fun t l h hl hM=>hbad l hM (oI (p2 u l rfl hl))⟩
  |some x=>
  obtain⟨hbu,hfu⟩:=p1 x u rfl
  have hul:=hlt s x u hs hv
  have hus:=hs.suffix hvs
  simp only[bA]
  have tail:∀(ws2:List Int) (q:List UInt8),Sm q→q.length≤u.length→Bk u q→(∀lu,tok u=some lu→∀b,rv (b,false)=(x,(lu,false))→∃lq,tok q=some lq∧cb w ws (rv (b,false)).2=(ws2,(lq,false)))→
    (∀v t,ck val 125 w (n+1) (a++[x]) ws2 q=(some v,t)→Bk s t∧∀l,tok s=some l→l.length<M→∃l',tok t=some l'∧dy rv w M a ws (l,false)=(v,([125]::l',false)))∧
    (∀t l,ck val 125 w (n+1) (a++[x]) ws2 q=(none,t)→tok s=some l→l.length<M→(aq [125] (dy rv w M a ws (l,false)).2).2=true):=by
   intro ws2 q hq hql hbq hfq
   have hsq:Bk s q:=hbu.trans hbq
   have fwd:∀l,tok s=some l→∃lq,tok q=some lq∧cb w ws (rv (l,false)).2=(ws2,(lq,false))∧(rv (l,false)).1=x∧lq.length≤l.length:=fun l hl=>by
    obtain⟨lu,h3,h4⟩:=hfu l hl
    obtain⟨lq,h5,h6⟩:=hfq lu h3 l h4
    have h7:=(jG w ws (rv (l,false)).2).length_le
    have h8:=(hrs (l,false)).length_le
    rw[h6] at h7
    exact⟨lq,h5,h6,by rw[h4],by simp only at h7 h8;omega⟩
   have h1s:=hq.suffix (am 125 q)
   have h1l:=(am 125 q).length_le
   rw[ck]
   cases h1:(isC 125 q).1 with
   |true=>
    simp only[if_true]
    refine⟨fun v t h=> ?_,fun t l h=>by simp at h⟩
    simp only[Prod.mk.injEq,Option.some.injEq] at h
    obtain⟨rfl,rfl⟩:=h
    refine⟨hsq.trans (gM m125 q),fun l hl hM=> ?_⟩
    obtain⟨M,rfl⟩:∃j,M=j+1:=⟨M-1,by omega⟩
    obtain⟨lq,h5,h6,h7,_⟩:=fwd l hl
    obtain⟨l',rfl,h8⟩:=eW m125 h1 h5
    refine⟨l',h8, ?_⟩
    rw[dy,if_neg (by simp),h6,h7]
    rw[if_neg (by simp)]
   |false=>
   simp only[Bool.false_eq_true,if_false]
   obtain⟨t1,q1⟩:=fp h1
   have hal:¬(a++[x]).length=0:=by simp
   cases h2:(isC 44 (isC 125 q).2).1 with
   |false=>
    rw[if_pos ⟨hal,rfl⟩]
    refine⟨fun v t h=>by simp at h,fun t l h hl hM=> ?_⟩
    obtain⟨M,rfl⟩:∃j,M=j+1:=⟨M-1,by omega⟩
    obtain⟨lq,h5,h6,h7,_⟩:=fwd l hl
    obtain⟨_,q2⟩:=fp h2
    rw[dy,if_neg (by simp),h6,if_neg (q2 lq (by rw[t1];exact h5))]
    exact fL (q1 lq h5)
   |true=>
    rw[if_neg (fun h=>by cases h.2),if_neg hal]
    have hz:Sm (isC 44 (isC 125 q).2).2:=h1s.suffix (am 44 _)
    have hzl:=(am 44 (isC 125 q).2).length_le
    obtain⟨M',hM'⟩:∃j,M=j+1∨M=0:=⟨M-1,by omega⟩
    obtain⟨i1,i2⟩:=ih (a++[x]) ws2 (isC 44 (isC 125 q).2).2 hz (by omega) M'
    have hstep:∀l,tok s=some l→l.length<M→∃lz,tok (isC 44 (isC 125 q).2).2=some lz∧lz.length<M'∧dy rv w M a ws (l,false)=dy rv w M' (a++[x]) ws2 (lz,false):=fun l hl hM=>by
     obtain rfl:M=M'+1:=by omega
     obtain⟨lq,h5,h6,h7,h9⟩:=fwd l hl
     rw[←t1] at h5
     obtain⟨lz,rfl,h8⟩:=eW m44 h2 h5
     simp only[List.length_cons] at h9
     refine⟨lz,h8,by omega, ?_⟩
     rw[dy,if_neg (by simp),h6,h7,if_pos (by simp),eJ]
    refine⟨fun v t h=> ?_,fun t l h hl hM=> ?_⟩
    ·obtain⟨j1,j2⟩:=i1 v t h
     refine⟨((hsq.trans (gM m125 q)).trans (gM m44 _)).trans j1,fun l hl hM=> ?_⟩
     obtain⟨lz,h3,h4,h5⟩:=hstep l hl hM
     rw[h5]
     exact j2 lz h3 h4
    ·obtain⟨lz,h3,h4,h5⟩:=hstep l hl hM
     rw[h5]
     exact i2 t lz h h3 h4
  cases w with
  |false=>
   simp only[Bool.false_eq_true,if_false]
   refine tail ws u hus (Nat.le_refl _) (Bk.refl u) fun lu h3 b h4=>⟨lu,h3, ?_⟩
   rw[h4]
   rfl
  |true=>
   simp only[if_true]
   unfold bJ
   cases h5:(isC 58 u).1 with
   |false=>
    simp only[Bool.false_eq_true,if_false]
    refine⟨fun v t h=>by simp at h,fun t l h hl hM=>hbad l hM ?_⟩
    obtain⟨lu,h3,h4⟩:=hfu l hl
    rw[h4]
    obtain⟨_,q2⟩:=fp h5
    exact lm (fL (q2 lu h3))
   |true=>
   simp only[if_true]
   have hz:=hus.suffix (am 58 u)
   have hzl:=(am 58 u).length_le
   cases hp:jV (isC 58 u).2 with
   |mk o2 q=>
   have hql:=(dq (isC 58 u).2).length_le
   have hqs:=hz.suffix (dq (isC 58 u).2)
   rw[hp] at hql hqs
   simp only at hql hqs
   cases o2 with
   |none=>
    simp only[fX]
    refine⟨fun v t h=>by simp at h,fun t l h hl hM=>hbad l hM ?_⟩
    obtain⟨lu,h3,h4⟩:=hfu l hl
    obtain⟨lz,rfl,h6⟩:=eW m58 h5 h3
    rw[h4]
    unfold cb
    simp only[if_true,eJ]
    exact Bi hp h6
   |some k=>
    simp only[fX]
    obtain⟨n1,n2⟩:=EX hp
    refine tail (ws++[k]) q hqs (by omega) ((gM m58 u).trans n1) fun lu h3 b h4=> ?_
    obtain⟨lz,rfl,h6⟩:=eW m58 h5 h3
    obtain⟨lq,h7,h8⟩:=n2 lz h6
    refine⟨lq,h7, ?_⟩
    rw[h4]
    unfold cb
    simp only[if_true,eJ,h8]
end
theorem BE(s:List UInt8)(v:Val):wc s (some v,s) (fun st=>(v,st)):=
 ⟨fun v' t h=>by
  simp only[Prod.mk.injEq,Option.some.injEq] at h
  obtain⟨rfl,rfl⟩:=h
  exact⟨Bk.refl s,fun l hl=>⟨l,hl,rfl⟩⟩,fun t l h=>by simp at h⟩
theorem lQ{c:UInt8}(hc:c∈dJ){s:List UInt8}{k:List UInt8→PRV}{r':RS→RV}(hst:vI r')(hk:wc (isC c s).2 (k (isC c s).2) r'):wc s (bJ c s k) (fun st=>r' (aq [c] st)):=by
 unfold bJ
 cases h:(isC c s).1 with
 |false=>
  simp only[Bool.false_eq_true,if_false]
  exact⟨fun v t h=>by simp at h,fun t l h2 hl=>hst _ (fL ((fp h).2 l hl))⟩
 |true=>
  simp only[if_true]
  refine⟨fun v t h2=> ?_,fun t l h2 hl=> ?_⟩
  ·obtain⟨a,b⟩:=hk.1 v t h2
   refine⟨(gM hc s).trans a,fun l hl=> ?_⟩
   obtain⟨l',rfl,h3⟩:=eW hc h hl
   dsimp only
   rw[eJ]
   exact b l' h3
  ·obtain⟨l',rfl,h3⟩:=eW hc h hl
   simp only[eJ]
   exact hk.2 t l' h2 h3
theorem r8{s:List UInt8}{x:PRV}{k:Val→List UInt8→PRV}{r:RS→RV}{r':Val→RS→RV}(hst:∀v,vI (r' v))(hx:wc s x r)(hk:∀v t,x=(some v,t)→wc t (k v t) (r' v)):wc s (bA x k) (fun st=>r' (r st).1 (r st).2):=by
 obtain⟨o,u⟩:=x
 cases o with
 |none=>exact⟨fun v t h=>by simp[bA] at h,fun t l h hl=>hst _ _ (hx.2 u l rfl hl)⟩
 |some y=>
  obtain⟨a,b⟩:=hx.1 y u rfl
  obtain⟨c,d⟩:=hk y u rfl
  refine⟨fun v t h=> ?_,fun t l h hl=> ?_⟩
  ·obtain⟨e,g⟩:=c v t h
   refine⟨a.trans e,fun l hl=> ?_⟩
   obtain⟨l',h1,h2⟩:=b l hl
   dsimp only
   rw[h2]
   exact g l' h1
  ·obtain⟨l',h1,h2⟩:=b l hl
   simp only[h2]
   exact d t l' h h1
theorem FA{p0 p1:List UInt8→PRV}{r0 r1:RS→RV}(h0:De p0 r0)(h1:De p1 r1){s:List UInt8}(hs:Sm s):
  wc s (if(isC 108 s).1 then bA (p0 (isC 108 s).2) fun x t=>(some (.mk 0 [x] []),t) else bJ 114 (isC 108 s).2 fun s=>bA (p1 s) fun x t=>(some (.mk 1 [x] []),t)) (qR r0 r1):=by
 have m108:(108:UInt8)∈dJ:=by decide
 have m114:(114:UInt8)∈dJ:=by decide
 have s1:=hs.suffix (am 108 s)
 have one:∀(n:Int) (p:List UInt8→PRV) (r:RS→RV) (u:List UInt8),De p r→Sm u→wc u (bA (p u) fun x t=>(some (.mk n [x] []),t)) (fun st=>(.mk n [(r st).1] [],(r st).2)):=fun n p r u h hu=>
  r8 (r:=r) (r':=fun v st=>(.mk n [v] [],st)) (fun v st h=>h) (h u hu) fun v t _=>BE t _
 cases h:(isC 108 s).1 with
 |true=>
  simp only[if_true]
  obtain⟨a,b⟩:=one 0 p0 r0 _ h0 s1
  have hr:∀l',qR r0 r1 ([108]::l',false)=(.mk 0 [(r0 (l',false)).1] [],(r0 (l',false)).2):=fun l'=>by
   unfold qR
   rw[if_neg (by simp),eJ,if_neg (by simp)]
  refine⟨fun v t h2=> ?_,fun t l h2 hl=> ?_⟩
  ·obtain⟨c,d⟩:=a v t h2
   refine⟨(gM m108 s).trans c,fun l hl=> ?_⟩
   obtain⟨l',rfl,h3⟩:=eW m108 h hl
   rw[hr]
   exact d l' h3
  ·obtain⟨l',rfl,h3⟩:=eW m108 h hl
   rw[hr]
   exact b t l' h2 h3
 |false=>
  simp only[Bool.false_eq_true,if_false]
  obtain⟨t1,q1⟩:=fp h
  unfold bJ
  cases h2:(isC 114 (isC 108 s).2).1 with
  |true=>
   simp only[if_true]
   obtain⟨a,b⟩:=one 1 p1 r1 _ h1 (s1.suffix (am 114 _))
   have hr:∀l',qR r0 r1 ([114]::l',false)=(.mk 1 [(r1 (l',false)).1] [],(r1 (l',false)).2):=fun l'=>by
    unfold qR
    rw[if_pos (by simp),eJ,if_neg (by simp)]
   refine⟨fun v t h3=> ?_,fun t l h3 hl=> ?_⟩
   ·obtain⟨c,d⟩:=a v t h3
    refine⟨((gM m108 s).trans (gM m114 _)).trans c,fun l hl=> ?_⟩
    rw[←t1] at hl
    obtain⟨l',rfl,h4⟩:=eW m114 h2 hl
    rw[hr]
    exact d l' h4
   ·rw[←t1] at hl
    obtain⟨l',rfl,h4⟩:=eW m114 h2 hl
    rw[hr]
    exact b t l' h3 h4
  |false=>
   simp only[Bool.false_eq_true,if_false]
   refine⟨fun v t h=>by simp at h,fun t l h3 hl=> ?_⟩
   have q2:=(fp h2).2 l (by rw[t1];exact hl)
   have hb:(aq [108] (l,false)).2=true:=fL (q1 l hl)
   unfold qR
   rw[if_neg q2,if_pos hb]
   exact hb
theorem xx{f:Fun}(hf:au f=true)(i:Nat):au (f.args.getD i bN)=true:=by
 by_cases h:i<f.args.length
 ·rw[List.getD_eq_getElem?_getD,List.getElem?_eq_getElem h]
  exact aN hf h
 ·rw[List.getD_eq_getElem?_getD,List.getElem?_eq_none (by omega)]
  rfl
theorem EK:∀(N:Nat) (f:Fun),au f=true→De (pV N f) (cg N f)
 |0,f,hf=>fun s hs=>⟨fun v t h=>by rw[pV] at h;simp at h,fun t l h hl=>rfl⟩
 |N+1,f,hf=>fun s hs=>by
  have ih:=fun i=>EK N (f.args.getD i bN) (xx hf i)
  have st:=fun i=>mZ N (f.args.getD i bN)
  have hnn:f.kind=4→0≤f.num:=fun h=>by have:=dZ hf;omega
  have hR:cg (N+1) f=fun s=>if f.kind=0∨f.kind=1 then(.mk (fh s).1 [] [],(fh s).2)
   else if f.kind=2 then EP (cg N (f.args.getD 0 bN)) (cg N (f.args.getD 1 bN)) s
   else if f.kind=3 then qR (cg N (f.args.getD 0 bN)) (cg N (f.args.getD 1 bN)) s
   else if f.kind=4 then((fm (cg N (f.args.getD 0 bN)) f.num.toNat [] (aq [91] s)).1,aq [93] (fm (cg N (f.args.getD 0 bN)) f.num.toNat [] (aq [91] s)).2)
   else kS (cg N (f.args.getD 0 bN)) (decide (6≤f.kind)) s:=by funext s;rw[cg]
  rw[pV,hR]
  generalize hp0:pV N (f.args.getD 0 bN)=p0
  generalize hp1:pV N (f.args.getD 1 bN)=p1
  generalize hr0:cg N (f.args.getD 0 bN)=r0
  generalize hr1:cg N (f.args.getD 1 bN)=r1
  have i0:=ih 0
  have i1:=ih 1
  have t0:=st 0
  have t1:=st 1
  rw[hp0,hr0] at i0
  rw[hp1,hr1] at i1
  rw[hr0] at t0
  rw[hr1] at t1
  have suf0:∀s,(p0 s).2<:+s:=by rw[←hp0];exact fP N _
  have suf1:∀s,(p1 s).2<:+s:=by rw[←hp1];exact fP N _
  have lt0:∀s v t,Sm s→p0 s=(some v,t)→t.length<s.length:=by rw[←hp0];exact DW N _
  have no0:∀(c:UInt8) (s:RS),(c=93∨c=125)→s.1.head? =some [c]→(r0 s).2.2=true:=by rw[←hr0];exact fun c s hc h=>FI hc N _ s h
  have rs0:CE r0:=by rw[←hr0];exact fR N _
  by_cases h01:f.kind=0∨f.kind=1
  ·simp only[if_pos h01]
   cases hp:jV s with
   |mk o q=>
   cases o with
   |none=>exact⟨fun v t h=>by simp[fX] at h,fun t l h hl=>Bi hp hl⟩
   |some k=>
    obtain⟨a,b⟩:=EX hp
    refine⟨fun v t h=> ?_,fun t l h=>by simp[fX] at h⟩
    simp only[fX,Prod.mk.injEq,Option.some.injEq] at h
    obtain⟨rfl,rfl⟩:=h
    refine⟨a,fun l hl=> ?_⟩
    obtain⟨l',h1,h2⟩:=b l hl
    exact⟨l',h1,by dsimp only;rw[h2]⟩
  simp only[if_neg h01]
  by_cases h2:f.kind=2
  ·simp only[if_pos h2]
   have u1:=hs.suffix (am 40 s)
   refine lQ (r':=fun st=>(.mk 0 [(r0 st).1,(r1 (aq [44] (r0 st).2)).1] [],aq [41] (r1 (aq [44] (r0 st).2)).2)) (by decide) (fun st h=>ax (t1 _ (ax (t0 _ h)))) ?_
   refine r8 (r:=r0) (r':=fun x st=>(.mk 0 [x,(r1 (aq [44] st)).1] [],aq [41] (r1 (aq [44] st)).2)) (fun x st h=>ax (t1 _ (ax h))) (i0 _ u1) fun x u hx=> ?_
   have u2:Sm u:=u1.suffix (by have:=suf0 (isC 40 s).2;rw[hx] at this;exact this)
   refine lQ (r':=fun st=>(.mk 0 [x,(r1 st).1] [],aq [41] (r1 st).2)) (by decide) (fun st h=>ax (t1 _ h)) ?_
   refine r8 (r:=r1) (r':=fun y st=>(.mk 0 [x,y] [],aq [41] st)) (fun y st h=>ax h) (i1 _ (u2.suffix (am 44 u))) fun y q hy=> ?_
   exact lQ (r':=fun st=>(.mk 0 [x,y] [],st)) (by decide) (fun st h=>h) (BE _ _)
  simp only[if_neg h2]
  by_cases h3:f.kind=3
  ·simp only[if_pos h3]
   exact FA i0 i1 hs
  simp only[if_neg h3]
  by_cases h4:f.kind=4
  ·simp only[if_pos h4]
   have hn:=hnn h4
   refine lQ (r':=fun st=>((fm r0 f.num.toNat [] st).1,aq [93] (fm r0 f.num.toNat [] st).2)) (by decide) (fun st h=>by simp only;rw[fB _ _ h];exact ax h) ?_
   obtain⟨a,b⟩:=Ba i0 suf0 lt0 t0 no0 ((isC 91 s).2.length+1) [] (isC 91 s).2 (hs.suffix (am 91 s)) (by omega)
   cases hl:ck p0 93 false ((isC 91 s).2.length+1) [] [] (isC 91 s).2 with
   |mk o q=>
   cases o with
   |none=>exact⟨fun v t h=>by simp[bA] at h,fun t l h hk=>b q l hl hk _⟩
   |some v=>
    obtain⟨c1,c2,c3,c4,c5⟩:=a v q hl
    simp only[bA]
    by_cases hv:(v.args.length:Int)=f.num
    ·rw[if_pos hv]
     refine⟨fun v' t h=> ?_,fun t l h=>by simp at h⟩
     simp only[Prod.mk.injEq,Option.some.injEq] at h
     obtain⟨rfl,rfl⟩:=h
     refine⟨c1,fun l hk=> ?_⟩
     obtain⟨l',h5,h6⟩:=c5 l hk
     refine⟨l',h5, ?_⟩
     dsimp only
     rw[(h6 f.num.toNat).1 (by simp;omega),eJ]
    ·rw[if_neg hv]
     refine⟨fun v' t h=>by simp at h,fun t l h hk=> ?_⟩
     obtain⟨l',h5,h6⟩:=c5 l hk
     exact(h6 f.num.toNat).2 (by simp;omega)
  simp only[if_neg h4]
  generalize decide (6≤f.kind)=w
  refine lQ (r':=fun st=>if st.1.head? =some [125] then(.mk 0 [] [],aq [125] st) else((dy r0 w (st.1.length+1) [] [] st).1,aq [125] (dy r0 w (st.1.length+1) [] [] st).2)) (by decide) (fun st h=> ?_) ?_
  ·simp only
   split
   ·exact ax h
   ·rw[fN _ _ _ h];exact ax h
  ·have u1:=hs.suffix (am 123 s)
   generalize (isC 123 s).2=z at u1
   have m125:(125:UInt8)∈dJ:=by decide
   rw[ck]
   cases h5:(isC 125 z).1 with
   |true=>
    simp only[if_true]
    refine⟨fun v t h=> ?_,fun t l h=>by simp at h⟩
    simp only[Prod.mk.injEq,Option.some.injEq] at h
    obtain⟨rfl,rfl⟩:=h
    refine⟨gM m125 z,fun l hl=> ?_⟩
    obtain⟨l',rfl,h6⟩:=eW m125 h5 hl
    exact⟨l',h6,by dsimp only;rw[if_pos (by simp),eJ]⟩
   |false=>
    obtain⟨q0,q1⟩:=fp h5
    have zl:=(am 125 z).length_le
    have es:=fun M=>Du i0 suf0 lt0 rs0 w z.length [] [] (isC 125 z).2 (u1.suffix (am 125 z)) zl M
    unfold yq at es
    simp only[Bool.false_eq_true,if_false,List.length_nil,ne_eq,not_true_eq_false,false_and,if_true]
    refine⟨fun v t h=>⟨(gM m125 z).trans ((es 0).1 v t h).1,fun l hl=> ?_⟩,fun t l h hl=> ?_⟩
    ·obtain⟨l',h6,h7⟩:=((es (l.length+1)).1 v t h).2 l (by rw[q0];exact hl) (by omega)
     refine⟨l',h6, ?_⟩
     dsimp only
     rw[if_neg (q1 l hl),h7,eJ]
    ·have:=(es (l.length+1)).2 t l h (by rw[q0];exact hl) (by omega)
     dsimp only
     rw[if_neg (q1 l hl)]
     exact this
def mM(f:Fun)(s:List UInt8):Val×Bool:=match tok s with
 |none=>(.mk 0 [] [],false)
 |some l=>((cg f.nodes f (l,false)).1, !(cg f.nodes f (l,false)).2.2&&decide ((cg f.nodes f (l,false)).2.1.length=0))
theorem pq{f:Fun}(hf:au f=true){s:List UInt8}(hs:Sm s):(mM f s).2=(bz f s).2∧((bz f s).2=true→(mM f s).1=(bz f s).1):=by
 obtain⟨p1,p2⟩:=EK f.nodes f hf s hs
 unfold bz mM
 cases hp:pV f.nodes f s with
 |mk o t=>
 cases o with
 |none=>
  simp only
  cases hl:tok s with
  |none=>exact⟨rfl,fun h=>by cases h⟩
  |some l=>
   have:=p2 t l hp hl
   simp only[this]
   exact⟨rfl,fun h=>by cases h⟩
 |some v=>
  obtain⟨a,b⟩:=p1 v t hp
  have ht:=kg t
  simp only
  cases hl:tok s with
  |none=>
   have hd:¬aw 32 t=[]:=fun e=>by
    rw[e,kR] at ht
    obtain⟨l,h⟩:=a [] ht.symm
    rw[hl] at h
    cases h
   simp only[hd,decide_false]
   exact⟨trivial,fun h=>by cases h⟩
  |some l=>
   obtain⟨l',h1,h2⟩:=b l hl
   simp only[h2,Bool.not_false,Bool.true_and]
   refine⟨?_,fun _=>trivial⟩
   congr 1
   rw[h1] at ht
   cases hd:aw 32 t with
   |nil=>
    rw[hd,kR] at ht
    cases ht
    simp
   |cons c r=>
    rw[hd] at ht
    obtain⟨q,q',rfl,_⟩:=tg (gW hd) ht
    simp
def jc(f:Fun)(n:Int)(s:List UInt8):Val×Int:=if 40000<s.length then(bO,2) else if(mM f s).2 then bw f n (mM f s).1 else(bO,11)
def gA(s:RS):Int:=if s.1.head? =some [80] then 5 else if s.1.head? =some [66] then 6 else if s.1.head? =some [68] then 7 else -1
def inR(fn:RS→Fun×RS)(s:RS):Fun×RS:=((fn (aq [40] s)).1,aq [41] (fn (aq [40] s)).2)
def dm(fn:RS→Fun×RS)(s:RS):Fun×RS:=
 if s.2 then(.mk 0 0 [],s)
 else if s.1.head? =some [88] then(.mk 0 0 [],aq [88] s)
 else if 0≤gA s then(.mk (gA s) 0 [(inR fn (s.1.tail,s.2)).1],(inR fn (s.1.tail,s.2)).2)
 else if s.1.head? =some [40] then inR fn s
 else(.mk 1 (gz (dA s).1) [],(dA s).2)
def opR(fn:RS→Fun×RS)(s:RS):Fun×RS:=
 let x:=dm fn s
 if x.2.1.head? =some [94] then(.mk 4 (gz (dA (aq [94] x.2)).1) [x.1],(dA (aq [94] x.2)).2) else x
def rR(fn:RS→Fun×RS)(k:Int)(f:Fun)(s:RS):Fun×RS:=(.mk k 0 [f,(opR fn s).1],(opR fn s).2)
def dH:Nat→RS→Fun×RS
 |0,s=>(.mk 0 0 [],s)
 |n+1,s=>
  let x:=opR (dH n) s
  if x.2.1.head? =some [42] then rR (dH n) 2 x.1 (aq [42] x.2)
  else if x.2.1.head? =some [43] then rR (dH n) 3 x.1 (aq [43] x.2)
  else x
@[simp] theorem JA(nb nr:Nat)(s:RS):(rd s).all (closed nb nr)=true:=by
 obtain⟨l,b⟩:=s
 simp
section
variable {fn:RS→Fun×RS} (hf:∀s,(fn s).2.1<:+s.1)
include hf
theorem tB(s:RS):(inR fn s).2.1<:+s.1:=by
 unfold inR
 exact(ap _ _).trans ((hf _).trans (ap _ _))
theorem kN(s:RS):(dm fn s).2.1<:+s.1:=by
 unfold dm
 split
 ·exact List.suffix_refl _
 ·split
  ·exact ap _ _
  ·split
   ·exact(tB hf _).trans (List.tail_suffix _)
   ·split
    ·exact tB hf _
    ·exact ij _
theorem kT(s:RS):(opR fn s).2.1<:+s.1:=by
 unfold opR
 simp only
 split
 ·exact(ij _).trans ((ap _ _).trans (kN hf s))
 ·exact kN hf s
theorem qF(k:Int)(f:Fun)(s:RS):(rR fn k f s).2.1<:+s.1:=kT hf s
end
theorem dn:∀n s,(dH n s).2.1<:+s.1
 |0,s=>by rw[dH];exact List.suffix_refl _
 |n+1,s=>by
  have h:=kT (dn n) s
  rw[dH]
  try simp only
  split
  ·exact(qF (dn n) _ _ _).trans ((ap _ _).trans h)
  ·split
   ·exact(qF (dn n) _ _ _).trans ((ap _ _).trans h)
   ·exact h
def Hx(id:Nat)(fn:RS→Fun×RS)(n:Nat):Prop:=∀(s:RS) (m:Mem),gH s.1→s.1.length≤1000000→s.1.length<n→m.bx[id]? =some (rd s)→ai C0 110 [.ptr id 0] m=some (.ret (.agg (fn s).1.cells),⟨m.bx.set id (rd (fn s).2),m.rw⟩)
theorem pm{s:RS}(h:gH s.1):(dA s).1.length≤1000000∧∀b,b∈(dA s).1→be b=true:=by
 have h0:∀b:UInt8,b∈[(48:UInt8)]→be b=true:=by intro b hb;simp at hb;subst hb;rfl
 unfold dA
 split
 ·rename_i c r q he
  obtain⟨c',r',e1,e2,e3⟩:=h (c::r) (by rw[he];simp)
  cases e1
  split
  ·rename_i hd
   exact⟨e2,e3 hd⟩
  ·exact⟨by simp,h0⟩
 ·exact⟨by simp,h0⟩
theorem kD{l:List (List UInt8)}{t:List UInt8}(h:l.head? =some t):l.tail.length<l.length:=by
 cases l with
 |nil=>cases h
 |cons a r=>simp
theorem kh{s:RS}{t:List UInt8}(h:s.1.head? =some t):(aq t s).1.length<s.1.length:=by
 unfold aq
 rw[if_pos h]
 exact kD h
set_option maxHeartbeats 4000000 in
theorem FO{id n:Nat}{fn:RS→Fun×RS}(hfs:∀s,(fn s).2.1<:+s.1)(hfn:Hx id fn n)(s:RS)(m:Mem)(hk:gH s.1)(hl:s.1.length≤1000000)(hn:s.1.length≤n)(hbx:m.bx[id]? =some (rd s)):
  ai C0 185 [.ptr id 0] m=some (.ret (.agg (dm fn s).1.cells),⟨m.bx.set id (rd (dm fn s).2),m.rw⟩):=by
 have hid:id<m.bx.length:=(List.getElem?_eq_some_iff.1 hbx).1
 have hg:m.bx[id]=rd s:=(List.getElem?_eq_some_iff.1 hbx).2
 have hrs:∀b,rd (s.1,b)=[.isl false s.1.length (bv s.1),.bool b]:=fun b=>rfl
 have hs2:rd s=[.isl false s.1.length (bv s.1),.bool s.2]:=rfl
 have hset:m.bx.set id (rd s)=m.bx:=by rw[←hg];exact List.set_getElem_self hid
 unfold dm
 rw[ab C0 (aj _ (by decide)) (by rw[ay];exact Tryz.func185) rfl (by rw[ae];rfl) (by rw[ae];rfl) (by decide) (by simp[Tryz.f185])]
 cases hb:s.2 with
 |true=>
  simp[Tryz.f185,a185,reg185,hid,hg,hs2,hb,ah]
  rw[←hb,←hs2,hset]
 |false=>
 simp only[Bool.false_eq_true,if_false]
 have hbm:(⟨m.bx++[[.int .i64 0,.int .i64 0,.nils]],m.rw⟩:Mem).bx[id]? =some (rd s):=by simp[ah,hid,hg]
 have s88:=eX id [88] s _ hl hbm
 have s80:=eX id [80] s _ hl hbm
 have s66:=eX id [66] s _ hl hbm
 have s68:=eX id [68] s _ hl hbm
 have s40:=eX id [40] s _ hl hbm
 by_cases c88:s.1.head? =some [88]
 ·rw[if_pos c88]
  have e1:=cG id [88] s _ hl hbm
  generalize aq [88] s=q at e1⊢
  rw[decide_eq_true c88] at s88
  simp[ad,hid] at s88 e1
  simp[Tryz.f185,a185,reg185,ah,ad,hid,hg,hs2,hb,s88,e1,DT,ag]
 rw[if_neg c88]
 rw[decide_eq_false c88] at s88
 by_cases c80:s.1.head? =some [80]
 ·have hkr:gA s=5:=by unfold gA;rw[if_pos c80]
  rw[hkr,if_pos (by decide)]
  rw[decide_eq_true c80] at s80
  have htl:=kD c80
  have h1l:(1:Int)≤s.1.length:=by omega
  have hdr:(bv s.1).drop 1=bv s.1.tail:=by cases hs1:s.1<;>simp
  have e1:=cG id [40] (s.1.tail,false) ⟨m.bx.set id (rd (s.1.tail,false))++[[.int .i64 0,.int .i64 0,.nils]],m.rw⟩ (by simp only;omega) (by simp[ah,hid])
  have hts:=(ap [40] (s.1.tail,false)).length_le
  simp only at hts
  have e2:=hfn (aq [40] (s.1.tail,false)) ⟨m.bx.set id (rd (aq [40] (s.1.tail,false)))++[[.int .i64 0,.int .i64 0,.nils]],m.rw⟩ (hk.tail.suffix (ap _ _)) (by omega) (by omega) (by simp[ah,hid])
  unfold inR
  have hls:=(hfs (aq [40] (s.1.tail,false))).length_le
  have e3:=cG id [41] (fn (aq [40] (s.1.tail,false))).2 ⟨m.bx.set id (rd (fn (aq [40] (s.1.tail,false))).2)++[[.int .i64 0,.int .i64 0,.nils],(fn (aq [40] (s.1.tail,false))).1.cells],m.rw⟩ (by omega) (by simp[ah,hid])
  generalize fn (aq [40] (s.1.tail,false))=y at e2 e3 hls⊢
  generalize aq [40] (s.1.tail,false)=q at e1 e2 hts⊢
  generalize aq [41] y.2=z at e3⊢
  have e4:=uc 5 0 true [y.1]
  simp[ad,hid] at s88 s80 e1 e2 e3
  simp[Fun.cellsL] at e4
  simp[Tryz.f185,a185,reg185,ah,ad,hid,hg,hs2,hb,s88,s80,e1,e2,e3,e4,h1l,hdr,setCells,ag]
 rw[decide_eq_false c80] at s80
 by_cases c66:s.1.head? =some [66]
 ·have hkr:gA s=6:=by unfold gA;rw[if_neg c80];rw[if_pos c66]
  rw[hkr,if_pos (by decide)]
  rw[decide_eq_true c66] at s66
  have htl:=kD c66
  have h1l:(1:Int)≤s.1.length:=by omega
  have hdr:(bv s.1).drop 1=bv s.1.tail:=by cases hs1:s.1<;>simp
  have e1:=cG id [40] (s.1.tail,false) ⟨m.bx.set id (rd (s.1.tail,false))++[[.int .i64 0,.int .i64 0,.nils]],m.rw⟩ (by simp only;omega) (by simp[ah,hid])
  have hts:=(ap [40] (s.1.tail,false)).length_le
  simp only at hts
  have e2:=hfn (aq [40] (s.1.tail,false)) ⟨m.bx.set id (rd (aq [40] (s.1.tail,false)))++[[.int .i64 0,.int .i64 0,.nils]],m.rw⟩ (hk.tail.suffix (ap _ _)) (by omega) (by omega) (by simp[ah,hid])
  unfold inR
  have hls:=(hfs (aq [40] (s.1.tail,false))).length_le
  have e3:=cG id [41] (fn (aq [40] (s.1.tail,false))).2 ⟨m.bx.set id (rd (fn (aq [40] (s.1.tail,false))).2)++[[.int .i64 0,.int .i64 0,.nils],(fn (aq [40] (s.1.tail,false))).1.cells],m.rw⟩ (by omega) (by simp[ah,hid])
  generalize fn (aq [40] (s.1.tail,false))=y at e2 e3 hls⊢
  generalize aq [40] (s.1.tail,false)=q at e1 e2 hts⊢
  generalize aq [41] y.2=z at e3⊢
  have e4:=uc 6 0 true [y.1]
  simp[ad,hid] at s88 s80 s66 e1 e2 e3
  simp[Fun.cellsL] at e4
  simp[Tryz.f185,a185,reg185,ah,ad,hid,hg,hs2,hb,s88,s80,s66,e1,e2,e3,e4,h1l,hdr,setCells,ag]
 rw[decide_eq_false c66] at s66
 by_cases c68:s.1.head? =some [68]
 ·have hkr:gA s=7:=by unfold gA;rw[if_neg c80];rw[if_neg c66];rw[if_pos c68]
  rw[hkr,if_pos (by decide)]
  rw[decide_eq_true c68] at s68
  have htl:=kD c68
  have h1l:(1:Int)≤s.1.length:=by omega
  have hdr:(bv s.1).drop 1=bv s.1.tail:=by cases hs1:s.1<;>simp
  have e1:=cG id [40] (s.1.tail,false) ⟨m.bx.set id (rd (s.1.tail,false))++[[.int .i64 0,.int .i64 0,.nils]],m.rw⟩ (by simp only;omega) (by simp[ah,hid])
  have hts:=(ap [40] (s.1.tail,false)).length_le
  simp only at hts
  have e2:=hfn (aq [40] (s.1.tail,false)) ⟨m.bx.set id (rd (aq [40] (s.1.tail,false)))++[[.int .i64 0,.int .i64 0,.nils]],m.rw⟩ (hk.tail.suffix (ap _ _)) (by omega) (by omega) (by simp[ah,hid])
  unfold inR
  have hls:=(hfs (aq [40] (s.1.tail,false))).length_le
  have e3:=cG id [41] (fn (aq [40] (s.1.tail,false))).2 ⟨m.bx.set id (rd (fn (aq [40] (s.1.tail,false))).2)++[[.int .i64 0,.int .i64 0,.nils],(fn (aq [40] (s.1.tail,false))).1.cells],m.rw⟩ (by omega) (by simp[ah,hid])
  generalize fn (aq [40] (s.1.tail,false))=y at e2 e3 hls⊢
  generalize aq [40] (s.1.tail,false)=q at e1 e2 hts⊢
  generalize aq [41] y.2=z at e3⊢
  have e4:=uc 7 0 true [y.1]
  simp[ad,hid] at s88 s80 s66 s68 e1 e2 e3
  simp[Fun.cellsL] at e4
  simp[Tryz.f185,a185,reg185,ah,ad,hid,hg,hs2,hb,s88,s80,s66,s68,e1,e2,e3,e4,h1l,hdr,setCells,ag]
 rw[decide_eq_false c68] at s68
 have hkr:gA s= -1:=by unfold gA;rw[if_neg c80,if_neg c66,if_neg c68]
 rw[if_neg (by rw[hkr];decide)]
 by_cases c40:s.1.head? =some [40]
 ·rw[if_pos c40]
  rw[decide_eq_true c40] at s40
  have e1:=cG id [40] s _ hl hbm
  have hlt:=kh c40
  have e2:=hfn (aq [40] s) ⟨m.bx.set id (rd (aq [40] s))++[[.int .i64 0,.int .i64 0,.nils]],m.rw⟩ (hk.suffix (ap _ _)) (by omega) (by omega) (by simp[ah,hid])
  unfold inR
  have hls:=(hfs (aq [40] s)).length_le
  have e3:=cG id [41] (fn (aq [40] s)).2 ⟨m.bx.set id (rd (fn (aq [40] s)).2)++[[.int .i64 0,.int .i64 0,.nils],(fn (aq [40] s)).1.cells],m.rw⟩ (by omega) (by simp[ah,hid])
  generalize fn (aq [40] s)=y at e2 e3 hls⊢
  generalize aq [40] s=q at e1 e2 hlt⊢
  generalize aq [41] y.2=z at e3⊢
  simp[ad,hid] at s88 s80 s66 s68 s40 e1 e2 e3
  simp[Tryz.f185,a185,reg185,ah,ad,hid,hg,hs2,hb,s88,s80,s66,s68,s40,e1,e2,e3,ag]
 ·rw[if_neg c40]
  rw[decide_eq_false c40] at s40
  have e1:=nF id s _ hl hk hbm
  have hdg:=pm hk
  have e2:=o9 (dA s).1 hdg.1 hdg.2
  generalize dA s=d at e1 e2 hdg⊢
  simp[ad,hid] at s88 s80 s66 s68 s40 e1
  simp[Tryz.f185,a185,reg185,ah,ad,hid,hg,hs2,hb,s88,s80,s66,s68,s40,e1,e2,DT,ag]
theorem GO:IntKind.i64.wrap 2=2:=by decide
theorem FF{id:Nat}(s:RS)(hk:gH s.1)(m:Mem):ai C0 186 [.str (dA s).1] m=some (.ret (.int .i64 (gz (dA s).1)),m):=o9 _ (pm hk).1 (pm hk).2 m
set_option maxHeartbeats 4000000 in
theorem ES{id n:Nat}{fn:RS→Fun×RS}(hfs:∀s,(fn s).2.1<:+s.1)(hfn:Hx id fn n)(s:RS)(m:Mem)(hk:gH s.1)(hl:s.1.length≤1000000)(hn:s.1.length≤n)(hbx:m.bx[id]? =some (rd s)):
  ai C0 154 [.ptr id 0] m=some (.ret (.agg (opR fn s).1.cells),⟨m.bx.set id (rd (opR fn s).2),m.rw⟩):=by
 have hid:id<m.bx.length:=(List.getElem?_eq_some_iff.1 hbx).1
 have hg:m.bx[id]=rd s:=(List.getElem?_eq_some_iff.1 hbx).2
 unfold opR
 rw[ab C0 (aj _ (by decide)) (by rw[ay];exact Tryz.func154) rfl (by rw[ae];rfl) (by rw[ae];rfl) (by decide) (by simp[Tryz.f154])]
 have e1:=FO hfs hfn s ⟨m.bx++[[.int .i64 0,.int .i64 0,.nils]],m.rw⟩ hk hl hn (by simp[ah,hid,hg])
 have hsu:=kN hfs s
 have hsl:=hsu.length_le
 generalize dm fn s=x at e1 hsu hsl⊢
 simp only
 have e2:=eX id [94] x.2 ⟨m.bx.set id (rd x.2)++[[.int .i64 0,.int .i64 0,.nils],x.1.cells],m.rw⟩ (by omega) (by simp[ah,hid])
 by_cases c:x.2.1.head? =some [94]
 ·rw[if_pos c]
  rw[decide_eq_true c] at e2
  have e3:=cG id [94] x.2 ⟨m.bx.set id (rd x.2)++[[.int .i64 0,.int .i64 0,.nils],x.1.cells],m.rw⟩ (by omega) (by simp[ah,hid])
  have hts:=ap [94] x.2
  have htl:=hts.length_le
  have hkt:gH (aq [94] x.2).1:=(hk.suffix hsu).suffix hts
  have e4:=nF id (aq [94] x.2) ⟨m.bx.set id (rd (aq [94] x.2))++[[.int .i64 0,.int .i64 0,.nils],x.1.cells],m.rw⟩ (by omega) hkt (by simp[ah,hid])
  have e5:=FF (id:=id) (aq [94] x.2) hkt
  generalize aq [94] x.2=q at e3 e4 e5⊢
  generalize dA q=d at e4 e5⊢
  have e6:=uc 4 (gz d.1) true [x.1]
  simp[Fun.cellsL] at e6
  simp[ad,hid] at e1 e2 e3 e4
  simp[Tryz.f154,a154,reg154,draw154,dok154,ah,ad,hid,e1,e2,e3,e4,e5,e6,ag]
 ·rw[if_neg c]
  rw[decide_eq_false c] at e2
  simp[ad,hid] at e1 e2
  simp[Tryz.f154,a154,reg154,draw154,dok154,ah,ad,hid,e1,e2,ag]
set_option maxHeartbeats 8000000 in
theorem Ij(id:Nat):∀n,Hx id (dH n) n:=by
 intro n
 induction n with
 |zero=>intro s m hk hl hn;omega
 |succ n ih=>
 intro s m hk hl hn hbx
 have hid:id<m.bx.length:=(List.getElem?_eq_some_iff.1 hbx).1
 have hg:m.bx[id]=rd s:=(List.getElem?_eq_some_iff.1 hbx).2
 have hid2:id<m.bx.length+2:=by omega
 rw[dH]
 rw[ab C0 (aj _ (by decide)) (by rw[ay];exact Tryz.func110) rfl (by rw[ae];rfl) (by rw[ae];rfl) (by decide) (by simp[Tryz.f110])]
 have e1:=ES (dn n) ih s ⟨m.bx++[[.int .i64 0,.int .i64 0,.nils]],m.rw⟩ hk hl (by omega) (by simp[ah,hid,hg])
 have hsu:=kT (dn n) s
 have hsl:=hsu.length_le
 have hkx:=hk.suffix hsu
 generalize opR (dH n) s=x at e1 hsu hsl hkx⊢
 try simp only
 have e2:=eX id [42] x.2 ⟨m.bx.set id (rd x.2)++[[.int .i64 0,.int .i64 0,.nils],x.1.cells],m.rw⟩ (by omega) (by simp[ah,hid])
 have e3:=eX id [43] x.2 ⟨m.bx.set id (rd x.2)++[[.int .i64 0,.int .i64 0,.nils],x.1.cells],m.rw⟩ (by omega) (by simp[ah,hid])
 by_cases c42:x.2.1.head? =some [42]
 ·rw[if_pos c42]
  rw[decide_eq_true c42] at e2
  have e4:=cG id [42] x.2 ⟨m.bx.set id (rd x.2)++[[.int .i64 0,.int .i64 0,.nils],x.1.cells],m.rw⟩ (by omega) (by simp[ah,hid])
  have hts:=ap [42] x.2
  have htl:=hts.length_le
  have e5:=ES (dn n) ih (aq [42] x.2) ⟨m.bx.set id (rd (aq [42] x.2))++[[.int .i64 0,.int .i64 0,.nils],x.1.cells],m.rw⟩ (hkx.suffix hts) (by omega) (by omega) (by simp[ah,hid])
  unfold rR
  generalize aq [42] x.2=q at e4 e5⊢
  generalize opR (dH n) q=y at e5⊢
  have e6:=uc 2 0 true [x.1,y.1]
  simp[Fun.cellsL] at e6
  simp[ad,hid] at e1 e2 e4 e5
  simp[Tryz.f110,a110,reg110,loop110,draw110,dok110,ah,ad,hid,e1]
  rw[aG]
  simp[round,Tryz.f110,a110,reg110,loop110,draw110,dok110,ah,ad,hid,e2,e4,e5,e6,ag]
 rw[if_neg c42]
 rw[decide_eq_false c42] at e2
 by_cases c43:x.2.1.head? =some [43]
 ·rw[if_pos c43]
  rw[decide_eq_true c43] at e3
  have e4:=cG id [43] x.2 ⟨m.bx.set id (rd x.2)++[[.int .i64 0,.int .i64 0,.nils],x.1.cells],m.rw⟩ (by omega) (by simp[ah,hid])
  have hts:=ap [43] x.2
  have htl:=hts.length_le
  have e5:=ES (dn n) ih (aq [43] x.2) ⟨m.bx.set id (rd (aq [43] x.2))++[[.int .i64 0,.int .i64 0,.nils],x.1.cells],m.rw⟩ (hkx.suffix hts) (by omega) (by omega) (by simp[ah,hid])
  unfold rR
  generalize aq [43] x.2=q at e4 e5⊢
  generalize opR (dH n) q=y at e5⊢
  have e6:=uc 3 0 true [x.1,y.1]
  simp[Fun.cellsL] at e6
  simp[ad,hid] at e1 e2 e3 e4 e5
  simp[Tryz.f110,a110,reg110,loop110,draw110,dok110,ah,ad,hid,e1]
  rw[aG]
  simp[round,Tryz.f110,a110,reg110,loop110,draw110,dok110,ah,ad,hid,e2,aA,hid2]
  rw[aG]
  simp[round,Tryz.f110,a110,reg110,loop110,draw110,dok110,ah,ad,hid,e3,e4,e5,e6,ag]
 ·rw[if_neg c43]
  rw[decide_eq_false c43] at e3
  simp[ad,hid] at e1 e2 e3
  simp[Tryz.f110,a110,reg110,loop110,draw110,dok110,ah,ad,hid,e1]
  rw[aG]
  simp[round,Tryz.f110,a110,reg110,loop110,draw110,dok110,ah,ad,hid,e2,aA,hid2]
  rw[aG]
  simp[round,Tryz.f110,a110,reg110,loop110,draw110,dok110,ah,ad,hid,e3,aA,hid2,GO]
  rw[aG]
  simp[round,Tryz.f110,a110,reg110,loop110,draw110,dok110,ah,ad,hid,GO,ag]
end AE
end Go.Proofs.YtmfdpijmholedaaGreatDoor
