/- The tokens of functors by the reference. Printed by mkFR.py. -/
import Derived.Test.YtmfdpijmholedaaGreatDoorGH
import Derived.Test.YtmfdpijmholedaaGreatDoorGI
import Derived.Test.YtmfdpijmholedaaGreatDoorGJ
set_option linter.unusedVariables false
set_option linter.unusedSimpArgs false
namespace Go.Proofs.YtmfdpijmholedaaGreatDoor
namespace AE
open Go
def cY:List UInt8:=[88,80,66,68,40,41,42,43,94]
def aQ:List UInt8→Option (List (List UInt8))
 |[]=>some []
 |c::r=>
  if c=32 then aQ r
  else if be c then(aQ (r.drop (bd r))).map ((c::r.take (bd r)):: ·)
  else if c∈cY then(aQ r).map ([c]:: ·)
  else none
 termination_by s=>s.length
 decreasing_by all_goals (simp;try omega)
theorem fV:aQ []=some []:=by rw[aQ]
theorem gD(c:UInt8)(r:List UInt8):aQ (c::r)=if c=32 then aQ r
  else if be c then(aQ (r.drop (bd r))).map ((c::r.take (bd r)):: ·)
  else if c∈cY then(aQ r).map ([c]:: ·)
  else none:=by rw[aQ]
theorem qC{s:List UInt8}{i:Nat}(h:i<s.length)(n:Nat):(s.take (i+1+n)).drop i=s[i]::(s.drop (i+1)).take n:=by
 rw[List.drop_take,show i+1+n-i=n+1 by omega,List.drop_eq_getElem_cons h,List.take_succ_cons]
def im(m:Mem)(l:List (List UInt8))(o:Option (List (List UInt8))):Option (Res×Mem):=match o with
 |none=>some (.ret (.tup [.isl false 0 [],.bool false]),m)
 |some l'=>some (.ret (.tup [.isl false (l.length+l'.length) (bv l++bv l'),.bool true]),m)
set_option maxHeartbeats 16000000 in
theorem yT(s:List UInt8)(hs:s.length≤1000000)(m:Mem):ai C0 109 [.str s,.str cY] m=im m [] (aQ s):=by
 rw[ab C0 (aj _ (by decide)) (by rw[ay];exact Tryz.func109) rfl (by rw[ae];rfl) (by rw[ae];rfl) (by decide) (by simp[Tryz.f109])]
 simp[Tryz.f109,a109,reg109,loop109]
 refine aC (fun x:Nat×List (List UInt8)=>⟨[(0,.str s),(1,.str cY),(6,cE m x.2),(7,.int .i64 x.1)],⟨m.bx,m.rw++cC x.2⟩⟩)
  (fun x=>im m x.2 (aQ (s.drop x.1))) (fun x=>s.length-x.1) (fun x=>x.1≤s.length∧x.2.length≤x.1) (0,[]) ?_ ?_ ?_ ?_ ?_
 ·simp[cE,cC]
 ·simp
 ·simp
 ·intro x;simp[Tryz.f109,a109,reg109,loop109]
 ·rintro⟨i,l⟩ ⟨hi,hll⟩ hrec
  simp only at hi hll
  have hmk:=uG cY (by decide)
  by_cases hlt:i<s.length
  case neg=>
   clear hrec
   have hd:s.drop i=[]:=List.drop_eq_nil_of_le (by omega)
   rw[hd,fV]
   cases l with
   |nil=>simp[round,Tryz.f109,a109,reg109,loop109,hlt,cE,cC,im]
   |cons t l=>
    simp[round,Tryz.f109,a109,reg109,loop109,hlt,cE,cC,im]
  have w2:IntKind.i64.wrap (i+1)=i+1:=al _ (by omega)
  rw[List.drop_eq_getElem_cons hlt,gD]
  by_cases hc32:s[i]=32
  ·have hc':(s[i].toNat:Int)=32:=by rw[hc32];rfl
   rw[if_pos hc32]
   cases l with
   |nil=>
    simp[round,Tryz.f109,a109,reg109,loop109,hlt,w2,cE,cC,eq_true hc',aA]
    refine hrec (i+1,[]) _ _ ?_ ?_ ?_ ?_
    ·simp;omega
    ·simp;omega
    ·simp[cE,cC]
    ·simp
   |cons t l=>
    simp[round,Tryz.f109,a109,reg109,loop109,hlt,w2,cE,cC,eq_true hc',aA]
    refine hrec (i+1,t::l) _ _ ?_ ?_ ?_ ?_
    ·simp;omega
    ·simp at hll⊢;omega
    ·simp[cE,cC]
    ·simp
  have hc':¬(s[i].toNat:Int)=32:=fun e=>hc32 ((dX _ 32).1 e)
  rw[if_neg hc32]
  have hdg:=jf s[i]
  cases hid:be s[i] with
  |false=>
   simp only[hid] at hdg
   simp only[Bool.false_eq_true,if_false]
   have hw:=hmk s[i]
   by_cases hmm:s[i]∈cY
   ·simp only[hmm,decide_true] at hw
    rw[if_pos hmm]
    have hsl:=qC hlt 0
    simp only[Nat.add_zero,List.take_zero] at hsl
    have h3:(i:Int)+1≤s.length:=by omega
    have h6:(i:Int)≤i+1:=by omega
    cases l with
    |nil=>
     simp[round,Tryz.f109,a109,reg109,loop109,hlt,w2,cE,cC,hc',hdg,hw,h3,h6,hsl,fq]
     refine hrec (i+1,[[s[i]]]) _ _ ?_ ?_ ?_ ?_
     ·simp;omega
     ·simp;omega
     ·simp[cE,cC]
     ·cases htk:aQ (s.drop (i+1))<;>simp[im];omega
    |cons t l=>
     have h4:(l.length+1+1)*16≤70368744177664:=by simp at hll;omega
     have h5:l.length+1+1≤70368744177664:=by omega
     simp[round,Tryz.f109,a109,reg109,loop109,hlt,w2,cE,cC,hc',hdg,hw,h3,h6,h4,h5,hsl,eN]
     refine hrec (i+1,t::l++[[s[i]]]) _ _ ?_ ?_ ?_ ?_
     ·simp;omega
     ·simp at hll⊢;omega
     ·simp[cE,cC,bP]
     ·cases htk:aQ (s.drop (i+1))<;>simp[im,bP];omega
   ·simp only[hmm,decide_false] at hw
    rw[if_neg hmm]
    clear hrec
    cases l with
    |nil=>simp[round,Tryz.f109,a109,reg109,loop109,hlt,w2,cE,cC,hc',hdg,hw,im]
    |cons t l=>simp[round,Tryz.f109,a109,reg109,loop109,hlt,w2,cE,cC,hc',hdg,hw,im]
  |true=>
   simp only[hid] at hdg
   simp only[if_true]
   have hdn:=jr (s.drop (i+1))
   rw[List.length_drop] at hdn
   obtain⟨k1,hk1⟩:∃k1,k1=i+1+bd (s.drop (i+1)):=⟨_,rfl⟩
   have hk1s:k1≤s.length:=by omega
   have hsl:=qC hlt (bd (s.drop (i+1)))
   rw[←hk1] at hsl
   have hdd:(s.drop (i+1)).drop (bd (s.drop (i+1)))=s.drop k1:=by rw[List.drop_drop,hk1]
   rw[hdd]
   have hat:∀k,i+1≤k→k≤k1→∀h:k<s.length,be s[k]=decide (k<k1):=fun k q1 q2 q3=>by
    have q4:k-(i+1)<(s.drop (i+1)).length:=by rw[List.length_drop];omega
    have q5:=kI q4 (by omega)
    have q6:(s.drop (i+1))[k-(i+1)]=s[k]:=by rw[List.getElem_drop];congr 1;omega
    rw[q6] at q5
    rw[Bool.eq_iff_iff,←q5,decide_eq_true_eq]
    omega
   generalize (s.drop (i+1)).take (bd (s.drop (i+1)))=ds at hsl
   cases l with
   |nil=>
    simp[round,Tryz.f109,a109,reg109,loop109,hlt,w2,cE,cC,hc',hdg]
    rw[me (fun k:Nat=>⟨[(0,.str s),(1,.str cY),(6,.nils),(7,.int .i64 i),(8,.int .i64 k)],m⟩) (fun _=>some (.normal,⟨[(0,.str s),(1,.str cY),(6,.nils),(7,.int .i64 i),(8,.int .i64 k1),(36,.bool false)],m⟩)) (fun k=>s.length-k) (fun k=>i+1≤k∧k≤k1) (i+1) ?_ rfl ?_ ?_ ?_]
    ·have h3:i≤k1:=by omega
     simp[Tryz.f109,a109,reg109,loop109,hk1s,h3,hsl,fq]
     refine hrec (k1,[s[i]::ds]) _ _ ?_ ?_ ?_ ?_
     ·simp;omega
     ·simp;omega
     ·simp[cE,cC]
     ·cases htk:aQ (s.drop k1)<;>simp[im];omega
    ·simp[Tryz.f109,a109,reg109,loop109]
    ·exact⟨Nat.le_refl _,by omega⟩
    ·intro x;simp[Tryz.f109,a109,reg109,loop109]
    ·intro k hk hrec2
     clear hrec
     by_cases hks:k<s.length
     ·have hdk:=jf s[k]
      have w3:IntKind.i64.wrap (k+1)=k+1:=al _ (by omega)
      rw[hat k hk.1 hk.2 hks] at hdk
      by_cases hkk:k<k1
      ·simp only[hkk,decide_true] at hdk
       simp[round,Tryz.f109,a109,reg109,loop109,hks,hdk,w3,aA]
       refine hrec2 (k+1) _ _ ?_ ?_ ?_ ?_
       ·omega
       ·omega
       ·simp
       ·simp
      ·have:k=k1:=by omega
       subst this
       simp only[hkk,decide_false] at hdk
       simp[round,Tryz.f109,a109,reg109,loop109,hks,hdk]
     ·have:k=k1:=by omega
      subst this
      simp[round,Tryz.f109,a109,reg109,loop109,hks]
   |cons t l=>
    have h4:(l.length+1+1)*16≤70368744177664:=by simp at hll;omega
    have h5:l.length+1+1≤70368744177664:=by omega
    simp[round,Tryz.f109,a109,reg109,loop109,hlt,w2,cE,cC,hc',hdg]
    rw[me (fun k:Nat=>⟨[(0,.str s),(1,.str cY),(6,.sl m.rw.length (l.length+1) 0 (l.length+1)),(7,.int .i64 i),(8,.int .i64 k)],⟨m.bx,m.rw++[⟨9,.str t::bv l⟩]⟩⟩) (fun _=>some (.normal,⟨[(0,.str s),(1,.str cY),(6,.sl m.rw.length (l.length+1) 0 (l.length+1)),(7,.int .i64 i),(8,.int .i64 k1),(36,.bool false)],⟨m.bx,m.rw++[⟨9,.str t::bv l⟩]⟩⟩)) (fun k=>s.length-k) (fun k=>i+1≤k∧k≤k1) (i+1) ?_ rfl ?_ ?_ ?_]
    ·have h3:i≤k1:=by omega
     simp[Tryz.f109,a109,reg109,loop109,hk1s,h3,hsl,h4,h5,eN]
     refine hrec (k1,t::l++[s[i]::ds]) _ _ ?_ ?_ ?_ ?_
     ·simp;omega
     ·simp at hll⊢;omega
     ·simp[cE,cC,bP]
     ·cases htk:aQ (s.drop k1)<;>simp[im,bP];omega
    ·simp[Tryz.f109,a109,reg109,loop109]
    ·exact⟨Nat.le_refl _,by omega⟩
    ·intro x;simp[Tryz.f109,a109,reg109,loop109]
    ·intro k hk hrec2
     clear hrec
     by_cases hks:k<s.length
     ·have hdk:=jf s[k]
      have w3:IntKind.i64.wrap (k+1)=k+1:=al _ (by omega)
      rw[hat k hk.1 hk.2 hks] at hdk
      by_cases hkk:k<k1
      ·simp only[hkk,decide_true] at hdk
       simp[round,Tryz.f109,a109,reg109,loop109,hks,hdk,w3,aA]
       refine hrec2 (k+1) _ _ ?_ ?_ ?_ ?_
       ·omega
       ·omega
       ·simp
       ·simp
      ·have:k=k1:=by omega
       subst this
       simp only[hkk,decide_false] at hdk
       simp[round,Tryz.f109,a109,reg109,loop109,hks,hdk]
     ·have:k=k1:=by omega
      subst this
      simp[round,Tryz.f109,a109,reg109,loop109,hks]
noncomputable def qx:Code:=match Tryz.f102.body with|some (.seq _ r)=>r|_=> .skip
theorem rb1:d9 C0.P 102=some (17,5,2,qx):=by
 rw[ay]
 unfold d9
 rw[Tryz.func102]
 rfl
theorem vG(x y:A)(s:St):cV C0 102 [x,y] (some (.ret,s))=deferred C0 102 (17,5,2,qx) [x,y] .nili s:=lx C0 _ _ rb1 (by simp) s
theorem HN(x y a:A)(s:St):cV C0 102 [x,y] (some (.pan a,s))=deferred C0 102 (17,5,2,qx) [x,y] a s:=lK C0 _ _ rb1 (by simp) a s
def fi:Fun:= .mk 0 0 []
def te(n:Nat)(s:List UInt8):Fun×Int:=
 if 40000<s.length then(fi,2) else
 match fD n s with
 |(none,_)=>(fi,11)
 |(some f,t)=>if aw 32 t=[] then(if okF f then(f,0) else(fi,10)) else(fi,11)
def KB(all:List UInt8→PR):Prop:=∀s f t,all s=(some f,t)→f.nodes+t.length≤s.length
theorem uP{s t:List UInt8}{k:Int}(h:gy s=(some k,t)):1+t.length≤s.length:=by
 have hl:=bf 32 s
 unfold gy at h
 simp only at h
 split at h
 ·cases h
 ·rename_i h0
  simp only[Prod.mk.injEq] at h
  have hd:=jr (aw 32 s)
  rw[←h.2,List.length_drop]
  omega
theorem pX{k:Fun→Fun}{x:PR}{f:Fun}{t:List UInt8}(h:dE k x=(some f,t)):∃g u,x=(some g,u)∧f=k g∧t.length<u.length:=by
 unfold dE at h
 split at h
 ·rename_i g u
  split at h
  ·rename_i hc
   simp only[Prod.mk.injEq,Option.some.injEq] at h
   exact⟨g,u,rfl,h.1.symm,by rw[←h.2];exact gp hc⟩
  ·cases h
 ·cases h
section
variable {all:List UInt8→PR} (ha:KB all)
include ha
theorem lU{k:Int}{r:List UInt8}{f:Fun}{t:List UInt8}(h:cU all k r=(some f,t)):f.nodes+t.length≤r.length:=by
 unfold cU at h
 split at h
 ·rename_i hc
  obtain⟨g,u,h1,rfl,h3⟩:=pX h
  have h4:=ha _ _ _ h1
  have h5:=gp hc
  rw[Fun.nodes_eq]
  simp only[Fun.args_mk,Fun.nodesL]
  omega
 ·cases h
theorem tN{s:List UInt8}{f:Fun}{t:List UInt8}(h:bU all s=(some f,t)):f.nodes+t.length≤s.length:=by
 have hl:=bf 32 s
 unfold bU at h
 cases hd:aw 32 s with
 |nil=>rw[hd] at h;cases h
 |cons c r=>
  rw[hd] at h hl
  simp only[List.length_cons] at h hl
  split at h
  ·simp only[Prod.mk.injEq,Option.some.injEq] at h
   rw[←h.1,←h.2]
   simp[Fun.nodes,Fun.nodesL]
   omega
  ·split at h
   ·obtain⟨g,u,h1,h2,h3⟩:=pX h
    have h4:=ha _ _ _ h1
    have h2:f=g:=h2
    rw[h2]
    omega
   ·split at h
    ·have:=lU ha h;omega
    ·split at h
     ·have:=lU ha h;omega
     ·split at h
      ·have:=lU ha h;omega
      ·cases hn:gy (c::r) with
       |mk o u=>
       rw[hn] at h
       cases o with
       |none=>simp at h
       |some k=>
        simp only[Option.map_some,Prod.mk.injEq,Option.some.injEq] at h
        have:=uP hn
        rw[←h.1,←h.2]
        simp[Fun.nodes,Fun.nodesL] at this⊢
        omega
theorem qJ{s:List UInt8}{f:Fun}{t:List UInt8}(h:db all s=(some f,t)):f.nodes+t.length≤s.length:=by
 unfold db at h
 split at h
 ·cases h
 ·rename_i g u he
  have h1:=tN ha he
  have h2:=(am 94 u).length_le
  split at h
  ·rename_i hc
   have h3:=gp hc
   cases hn:gy (isC 94 u).2 with
   |mk o v=>
   rw[hn] at h
   cases o with
   |none=>simp at h
   |some k=>
    simp only[Option.map_some,Prod.mk.injEq,Option.some.injEq] at h
    have:=uP hn
    rw[←h.1,←h.2,Fun.nodes_eq]
    simp only[Fun.args_mk,Fun.nodesL]
    omega
  ·simp only[Prod.mk.injEq,Option.some.injEq] at h
   rw[←h.1,←h.2]
   omega
theorem nY{k:Int}{f0:Fun}{u:List UInt8}{f:Fun}{t:List UInt8}(h:cX all k f0 u=(some f,t)):f.nodes+t.length≤1+f0.nodes+u.length:=by
 unfold cX at h
 split at h
 ·cases h
 ·rename_i g v he
  have h1:=qJ ha he
  simp only[Prod.mk.injEq,Option.some.injEq] at h
  rw[←h.1,←h.2,Fun.nodes_eq]
  simp only[Fun.args_mk,Fun.nodesL]
  omega
end
theorem mD:∀n,KB (fD n)
 |0=>by intro s f t h;rw[fD] at h;cases h
 |n+1=>by
  intro s f t h
  rw[fD] at h
  split at h
  ·cases h
  ·rename_i g u he
   have h1:=qJ (mD n) he
   have h2:=(am 42 u).length_le
   have h4:=(am 43 (isC 42 u).2).length_le
   split at h
   ·rename_i hc
    have h3:=gp hc
    have:=nY (mD n) h
    omega
   ·split at h
    ·rename_i hc
     have h3:=gp hc
     have:=nY (mD n) h
     omega
    ·simp only[Prod.mk.injEq,Option.some.injEq] at h
     rw[←h.1,←h.2]
     omega
set_option maxHeartbeats 4000000 in
theorem Ep(n:Nat)(s:List UInt8)(hs:Sm s)(hn:s.length<n)(m:Mem):
  ai C0 57 [.str s] m=some (.ret (.tup [.agg (te n s).1.cells,.int .i64 (te n s).2]),m):=by
 rw[sC C0 (aj _ (by decide)) (by rw[ay];exact Tryz.func57) rfl (by rw[ae];rfl) (by rw[ae];rfl) (by decide) (by simp[Tryz.f57])]
 unfold te
 rw[pu _ _ _ _ _ _ rfl]
 simp[Tryz.f57,a57,reg57]
 rw[pu _ _ _ _ _ _ rfl]
 by_cases hl:40000<s.length
 ·have hl':(40000:Int)<s.length:=by omega
  simp[Tryz.f57,a57,reg57,hl,hl',fi]
 have hl':¬(40000:Int)<s.length:=by omega
 simp[Tryz.f57,a57,reg57,hl,hl']
 rw[qe _ _ _ _ _ _ (d:=(9,102,[.tmp 2,.tmp 3])) rfl (by decide)]
 have e1:=HT (m.bx.length+2) n s ⟨m.bx++[[.int .i64 0,.int .i64 0,.nils],[.int .i64 0],[.str s]],m.rw⟩ hs hn (by simp)
 cases hp:fD n s with
 |mk o t=>
 rw[hp] at e1
 cases o with
 |none=>
  simp at e1
  simp[Tryz.f57,a57,reg57,Tryz.f102,a102,reg102,e1,HN,deferred,qx,fi,ct]
 |some f=>
 have hf:f.nodes≤1000000:=by have:=mD n s f t hp;unfold Sm at hs;omega
 simp at e1
 have e2:=oF (m.bx.length+2) t ⟨m.bx++[f.cells,[.int .i64 0],[.str t]],m.rw⟩ (by simp)
 simp at e2
 have ev:=oA f (by omega)
 simp at ev
 cases hd:aw 32 t with
 |nil=>
  simp[hd] at e2
  cases hok:okF f with
  |true=>
   simp[hok] at ev
   simp[Tryz.f57,a57,reg57,Tryz.f102,a102,reg102,e1,e2,ev,vG,deferred,qx,hok,hd]
  |false=>
   simp[hok] at ev
   simp[Tryz.f57,a57,reg57,Tryz.f102,a102,reg102,e1,e2,ev,vG,deferred,qx,hok,fi,hd]
 |cons b r=>
  simp[hd] at e2
  have:¬(b::r:List UInt8)=[]:=by simp
  by_cases hb:b.toNat=0
  ·have hb':=eq_true hb
   simp[Tryz.f57,a57,reg57,Tryz.f102,a102,reg102,e1,e2,ev,vG,deferred,qx,fi,hb,hd]
  ·simp[Tryz.f57,a57,reg57,Tryz.f102,a102,reg102,e1,e2,ev,vG,deferred,qx,fi,hb,hd]
def s1:List UInt8:=[49,43,40,51,42,88,41]
def s2:List UInt8:=[40,40,88,41,41]
def s3:List UInt8:=[50,42,88,42,88]
def s4:List UInt8:=[48,32,43,32,88]
def f1:Fun:= .mk 3 0 [.mk 1 1 [],.mk 2 0 [.mk 1 3 [],.mk 0 0 []]]
theorem p1:fD 9 s1=(some f1,[]):=by
 simp[fD,db,cX,bU,cU,dE,isC,gy,aw,bd,be,gB,s1,f1]
theorem p2:fD 9 s2=(some (.mk 0 0 []),[]):=by
 simp[fD,db,cX,bU,cU,dE,isC,gy,aw,bd,be,gB,s2]
theorem p3:fD 9 s3=(some (.mk 2 0 [.mk 1 2 [],.mk 0 0 []]),[42,88]):=by
 simp[fD,db,cX,bU,cU,dE,isC,gy,aw,bd,be,gB,s3]
theorem p4:fD 9 s4=(some (.mk 3 0 [.mk 1 0 [],.mk 0 0 []]),[]):=by
 simp[fD,db,cX,bU,cU,dE,isC,gy,aw,bd,be,gB,s4]
theorem xO(s:List UInt8):∀b,b∈s.take (bd s)→be b=true:=by
 intro b hb
 have:s.take (bd s)=s.takeWhile be:=by
  unfold bd
  exact(List.prefix_iff_eq_take.1 (List.takeWhile_prefix _)).symm
 rw[this] at hb
 exact List.all_eq_true.1 (List.all_takeWhile) _ hb
theorem jX:∀(N:Nat) (s:List UInt8) (l:List (List UInt8)),s.length≤N→s.length≤1000000→aQ s=some l→gH l∧l.length≤s.length
 |0,s,l,hN,hs,h=>by
  have:s=[]:=List.eq_nil_of_length_eq_zero (by omega)
  subst this
  rw[fV] at h
  cases h
  exact⟨fun t ht=>(by cases ht),by simp⟩
 |N+1,[],l,hN,hs,h=>by
  rw[fV] at h
  cases h
  exact⟨fun t ht=>(by cases ht),by simp⟩
 |N+1,c::r,l,hN,hs,h=>by
  rw[gD] at h
  simp only[List.length_cons] at hN hs⊢
  split at h
  ·obtain⟨h1,h2⟩:=jX N r l (by omega) (by omega) h
   exact⟨h1,by omega⟩
  ·split at h
   ·rename_i hd
    obtain⟨q,h1,rfl⟩:=Option.map_eq_some_iff.1 h
    obtain⟨h2,h3⟩:=jX N _ q (by simp;omega) (by simp;omega) h1
    refine⟨fun t ht=> ?_,by simp at h3⊢;omega⟩
    rcases List.mem_cons.1 ht with rfl|ht
    ·refine⟨c,_,rfl,by simp;omega,fun _ b hb=> ?_⟩
     rcases List.mem_cons.1 hb with rfl|hb
     ·exact hd
     ·exact xO r b hb
    ·exact h2 t ht
   ·rename_i hd
    split at h
    ·obtain⟨q,h1,rfl⟩:=Option.map_eq_some_iff.1 h
     obtain⟨h2,h3⟩:=jX N r q (by omega) (by omega) h1
     refine⟨fun t ht=> ?_,by simp;omega⟩
     rcases List.mem_cons.1 ht with rfl|ht
     ·exact⟨c,[],rfl,by simp,fun hc=>absurd hc hd⟩
     ·exact h2 t ht
    ·cases h
def dx(s:List UInt8):Fun×Int:=
 if 40000<s.length then(fi,2) else
 match aQ s with
 |none=>(fi,11)
 |some l=>
  let x:=dH (l.length+1) (l,false)
  if x.2.2=true∨x.2.1≠[] then(fi,11) else if isF x.1 then(x.1,0) else(fi,10)
set_option maxHeartbeats 4000000 in
theorem C7(s:List UInt8)(hs:s.length≤1000000)(hnn:∀l,aQ s=some l→(dH (l.length+1) (l,false)).1.nodes≤1000000000)(m:Mem):ai C0 62 [.str s] m=some (.ret (.tup [.agg (dx s).1.cells,.int .i64 (dx s).2]),m):=by
 rw[ab C0 (aj _ (by decide)) (by rw[ay];exact Tryz.func62) rfl (by rw[ae];rfl) (by rw[ae];rfl) (by decide) (by simp[Tryz.f62])]
 unfold dx
 by_cases hl:40000<s.length
 ·have hl':(40000:Int)<s.length:=by omega
  simp[Tryz.f62,a62,reg62,hl,hl',fi]
 have hl':¬(40000:Int)<s.length:=by omega
 rw[if_neg hl]
 have et:=yT s hs ⟨m.bx++[[.int .i64 0,.int .i64 0,.nils]],m.rw⟩
 cases htk:aQ s with
 |none=>
  rw[htk] at et
  simp[im,cY] at et
  simp[Tryz.f62,a62,reg62,hl,hl',et,fi]
 |some l=>
 obtain⟨hk,hll⟩:=jX s.length s l (Nat.le_refl _) hs htk
 rw[htk] at et
 simp[im,cY] at et
 have e1:=Ij (m.bx.length+1) (l.length+1) (l,false) ⟨m.bx++[[.int .i64 0,.int .i64 0,.nils],rd (l,false)],m.rw⟩ hk (by simp only;omega) (by simp) (by simp)
 have hb:=hnn l htk
 have hsl:=(dn (l.length+1) (l,false)).length_le
 dsimp only at hsl⊢
 generalize dH (l.length+1) (l,false)=x at e1 hb hsl⊢
 obtain⟨f,q,b⟩:=x
 simp at e1 hb hsl
 have ei:=Bg f hb
 have hif:isF f=(decide (0<fj f 21)&&decide (f.depth≤8)&&au f):=rfl
 rw[←hif] at ei
 simp at ei
 cases b with
 |true=>simp[Tryz.f62,a62,reg62,hl,hl',et,e1,fi]
 |false=>
  cases q with
  |cons t q=>
   have hp:(0:Int)<q.length+1:=by omega
   simp[Tryz.f62,a62,reg62,hl,hl',et,e1,hp,fi]
  |nil=>
   cases hi:isF f with
   |true=>
    simp only[hi] at ei
    simp[Tryz.f62,a62,reg62,hl,hl',et,e1,ei,hi]
   |false=>
    simp only[hi] at ei
    simp[Tryz.f62,a62,reg62,hl,hl',et,e1,ei,hi,fi]
theorem DQ(c:UInt8){s t:List UInt8}(h:aw 32 s=aw 32 t):isC c s=isC c t:=by unfold isC;rw[h]
theorem xG{b:UInt8}(h:be b=false)(r:List UInt8):bd (b::r)=0:=by unfold bd;simp[h]
theorem ou{b:UInt8}(h:be b=true)(r:List UInt8):bd (b::r)=bd r+1:=by unfold bd;simp[h]
theorem y9{f:Fun}(h:au f=true):f= .mk 0 0 []∨(∃n,1≤n∧n≤16∧f= .mk 1 n [])∨(∃k a b,(k=2∨k=3)∧au a=true∧au b=true∧f= .mk k 0 [a,b])∨(∃n a,1≤n∧n≤4∧au a=true∧f= .mk 4 n [a])∨∃k a,(k=5∨k=6∨k=7)∧au a=true∧f= .mk k 0 [a]:=by
 have hk:=ov h
 obtain⟨k,n,l⟩:=f
 rw[fE] at h
 simp only[Fun.kind_mk,Fun.num_mk,Fun.args_mk,Bool.and_eq_true,decide_eq_true_eq] at h hk
 obtain⟨⟨⟨s1,s2⟩,s3⟩,s4⟩:=h
 have two:(2:Int)=l.length→∃a b,l=[a,b]:=by
  intro h
  match l,h with
  |[a,b],_=>exact⟨a,b,rfl⟩
  |[],h=>simp at h
  |[_],h=>simp at h
  |_::_::_::_,h=>simp at h;omega
 have one:(1:Int)=l.length→∃a,l=[a]:=by
  intro h
  match l,h with
  |[a],_=>exact⟨a,rfl⟩
  |[],h=>simp at h
  |_::_::_,h=>simp at h;omega
 have hks:k=0∨k=1∨k=2∨k=3∨k=4∨k=5∨k=6∨k=7:=by omega
 rcases hks with rfl|rfl|rfl|rfl|rfl|rfl|rfl|rfl
 ·have:l=[]:=by simpa [dg] using s1
  subst this
  have:n=0:=by simp[cL] at s2 s3;omega
  subst this
  exact Or.inl rfl
 ·have:l=[]:=by simpa [dg] using s1
  subst this
  exact Or.inr (Or.inl ⟨n,by simp[cL] at s2;omega,by simp[cL] at s3;omega,rfl⟩)
 ·obtain⟨a,b,rfl⟩:=two (by have:=of_decide_eq_true s1;simp[dg] at this;omega)
  have:n=0:=by simp[cL] at s2 s3;omega
  subst this
  simp only[bu,Bool.and_eq_true] at s4
  exact Or.inr (Or.inr (Or.inl ⟨2,a,b,by simp,s4.1,s4.2.1,rfl⟩))
 ·obtain⟨a,b,rfl⟩:=two (by have:=of_decide_eq_true s1;simp[dg] at this;omega)
  have:n=0:=by simp[cL] at s2 s3;omega
  subst this
  simp only[bu,Bool.and_eq_true] at s4
  exact Or.inr (Or.inr (Or.inl ⟨3,a,b,by simp,s4.1,s4.2.1,rfl⟩))
 ·obtain⟨a,rfl⟩:=one (by have:=of_decide_eq_true s1;simp[dg] at this;omega)
  simp only[bu,Bool.and_eq_true] at s4
  exact Or.inr (Or.inr (Or.inr (Or.inl ⟨n,a,by simp[cL] at s2;omega,by simp[cL] at s3;omega,s4.1,rfl⟩)))
 all_goals
  obtain⟨a,rfl⟩:=one (by have:=of_decide_eq_true s1;simp[dg] at this;omega)
  have:n=0:=by simp[cL] at s2 s3;omega
  subst this
  simp only[bu,Bool.and_eq_true] at s4
  exact Or.inr (Or.inr (Or.inr (Or.inr ⟨_,a,by simp,s4.1,rfl⟩)))
theorem pZ{f:Fun}(hs:au f=true)(h2:¬(f.kind=2∨f.kind=3)):aH f true=aH f false:=by
 rcases y9 hs with rfl|⟨m,m1,m2,rfl⟩|⟨k,a,b,hk,ha,hb,rfl⟩|⟨m,a,m1,m2,ha,rfl⟩|⟨k,a,hk,ha,rfl⟩
 ·rw[aH,aH]
 ·rw[aH,aH]
 ·exact absurd (by simpa using hk) h2
 ·rw[aH,aH]
 ·rw[aH,aH]
def FU(n n':Int):Prop:=n=n'∨(16<n∧16<n')
mutual
def jk:Fun→Fun→Prop
 | .mk k n l,.mk k' n' l'=>k=k'∧FU n n'∧kl l l'
def kl:List Fun→List Fun→Prop
 |[],[]=>True
 |f::r,g::q=>jk f g∧kl r q
 |_,_=>False
end
mutual
theorem uC:∀f g:Fun,jk f g→jk g f
 | .mk k n l,.mk k' n' l',h=>by
   rw[jk] at h⊢
   refine⟨h.1.symm, ?_,uW l l' h.2.2⟩
   rcases h.2.1 with h1|h1
   ·exact .inl h1.symm
   ·exact .inr ⟨h1.2,h1.1⟩
theorem uW:∀f g:List Fun,kl f g→kl g f
 |[],[],_=>by rw[kl];trivial
 |f::r,g::q,h=>by
  rw[kl] at h⊢
  exact⟨uC f g h.1,uW r q h.2⟩
 |[],_::_,h=>by simp[kl] at h
 |_::_,[],h=>by simp[kl] at h
end
theorem Dv(k:Int):cL k≤16:=by unfold cL;split<;>(try split)<;>omega
mutual
theorem q7:∀f g:Fun,jk f g→au f=true→f=g
 | .mk k n l,.mk k' n' l',h,hs=>by
   rw[jk] at h
   rw[au] at hs
   simp only[Bool.and_eq_true,decide_eq_true_eq] at hs
   have h1:=Dv k
   obtain⟨rfl,h2,h3⟩:=h
   have h4:=A8 l l' h3 hs.2
   rcases h2 with rfl|h2
   ·rw[h4]
   ·omega
theorem A8:∀f g:List Fun,kl f g→bu f=true→f=g
 |[],[],_,_=>rfl
 |f::r,g::q,h,hs=>by
  rw[kl] at h
  rw[bu] at hs
  simp only[Bool.and_eq_true] at hs
  rw[q7 f g h.1 hs.1,A8 r q h.2 hs.2]
 |[],_::_,h,_=>by simp[kl] at h
 |_::_,[],h,_=>by simp[kl] at h
end
theorem Gb{f g:Fun}(h:jk f g):okF f=okF g:=by
 cases h1:okF f with
 |true=>rw[←q7 f g h (iY h1),h1]
 |false=>
  cases h2:okF g with
  |false=>rfl
  |true=>
   rw[←q7 g f (uC f g h) (iY h2),h2] at h1
   cases h1
theorem yn{k n n':Int}{f g:Fun}(hn:FU n n')(h:jk f g):jk (.mk k n [f]) (.mk k n' [g]):=by
 rw[jk,kl,kl]
 exact⟨rfl,hn,h,trivial⟩
theorem DG{k:Int}{f g f' g':Fun}(h:jk f f')(h':jk g g'):jk (.mk k 0 [f,g]) (.mk k 0 [f',g']):=by
 rw[jk,kl,kl,kl]
 exact⟨rfl,.inl rfl,h,h',trivial⟩
theorem ef:∀s,aQ (aw 32 s)=aQ s
 |[]=>rfl
 |c::r=>by
  by_cases h:c=32
  ·subst h
   rw[eU,ef r,gD,if_pos rfl]
  ·rw[eu h]
theorem B5{c:UInt8}(h:c∈cY):¬c=32∧be c=false:=by
 simp[cY] at h
 rcases h with rfl|rfl|rfl|rfl|rfl|rfl|rfl|rfl|rfl<;>exact⟨by decide,rfl⟩
theorem kz{c:UInt8}(h:c∈cY)(r:List UInt8):aQ (c::r)=(aQ r).map ([c]:: ·):=by
 have:=B5 h
 rw[gD,if_neg this.1,this.2,if_pos h]
 simp
theorem fc{c:UInt8}(hc:c∈cY){u:List UInt8}(h:(isC c u).1=true):aQ u=(aQ (isC c u).2).map ([c]:: ·):=by
 unfold isC at h⊢
 rw[←ef u]
 cases hd:aw 32 u with
 |nil=>rw[hd] at h;cases h
 |cons b r=>
  rw[hd] at h
  simp only at h⊢
  split at h
  ·rename_i hb
   subst hb
   rw[if_pos rfl]
   exact kz hc r
  ·cases h
theorem kC{c:UInt8}{r:List UInt8}{l:List (List UInt8)}(h32:¬c=32)(h:aQ (c::r)=some l):∃t q,l=(c::t)::q∧(be c=false→t=[]):=by
 rw[gD,if_neg h32] at h
 split at h
 ·rename_i hd
  obtain⟨q,_,rfl⟩:=Option.map_eq_some_iff.1 h
  exact⟨_,q,rfl,fun hf=>by rw[hd] at hf;cases hf⟩
 ·split at h
  ·obtain⟨q,_,rfl⟩:=Option.map_eq_some_iff.1 h
   exact⟨[],q,rfl,fun _=>rfl⟩
  ·cases h
theorem d6{c:UInt8}:∀{s r:List UInt8} {b:UInt8},aw c s=b::r→¬b=c
 |[],r,b,h=>by cases h
 |x::s,r,b,h=>by
  by_cases hx:x=c
  ·subst hx
   rw[eU] at h
   exact d6 h
  ·rw[eu hx] at h
   cases h
   exact hx
theorem gO{c:UInt8}{u:List UInt8}(h:(isC c u).1=false):aQ (isC c u).2=aQ u∧∀l,aQ u=some l→l.head? ≠some [c]:=by
 unfold isC at h⊢
 rw[←ef u]
 cases hd:aw 32 u with
 |nil=>
  simp only
  refine⟨trivial,fun l hl=> ?_⟩
  rw[fV] at hl
  cases hl
  simp
 |cons b r=>
  rw[hd] at h
  simp only at h⊢
  split at h
  ·cases h
  ·rename_i hb
   rw[if_neg hb]
   refine⟨rfl,fun l hl=> ?_⟩
   obtain⟨t,q,rfl,_⟩:=kC (d6 hd) hl
   simp
   intro e
   exact absurd e hb
theorem uf:∀s:List UInt8,fC 0 (aw 48 s)=fC 0 s
 |[]=>rfl
 |c::r=>by
  by_cases h:c=48
  ·subst h
   rw[eU,uf r,mB]
   rfl
  ·rw[eu h]
theorem FK(ds:List UInt8):FU (gB (aw 48 ds)) (gz ds):=by
 have hv:=uf ds
 unfold gB gz
 rw[hv]
 by_cases hd:aw 48 ds=[]
 ·rw[if_pos hd]
  rw[hd,tE] at hv
  rw[←hv]
  exact .inl rfl
 ·rw[if_neg hd]
  split
  ·exact .inl rfl
  ·exact .inr ⟨by omega,by omega⟩
theorem rH{u v:List UInt8}{k:Int}(h:gy u=(some k,v)):∃c ds,be c=true∧aQ u=(aQ v).map ((c::ds):: ·)∧FU k (gz (c::ds)):=by
 unfold gy at h
 simp only at h
 rw[←ef u]
 split at h
 ·cases h
 ·rename_i h0
  simp only[Prod.mk.injEq,Option.some.injEq] at h
  cases hd:aw 32 u with
  |nil=>rw[hd] at h0;exact absurd rfl h0
  |cons c r=>
   rw[hd] at h h0
   cases hc:be c with
   |false=>rw[xG hc] at h0;exact absurd rfl h0
   |true=>
    have hn:=ou hc r
    rw[hn,List.take_succ_cons,List.drop_succ_cons] at h
    refine⟨c,r.take (bd r),hc, ?_, ?_⟩
    ·rw[gD,if_neg (d6 hd),hc,if_pos rfl,h.2]
    ·rw[←h.1]
     exact FK _
theorem xi{u v:List UInt8}{l:List (List UInt8)}(h:gy u=(none,v))(hl:aQ u=some l)(b:Bool):(dA (l,b)).2.2=true:=by
 unfold gy at h
 simp only at h
 rw[←ef u] at hl
 split at h
 ·rename_i h0
  cases hd:aw 32 u with
  |nil=>
   rw[hd,fV] at hl
   cases hl
   rfl
  |cons c r=>
   rw[hd] at hl h0
   cases hc:be c with
   |true=>rw[ou hc] at h0;omega
   |false=>
    obtain⟨t,q,rfl,_⟩:=kC (d6 hd) hl
    simp[dA,hc]
 ·cases h
def se(r:RS→Fun×RS):Prop:=∀s,s.2=true→(r s).2.2=true
theorem cN{t:List UInt8}{s:RS}(h:s.2=true):(aq t s).2=true:=by
 unfold aq
 split
 ·exact h
 ·rfl
theorem qc{t:List UInt8}{l:List (List UInt8)}{b:Bool}(h:l.head? ≠some t):(aq t (l,b)).2=true:=by
 unfold aq
 rw[if_neg h]
theorem dS{t:List UInt8}{l:List (List UInt8)}{b:Bool}:aq t (t::l,b)=(l,b):=by
 unfold aq
 rw[if_pos (by rfl)]
 rfl
theorem ob{s:RS}(h:s.2=true):(dA s).2.2=true:=by
 unfold dA
 split
 ·split
  ·exact h
  ·rfl
 ·rfl
section
variable {fn:RS→Fun×RS} (hst:se fn)
include hst
theorem qo:se (dm fn):=by
 have _:=hst
 intro s h
 unfold dm
 rw[if_pos h]
 exact h
theorem jN:se (opR fn):=by
 intro s h
 have h1:=qo hst s h
 unfold opR
 simp only
 split
 ·exact ob (cN h1)
 ·exact h1
end
theorem kW:∀n,se (dH n)
 |0=>fun s h=>h
 |n+1=>fun s h=>by
  have h1:=jN (kW n) s h
  rw[dH]
  try simp only
  split
  ·exact jN (kW n) _ (cN h1)
  ·split
   ·exact jN (kW n) _ (cN h1)
   ·exact h1
structure Sim (p:List UInt8→PR) (r:RS→Fun×RS) (n:Nat):Prop where
 ok:∀s f t l',s.length<n→p s=(some f,t)→aQ t=some l'→∃l f',aQ s=some l∧r (l,false)=(f',(l',false))∧jk f f'
 bad:∀s t l,s.length<n→p s=(none,t)→aQ s=some l→(r (l,false)).2.2=true
 fwd:∀s f t l,s.length<n→p s=(some f,t)→aQ s=some l→∃l',aQ t=some l'
section
variable {all:List UInt8→PR} {fn:RS→Fun×RS} {n:Nat} (hst:se fn) (H:Sim all fn n)
include hst H
theorem yU{k:Fun→Fun}{r t:List UInt8}{f:Fun}{l':List (List UInt8)}(hr:r.length<n)(h:dE k (all r)=(some f,t))(ht:aQ t=some l'):∃l g g',aQ r=some l∧f=k g∧jk g g'∧inR fn ([40]::l,false)=(g',(l',false)):=by
 have _:=hst
 unfold dE at h
 split at h
 ·rename_i g u hal
  split at h
  ·rename_i hc
   simp only[Prod.mk.injEq,Option.some.injEq] at h
   have hu:=fc (c:=41) (by decide) hc
   rw[h.2,ht] at hu
   obtain⟨l,g',h1,h2,h3⟩:=H.ok r g u _ hr hal hu
   refine⟨l,g,g',h1,h.1.symm,h3, ?_⟩
   unfold inR
   rw[dS,h2,dS]
  ·cases h
 ·cases h
theorem vn{k:Fun→Fun}{r t:List UInt8}{l:List (List UInt8)}(hr:r.length<n)(h:dE k (all r)=(none,t))(hl:aQ r=some l):(inR fn ([40]::l,false)).2.2=true:=by
 have _:=hst
 unfold inR
 rw[dS]
 unfold dE at h
 split at h
 ·rename_i g u hal
  split at h
  ·cases h
  ·rename_i hc
   have hc':(isC 41 u).1=false:=by simpa using hc
   obtain⟨lu,hu⟩:=H.fwd r g u l hr hal hl
   obtain⟨l2,g',h1,h2,h3⟩:=H.ok r g u lu hr hal hu
   rw[hl] at h1
   cases h1
   rw[h2]
   exact qc ((gO hc').2 lu hu)
 ·rename_i u hal
  exact cN (H.bad r u l hr hal hl)
theorem ui{k:Fun→Fun}{r t:List UInt8}{f:Fun}{l:List (List UInt8)}(hr:r.length<n)(h:dE k (all r)=(some f,t))(hl:aQ r=some l):∃l',aQ t=some l':=by
 have _:=hst
 unfold dE at h
 split at h
 ·rename_i g u hal
  split at h
  ·rename_i hc
   simp only[Prod.mk.injEq,Option.some.injEq] at h
   obtain⟨lu,hu⟩:=H.fwd r g u l hr hal hl
   rw[fc (c:=41) (by decide) hc,h.2] at hu
   obtain⟨q,h1,_⟩:=Option.map_eq_some_iff.1 hu
   exact⟨q,h1⟩
  ·cases h
 ·cases h
end
theorem xp{c:UInt8}{l:List (List UInt8)}{b:Bool}:gA ([c]::l,b)=if c=80 then 5 else if c=66 then 6 else if c=68 then 7 else -1:=by
 unfold gA
 simp
theorem tw{fn:RS→Fun×RS}{c:UInt8}{k:Int}{l:List (List UInt8)}(hc:(c=80∧k=5)∨(c=66∧k=6)∨(c=68∧k=7)):dm fn ([c]::l,false)=(.mk k 0 [(inR fn (l,false)).1],(inR fn (l,false)).2):=by
 have h1:gA ([c]::l,false)=k:=by
  rw[xp]
  rcases hc with⟨rfl,rfl⟩|⟨rfl,rfl⟩|⟨rfl,rfl⟩<;>decide
 have h2:¬c=88:=by rcases hc with⟨rfl,_⟩|⟨rfl,_⟩|⟨rfl,_⟩<;>decide
 unfold dm
 rw[h1]
 have h3:(0:Int)≤k:=by omega
 simp[h2,h3]
theorem ry{fn:RS→Fun×RS}{l:List (List UInt8)}:dm fn ([40]::l,false)=inR fn ([40]::l,false):=by
 have h1:gA ([40]::l,false)= -1:=by rw[xp];decide
 unfold dm
 rw[h1]
 simp
theorem pI{fn:RS→Fun×RS}{l:List (List UInt8)}(h:∀c,(c=88∨c=80∨c=66∨c=68∨c=40)→l.head? ≠some [c]):dm fn (l,false)=(.mk 1 (gz (dA (l,false)).1) [],(dA (l,false)).2):=by
 have h1:gA (l,false)= -1:=by
  unfold gA
  rw[if_neg (h 80 (by simp)),if_neg (h 66 (by simp)),if_neg (h 68 (by simp))]
 unfold dm
 rw[h1]
 have h2:=h 88 (by simp)
 have h3:=h 40 (by simp)
 simp only[Bool.false_eq_true,if_false,h2,h3]
 rw[if_neg (by decide)]
section
variable {all:List UInt8→PR} {fn:RS→Fun×RS} {n:Nat} (hst:se fn) (H:Sim all fn n)
include hst H
theorem oP{c:UInt8}{k:Int}(hc:(c=80∧k=5)∨(c=66∧k=6)∨(c=68∧k=7)){r:List UInt8}(hr:r.length<n):
  (∀f t l',cU all k r=(some f,t)→aQ t=some l'→∃l f',aQ (c::r)=some l∧dm fn (l,false)=(f',(l',false))∧jk f f')∧
  (∀t l,cU all k r=(none,t)→aQ (c::r)=some l→(dm fn (l,false)).2.2=true)∧
  (∀f t l,cU all k r=(some f,t)→aQ (c::r)=some l→∃l',aQ t=some l'):=by
 have hm:c∈cY:=by rcases hc with⟨rfl,_⟩|⟨rfl,_⟩|⟨rfl,_⟩<;>decide
 have htk:=kz hm r
 have hsl:=(am 40 r).length_le
 refine⟨fun f t l' h ht=> ?_,fun t l h hl=> ?_,fun f t l h hl=> ?_⟩
 ·unfold cU at h
  split at h
  ·rename_i h40
   obtain⟨l,g,g',h1,rfl,h3,h4⟩:=yU hst H (by omega) h ht
   have h5:=fc (c:=40) (by decide) h40
   rw[h1] at h5
   rw[h5] at htk
   refine⟨_,.mk k 0 [g'],htk, ?_,yn (.inl rfl) h3⟩
   show dm fn ([c]::[40]::l,false)=_
   rw[tw hc,h4]
  ·cases h
 ·rw[htk] at hl
  obtain⟨q,h1,rfl⟩:=Option.map_eq_some_iff.1 hl
  rw[tw hc]
  show(inR fn (q,false)).2.2=true
  unfold cU at h
  split at h
  ·rename_i h40
   have h5:=fc (c:=40) (by decide) h40
   rw[h1] at h5
   obtain⟨q2,h6,rfl⟩:=Option.map_eq_some_iff.1 h5.symm
   exact vn hst H (by omega) h h6
  ·rename_i h40
   have h40':(isC 40 r).1=false:=by simpa using h40
   unfold inR
   exact cN (hst _ (qc ((gO h40').2 q h1)))
 ·rw[htk] at hl
  obtain⟨q,h1,rfl⟩:=Option.map_eq_some_iff.1 hl
  unfold cU at h
  split at h
  ·rename_i h40
   have h5:=fc (c:=40) (by decide) h40
   rw[h1] at h5
   obtain⟨q2,h6,_⟩:=Option.map_eq_some_iff.1 h5.symm
   exact ui hst H (by omega) h h6
  ·cases h
theorem xa:Sim (bU all) (dm fn) (n+1):=by
 have key:∀s,s.length<n+1→(∀f t l',bU all s=(some f,t)→aQ t=some l'→∃l f',aQ s=some l∧dm fn (l,false)=(f',(l',false))∧jk f f')∧
   (∀t l,bU all s=(none,t)→aQ s=some l→(dm fn (l,false)).2.2=true)∧
   (∀f t l,bU all s=(some f,t)→aQ s=some l→∃l',aQ t=some l'):=by
  intro s hs
  have hdl:=bf 32 s
  rw[←ef s]
  unfold bU
  cases hd:aw 32 s with
  |nil=>
   refine⟨fun f t l' h=>(by cases h),fun t l h hl=> ?_,fun f t l h=>(by cases h)⟩
   rw[fV] at hl
   cases hl
   rw[pI (by simp)]
   rfl
  |cons c r=>
  have h32:=d6 hd
  rw[hd] at hdl
  have hr:r.length<n:=by simp at hdl;omega
  simp only
  by_cases c88:c=88
  ·subst c88
   have htk:=kz (c:=88) (by decide) r
   rw[if_pos rfl]
   refine⟨fun f t l' h ht=> ?_,fun t l h=>(by cases h),fun f t l h hl=> ?_⟩
   ·simp only[Prod.mk.injEq,Option.some.injEq] at h
    obtain⟨rfl,rfl⟩:=h
    rw[ht] at htk
    refine⟨_,.mk 0 0 [],htk, ?_, ?_⟩
    ·unfold dm
     simp[aq]
    ·rw[jk,kl]
     exact⟨rfl,.inl rfl,trivial⟩
   ·simp only[Prod.mk.injEq,Option.some.injEq] at h
    obtain⟨rfl,rfl⟩:=h
    rw[htk] at hl
    obtain⟨q,h1,_⟩:=Option.map_eq_some_iff.1 hl
    exact⟨q,h1⟩
  rw[if_neg c88]
  by_cases c40:c=40
  ·subst c40
   have htk:=kz (c:=40) (by decide) r
   rw[if_pos rfl]
   refine⟨fun f t l' h ht=> ?_,fun t l h hl=> ?_,fun f t l h hl=> ?_⟩
   ·obtain⟨l,g,g',h1,rfl,h3,h4⟩:=yU hst H hr h ht
    rw[h1] at htk
    exact⟨_,g',htk,by show dm fn ([40]::l,false)=_;rw[ry,h4],h3⟩
   ·rw[htk] at hl
    obtain⟨q,h1,rfl⟩:=Option.map_eq_some_iff.1 hl
    rw[ry]
    exact vn hst H hr h h1
   ·rw[htk] at hl
    obtain⟨q,h1,rfl⟩:=Option.map_eq_some_iff.1 hl
    exact ui hst H hr h h1
  rw[if_neg c40]
  by_cases c80:c=80
  ·subst c80;rw[if_pos rfl];exact oP hst H (.inl ⟨rfl,rfl⟩) hr
  rw[if_neg c80]
  by_cases c66:c=66
  ·subst c66;rw[if_pos rfl];exact oP hst H (.inr (.inl ⟨rfl,rfl⟩)) hr
  rw[if_neg c66]
  by_cases c68:c=68
  ·subst c68;rw[if_pos rfl];exact oP hst H (.inr (.inr ⟨rfl,rfl⟩)) hr
  rw[if_neg c68]
  have hhead:∀l,aQ (c::r)=some l→∀c',(c'=88∨c'=80∨c'=66∨c'=68∨c'=40)→l.head? ≠some [c']:=by
   intro l hl c' hc' e
   obtain⟨t,q,rfl,_⟩:=kC h32 hl
   simp at e
   obtain⟨rfl,_⟩:=e
   rcases hc' with h|h|h|h|h
   ·exact c88 h
   ·exact c80 h
   ·exact c66 h
   ·exact c68 h
   ·exact c40 h
  cases hn:gy (c::r) with
  |mk o v=>
  cases o with
  |none=>
   refine⟨fun f t l' h=>(by cases h),fun t l h hl=> ?_,fun f t l h=>(by cases h)⟩
   rw[pI (hhead l hl)]
   exact xi hn hl false
  |some k=>
   obtain⟨c',ds,e1,e2,e3⟩:=rH hn
   refine⟨fun f t l' h ht=> ?_,fun t l h=>(by cases h),fun f t l h hl=> ?_⟩
   ·simp only[Option.map_some,Prod.mk.injEq,Option.some.injEq] at h
    rw[h.2,ht] at e2
    refine⟨_,.mk 1 (gz (c'::ds)) [],e2, ?_, ?_⟩
    ·rw[pI (hhead _ e2)]
     simp[dA,e1]
    ·rw[←h.1,jk,kl]
     exact⟨rfl,e3,trivial⟩
   ·simp only[Option.map_some,Prod.mk.injEq,Option.some.injEq] at h
    rw[e2,h.2] at hl
    obtain⟨q,h1,_⟩:=Option.map_eq_some_iff.1 hl
    exact⟨q,h1⟩
 exact⟨fun s f t l' hs=>(key s hs).1 f t l',fun s t l hs=>(key s hs).2.1 t l,fun s f t l hs=>(key s hs).2.2 f t l⟩
theorem vp:Sim (db all) (opR fn) (n+1):=by
 have HO:=xa hst H
 have hsta:=qo hst
 refine⟨fun s f t l' hs h ht=> ?_,fun s t l hs h hl=> ?_,fun s f t l hs h hl=> ?_⟩
 ·unfold db at h
  split at h
  ·cases h
  ·rename_i g u he
   split at h
   ·rename_i hc
    cases hn:gy (isC 94 u).2 with
    |mk o v=>
    rw[hn] at h
    cases o with
    |none=>simp at h
    |some k=>
    simp only[Option.map_some,Prod.mk.injEq,Option.some.injEq] at h
    obtain⟨c',ds,e1,e2,e3⟩:=rH hn
    rw[h.2,ht] at e2
    have hu:=fc (c:=94) (by decide) hc
    rw[e2] at hu
    obtain⟨l,f',h1,h2,h3⟩:=HO.ok s g u _ hs he hu
    refine⟨l,.mk 4 (gz (c'::ds)) [f'],h1, ?_, ?_⟩
    ·unfold opR
     simp only[h2]
     rw[if_pos (by rfl),dS]
     simp[dA,e1]
    ·rw[←h.1]
     exact yn e3 h3
   ·rename_i hc
    have hc':(isC 94 u).1=false:=by simpa using hc
    simp only[Prod.mk.injEq,Option.some.injEq] at h
    have h5:=gO hc'
    rw[h.2,ht] at h5
    obtain⟨l,f',h1,h2,h3⟩:=HO.ok s g u l' hs he h5.1.symm
    refine⟨l,f',h1, ?_,by rw[←h.1];exact h3⟩
    unfold opR
    simp only[h2]
    rw[if_neg (h5.2 l' h5.1.symm)]
 ·unfold db at h
  split at h
  ·rename_i u he
   exact(by
    have h1:=HO.bad s u l hs he hl
    unfold opR
    simp only
    split
    ·exact ob (cN h1)
    ·exact h1)
  ·rename_i g u he
   split at h
   ·rename_i hc
    cases hn:gy (isC 94 u).2 with
    |mk o v=>
    rw[hn] at h
    cases o with
    |some k=>simp at h
    |none=>
    obtain⟨lu,hlu⟩:=HO.fwd s g u l hs he hl
    obtain⟨l2,f',h1,h2,h3⟩:=HO.ok s g u lu hs he hlu
    rw[hl] at h1
    cases h1
    have hu:=fc (c:=94) (by decide) hc
    rw[hlu] at hu
    obtain⟨q,h6,rfl⟩:=Option.map_eq_some_iff.1 hu.symm
    unfold opR
    simp only[h2]
    rw[if_pos (by rfl),dS]
    exact xi hn h6 false
   ·cases h
 ·unfold db at h
  split at h
  ·cases h
  ·rename_i g u he
   obtain⟨lu,hlu⟩:=HO.fwd s g u l hs he hl
   split at h
   ·rename_i hc
    cases hn:gy (isC 94 u).2 with
    |mk o v=>
    rw[hn] at h
    cases o with
    |none=>simp at h
    |some k=>
    simp only[Option.map_some,Prod.mk.injEq,Option.some.injEq] at h
    have hu:=fc (c:=94) (by decide) hc
    rw[hlu] at hu
    obtain⟨q,h6,_⟩:=Option.map_eq_some_iff.1 hu.symm
    obtain⟨c',ds,e1,e2,e3⟩:=rH hn
    rw[e2,h.2] at h6
    obtain⟨q2,h7,_⟩:=Option.map_eq_some_iff.1 h6
    exact⟨q2,h7⟩
   ·rename_i hc
    have hc':(isC 94 u).1=false:=by simpa using hc
    simp only[Prod.mk.injEq,Option.some.injEq] at h
    have h5:=(gO hc').1
    rw[h.2,hlu] at h5
    exact⟨lu,h5⟩
end
theorem BH{all:List UInt8→PR}{fn:RS→Fun×RS}{n:Nat}(hst:se fn)(H:Sim all fn n){c:UInt8}{k:Int}(hc:c∈cY){s u:List UInt8}{g:Fun}(hs:s.length<n+1)(he:db all s=(some g,u))(h1:(isC c u).1=true)(hul:(isC c u).2.length<n+1):
  (∀f t l',cX all k g (isC c u).2=(some f,t)→aQ t=some l'→∃l g' lu f',aQ s=some l∧opR fn (l,false)=(g',([c]::lu,false))∧rR fn k g' (lu,false)=(f',(l',false))∧jk f f')∧
  (∀t l,cX all k g (isC c u).2=(none,t)→aQ s=some l→∃g' lu,opR fn (l,false)=(g',([c]::lu,false))∧(rR fn k g' (lu,false)).2.2=true)∧
  (∀f t l,cX all k g (isC c u).2=(some f,t)→aQ s=some l→∃l',aQ t=some l'):=by
 have HP:=vp hst H
 have hu:=fc hc h1
 refine⟨fun f t l' h ht=> ?_,fun t l h hl=> ?_,fun f t l h hl=> ?_⟩
 ·unfold cX at h
  split at h
  ·cases h
  ·rename_i g2 v hv
   simp only[Prod.mk.injEq,Option.some.injEq] at h
   rw[←h.2] at ht
   obtain⟨l2,f2,e1,e2,e3⟩:=HP.ok _ g2 v l' hul hv ht
   rw[e1] at hu
   obtain⟨l,g',e4,e5,e6⟩:=HP.ok s g u _ hs he hu
   refine⟨l,g',l2,.mk k 0 [g',f2],e4,e5, ?_, ?_⟩
   ·unfold rR
    rw[e2]
   ·rw[←h.1]
    exact DG e6 e3
 ·obtain⟨lu,hlu⟩:=HP.fwd s g u l hs he hl
  obtain⟨l2,g',e4,e5,e6⟩:=HP.ok s g u lu hs he hlu
  rw[hl] at e4
  cases e4
  rw[hlu] at hu
  obtain⟨q,e7,rfl⟩:=Option.map_eq_some_iff.1 hu.symm
  refine⟨g',q,e5, ?_⟩
  unfold cX at h
  split at h
  ·rename_i v hv
   exact HP.bad _ v q hul hv e7
  ·cases h
 ·obtain⟨lu,hlu⟩:=HP.fwd s g u l hs he hl
  rw[hlu] at hu
  obtain⟨q,e7,_⟩:=Option.map_eq_some_iff.1 hu.symm
  unfold cX at h
  split at h
  ·cases h
  ·rename_i g2 v hv
   simp only[Prod.mk.injEq,Option.some.injEq] at h
   rw[←h.2]
   exact HP.fwd _ g2 v q hul hv e7
theorem BB:∀n,Sim (fD n) (dH n) n
 |0=>⟨fun s f t l' hs=>absurd hs (by omega),fun s t l hs=>absurd hs (by omega),fun s f t l hs=>absurd hs (by omega)⟩
 |n+1=>by
  have H:=BB n
  have hst:=kW n
  have HP:=vp hst H
  have key:∀s,s.length<n+1→(∀f t l',fD (n+1) s=(some f,t)→aQ t=some l'→∃l f',aQ s=some l∧dH (n+1) (l,false)=(f',(l',false))∧jk f f')∧
    (∀t l,fD (n+1) s=(none,t)→aQ s=some l→(dH (n+1) (l,false)).2.2=true)∧
    (∀f t l,fD (n+1) s=(some f,t)→aQ s=some l→∃l',aQ t=some l'):=by
   intro s hs
   rw[fD]
   cases he:db (fD n) s with
   |mk o u=>
   cases o with
   |none=>
    refine⟨fun f t l' h=>(by cases h),fun t l h hl=> ?_,fun f t l h=>(by cases h)⟩
    have h1:=HP.bad s u l hs he hl
    rw[dH]
    try simp only
    split
    ·exact jN hst _ (cN h1)
    ·split
     ·exact jN hst _ (cN h1)
     ·exact h1
   |some g=>
   have hul:=(hD (dR n) s).length_le
   rw[he] at hul
   have hul':u.length≤s.length:=hul
   have h2l:=(am 42 u).length_le
   have h3l:=(am 43 (isC 42 u).2).length_le
   simp only
   cases h42:(isC 42 u).1 with
   |true=>
    simp only[if_true]
    obtain⟨k1,k2,k3⟩:=BH (k:=2) hst H (c:=42) (by decide) hs he h42 (by omega)
    refine⟨fun f t l' h ht=> ?_,fun t l h hl=> ?_,k3⟩
    ·obtain⟨l,g',lu,f',e1,e2,e3,e4⟩:=k1 f t l' h ht
     refine⟨l,f',e1, ?_,e4⟩
     rw[dH]
     simp only[e2]
     rw[if_pos (by rfl),dS,e3]
    ·obtain⟨g',lu,e2,e3⟩:=k2 t l h hl
     rw[dH]
     simp only[e2]
     rw[if_pos (by rfl),dS]
     exact e3
   |false=>
    simp only[Bool.false_eq_true,if_false]
    have n42:=gO h42
    cases h43:(isC 43 (isC 42 u).2).1 with
    |true=>
     simp only[if_true]
     have hc:(isC 43 u).1=true∧(isC 43 u).2=(isC 43 (isC 42 u).2).2:=by
      have hdd:aw 32 u=aw 32 (isC 42 u).2:=by
       unfold isC at h42⊢
       cases hd:aw 32 u with
       |nil=>rfl
       |cons b r=>
        rw[hd] at h42
        simp only at h42⊢
        split at h42
        ·cases h42
        ·rename_i hb
         rw[if_neg hb,eu (d6 hd)]
      rw[DQ 43 hdd]
      exact⟨h43,rfl⟩
     rw[←hc.2]
     obtain⟨k1,k2,k3⟩:=BH (k:=3) hst H (c:=43) (by decide) hs he hc.1 (by rw[hc.2];omega)
     refine⟨fun f t l' h ht=> ?_,fun t l h hl=> ?_,k3⟩
     ·obtain⟨l,g',lu,f',e1,e2,e3,e4⟩:=k1 f t l' h ht
      refine⟨l,f',e1, ?_,e4⟩
      rw[dH]
      simp only[e2]
      rw[if_neg (by simp),if_pos (by rfl),dS,e3]
     ·obtain⟨g',lu,e2,e3⟩:=k2 t l h hl
      rw[dH]
      simp only[e2]
      rw[if_neg (by simp),if_pos (by rfl),dS]
      exact e3
    |false=>
     simp only[Bool.false_eq_true,if_false]
     have n43:=gO h43
     refine⟨fun f t l' h ht=> ?_,fun t l h=>(by cases h),fun f t l h hl=> ?_⟩
     ·simp only[Prod.mk.injEq,Option.some.injEq] at h
      rw[←h.2] at ht
      have hu:aQ u=some l':=by rw[←n42.1,←n43.1];exact ht
      obtain⟨l,f',e1,e2,e3⟩:=HP.ok s g u l' hs he hu
      refine⟨l,f',e1, ?_,by rw[←h.1];exact e3⟩
      rw[dH]
      simp only[e2]
      rw[if_neg (n42.2 l' hu),if_neg (n43.2 l' (by rw[n42.1];exact hu))]
     ·simp only[Prod.mk.injEq,Option.some.injEq] at h
      obtain⟨lu,hlu⟩:=HP.fwd s g u l hs he hl
      rw[←h.2]
      exact⟨lu,by rw[n43.1,n42.1];exact hlu⟩
  exact⟨fun s f t l' hs=>(key s hs).1 f t l',fun s t l hs=>(key s hs).2.1 t l,fun s f t l hs=>(key s hs).2.2 f t l⟩
theorem rS{s:RS}(h:0≤gA s):s.1.tail.length<s.1.length:=by
 unfold gA at h
 split at h
 ·rename_i e;exact kD e
 ·split at h
  ·rename_i e;exact kD e
  ·split at h
   ·rename_i e;exact kD e
   ·omega
theorem tW{fn fn':RS→Fun×RS}{s:RS}(h:fn (aq [40] s)=fn' (aq [40] s)):inR fn s=inR fn' s:=by
 unfold inR
 rw[h]
theorem xC{fn fn':RS→Fun×RS}{s:RS}(h:∀q:RS,q.1.length<s.1.length→fn q=fn' q):dm fn s=dm fn' s:=by
 unfold dm
 split
 ·rfl
 ·split
  ·rfl
  ·split
   ·rename_i hk
    have h1:=rS hk
    have h2:=(ap [40] (s.1.tail,s.2)).length_le
    simp only at h2
    rw[tW (h _ (by omega))]
   ·split
    ·rename_i e
     rw[tW (h _ (kh e))]
    ·rfl
theorem oZ{fn fn':RS→Fun×RS}{s:RS}(h:∀q:RS,q.1.length<s.1.length→fn q=fn' q):opR fn s=opR fn' s:=by
 unfold opR
 rw[xC h]
theorem tU:∀(n m:Nat) (s:RS),s.1.length<n→s.1.length<m→dH n s=dH m s
 |0,m,s,h,_=>by omega
 |n+1,0,s,_,h=>by omega
 |n+1,m+1,s,h1,h2=>by
  have hq:∀q:RS,q.1.length<s.1.length→dH n q=dH m q:=fun q hq=>tU n m q (by omega) (by omega)
  rw[dH,dH,oZ hq]
  have hx:=(kT (dn m) s).length_le
  generalize opR (dH m) s=x at hx⊢
  have h42:=(ap [42] x.2).length_le
  have h43:=(ap [43] x.2).length_le
  try simp only
  unfold rR
  rw[oZ (s:=aq [42] x.2) (fun q hq'=>hq q (by omega)),oZ (s:=aq [43] x.2) (fun q hq'=>hq q (by omega))]
def Cst(r:RS→Fun×RS):Prop:=∀s:RS,(r s).1.nodes+2*(r s).2.1.length≤1+2*s.1.length
theorem mf(k n:Int):(Fun.mk k n []).nodes=1:=by rw[Fun.nodes_eq];simp[Fun.nodesL]
theorem uv(k n:Int)(f:Fun):(Fun.mk k n [f]).nodes=1+f.nodes:=by rw[Fun.nodes_eq];simp[Fun.nodesL]
theorem qH(k n:Int)(f g:Fun):(Fun.mk k n [f,g]).nodes=1+f.nodes+g.nodes:=by rw[Fun.nodes_eq];simp[Fun.nodesL];omega
section
variable {fn:RS→Fun×RS} (hc:Cst fn)
include hc
theorem BP(s:RS):(inR fn s).1.nodes+2*(inR fn s).2.1.length≤1+2*(aq [40] s).1.length:=by
 have h1:=hc (aq [40] s)
 have h2:=(ap [41] (fn (aq [40] s)).2).length_le
 unfold inR
 simp only
 omega
theorem BW:Cst (dm fn):=by
 intro s
 unfold dm
 split
 ·simp only[mf];omega
 ·split
  ·have:=(ap [88] s).length_le
   simp only[mf];omega
  ·split
   ·rename_i hk
    have h1:=rS hk
    have h2:=(ap [40] (s.1.tail,s.2)).length_le
    have h3:=BP hc (s.1.tail,s.2)
    simp only[uv] at h2⊢
    omega
   ·split
    ·rename_i e
     have h1:=kh e
     have h3:=BP hc s
     omega
    ·have:=(ij s).length_le
     simp only[mf];omega
theorem wa:Cst (opR fn):=by
 intro s
 have h1:=BW hc s
 unfold opR
 simp only
 split
 ·rename_i e
  have h2:=kh e
  have h3:=(ij (aq [94] (dm fn s).2)).length_le
  simp only[uv]
  omega
 ·exact h1
end
theorem oo:∀n,Cst (dH n)
 |0=>fun s=>by rw[dH];simp only[mf];omega
 |n+1=>fun s=>by
  have h1:=wa (oo n) s
  rw[dH]
  try simp only
  split
  ·rename_i e
   have h2:=kh e
   have h3:=wa (oo n) (aq [42] (opR (dH n) s).2)
   unfold rR
   simp only[qH]
   omega
  ·split
   ·rename_i e
    have h2:=kh e
    have h3:=wa (oo n) (aq [43] (opR (dH n) s).2)
    unfold rR
    simp only[qH]
    omega
   ·exact h1
theorem zw(s:List UInt8)(hs:s.length≤1000000):te (s.length+1) s=dx s:=by
 unfold te dx
 by_cases hl:40000<s.length
 ·rw[if_pos hl,if_pos hl]
 rw[if_neg hl,if_neg hl]
 have H:=BB (s.length+1)
 have hsl:s.length<s.length+1:=by omega
 cases hp:fD (s.length+1) s with
 |mk o t=>
 cases htk:aQ s with
 |none=>
  cases o with
  |none=>rfl
  |some f=>
   simp only
   by_cases hd:aw 32 t=[]
   ·exfalso
    have ht:aQ t=some []:=by rw[←ef,hd,fV]
    obtain⟨l,f',h1,_⟩:=H.ok s f t [] hsl hp ht
    rw[htk] at h1
    cases h1
   ·rw[if_neg hd]
 |some l=>
 have hll:=(jX s.length s l (Nat.le_refl _) hs htk).2
 have hfu:dH (l.length+1) (l,false)=dH (s.length+1) (l,false):=tU _ _ _ (by simp) (by simp;omega)
 simp only[hfu]
 cases o with
 |none=>
  have:=H.bad s t l hsl hp htk
  simp[this]
 |some f=>
  obtain⟨lt,hlt⟩:=H.fwd s f t l hsl hp htk
  obtain⟨l2,f',h1,h2,h3⟩:=H.ok s f t lt hsl hp hlt
  rw[htk] at h1
  cases h1
  simp only[h2]
  by_cases hd:aw 32 t=[]
  ·have ht:aQ t=some []:=by rw[←ef,hd,fV]
   rw[hlt] at ht
   cases ht
   have hok:=Gb h3
   rw[if_pos hd,kv,←hok]
   cases hf:okF f with
   |true=>
    have:=q7 f f' h3 (iY hf)
    simp[this]
   |false=>simp
  ·have hne:lt≠[]:=by
    rintro rfl
    apply hd
    rw[←ef] at hlt
    cases hdt:aw 32 t with
    |nil=>rfl
    |cons c r=>
     rw[hdt] at hlt
     obtain⟨q1,q2,q3,_⟩:=kC (d6 hdt) hlt
     cases q3
   rw[if_neg hd]
   simp[hne]
theorem Cv(s:List UInt8)(hs:s.length≤1000000)(l:List (List UInt8))(h:aQ s=some l):(dH (l.length+1) (l,false)).1.nodes≤1000000000:=by
 have h1:=oo (l.length+1) (l,false)
 have h2:=(jX s.length s l (Nat.le_refl _) hs h).2
 simp only at h1
 omega
def dB(i:Nat):List A:=List.replicate i (.int .u8 32)++List.replicate (40001-i) (.int .u8 0)
def bW:List UInt8:=List.replicate 40001 32
theorem lc:bW.length=40001:=List.length_replicate
theorem l0(i:Nat)(h:i≤40001):(dB i).length=40001:=by unfold dB;rw[List.length_append,List.length_replicate,List.length_replicate];omega
theorem xy(i:Nat)(h:i<40001):setCells (dB i) i [.int .u8 32]=dB (i+1):=by
 unfold setCells dB
 have e:40001-i=(40001-(i+1))+1:=by omega
 rw[e,List.replicate_succ]
 have h1:(List.replicate i (A.int .u8 32)).length=i:=List.length_replicate
 rw[show i+[A.int .u8 32].length=i+1 from rfl]
 rw[List.take_left' h1]
 rw[List.drop_append,h1,List.drop_of_length_le (by rw[h1];omega),List.nil_append,show i+1-i=1 by omega,List.drop_one,List.tail_cons]
 rw[List.replicate_succ' (n:=i)]
theorem sY(i nb nr:Nat):(dB i).all (closed nb nr)=true:=by
 unfold dB
 rw[List.all_append,List.all_replicate,List.all_replicate]
 simp
theorem vQ(n:Nat):kV (List.replicate n (.int .u8 32))=some (List.replicate n 32):=by
 induction n with
 |zero=>rfl
 |succ n ih=>rw[List.replicate_succ,kV,ih];rfl
theorem yz:dB 40001=List.replicate 40001 (.int .u8 32):=by unfold dB;rw[Nat.sub_self,List.replicate_zero,List.append_nil]
theorem v6(bx:List (List A))(R:List Row):dW Tryz.prog 40 (.int .i64 40001) (.int .i64 40001) ⟨bx,R⟩=some (.sl R.length 40001 0 40001,⟨bx,R++[⟨5,dB 0⟩]⟩):=by
 have hf:(List.replicate 40001 [A.int .u8 0]).flatten=dB 0:=by
  unfold dB
  rw[List.replicate_zero,List.nil_append,Nat.sub_zero]
  generalize 40001=n
  induction n with
  |zero=>rfl
  |succ n ih=>rw[List.replicate_succ,List.flatten_cons,ih];rfl
 unfold dW
 simp[-List.reduceReplicate,-List.flatten_replicate_singleton,hf]
theorem yv(bx:List (List A))(R:List Row)(t:TypeId):pG Tryz.prog 40 9 (.sl R.length 40001 0 40001) ⟨bx,R++[⟨t,dB 40001⟩]⟩=some (.str bW):=by
 have h1:=l0 40001 (by omega)
 have h2:kV ((dB 40001).take 40001)=some (List.replicate 40001 32):=by
  rw[List.take_of_length_le (by omega),yz,vQ]
 have h3:(List.replicate 40001 (32:Int)).map (fun b=>UInt8.ofNat b.toNat)=bW:=by
  rw[List.map_replicate];rfl
 unfold pG
 simp[-List.reduceReplicate,gJ,di,h1,h2,h3]
attribute [irreducible] dB bW
def tyW:List UInt8:=[116,121,112,101]
def nR(F:Fun)(rs:List (List UInt8)):Option (Fun×List Val)×Int:=
 if rs.all (fun s=>(bz F s).2) then
  (if(rs.all fun s=>decide ((bw F rs.length (bz F s).1).2=0))&&okS F (rs.map fun s=>(bw F rs.length (bz F s).1).1) then(some (F,rs.map fun s=>(bw F rs.length (bz F s).1).1),0) else(none,30))
 else(none,11)
def kM:List (List UInt8)→Option (Fun×List Val)×Int
 |[]=>(none,11)
 |l::ls=>
  if(aO l tyW).2=false∨(dx (aO l tyW).1).2=11 then(none,11) else
  match cF ls 0 with
  |none=>(none,11)
  |some rs=>if(dx (aO l tyW).1).2≠0∨100<rs.length then(none,30) else nR (dx (aO l tyW).1).1 rs
def jF(t:List UInt8):Option (Fun×List Val)×Int:=if 40000<t.length then(none,2) else kM (jH t)
def gR(F:Fun)(e:Int)(n:Nat):List (List UInt8)→Nat→List Val→Bool→Option (Fun×List Val)×Int
 |[],_,acc,good=>if good&&okS F acc then(some (F,acc),0) else(none,30)
 |l::r,x,acc,good=>
  match lj l x with
  |none=>(none,11)
  |some s=>if e≠0∨100<n then gR F e n r (x+1) acc good else
   if(jc F n s).2=11 then(none,11) else gR F e n r (x+1) (acc++[(jc F n s).1]) (good&&decide ((jc F n s).2=0))
theorem zL(F:Fun)(n:Int)(v:Val):(bw F n v).2≠11:=by
 unfold bw
 split
 ·split
  ·simp
  ·split<;>simp
 ·simp
theorem nj{F:Fun}{e:Int}{n:Nat}(h:e≠0∨100<n):∀(l:List (List UInt8)) (x:Nat) (acc:List Val),gR F e n l x acc false=match cF l x with|none=>(none,11)|some _=>(none,30)
 |[],x,acc=>by rw[gR,cF];rfl
 |l::r,x,acc=>by
  rw[gR,cF]
  cases hn:lj l x with
  |none=>rfl
  |some s=>
   simp only[Option.bind_some]
   rw[if_pos h,nj h r]
   cases cF r (x+1)<;>rfl
theorem lD{F:Fun}{n:Nat}(hn:n≤100)(hf:au F=true):∀(l:List (List UInt8)) (x:Nat) (acc:List Val) (good:Bool),(∀q∈l,q.length≤40000)→
  gR F 0 n l x acc good=match cF l x with
   |none=>(none,11)
   |some rs=>if rs.all (fun s=>(bz F s).2) then
     (if(good&&(rs.all fun s=>decide ((bw F n (bz F s).1).2=0)))&&okS F (acc++rs.map fun s=>(bw F n (bz F s).1).1) then(some (F,acc++rs.map fun s=>(bw F n (bz F s).1).1),0) else(none,30)) else(none,11)
 |[],x,acc,good,_=>by rw[gR,cF];simp
 |l::r,x,acc,good,hl=>by
  have hno:¬((0:Int)≠0∨100<n):=by omega
  rw[gR,cF]
  cases hm:lj l x with
  |none=>rfl
  |some s=>
   have hs:s.length≤40000:=by
    have h1:=hl l List.mem_cons_self
    have h2:∀w q,(aO q w).1.length≤q.length:=fun w q=>by
     have:=bf 32 q
     unfold aO
     split<;>simp<;>omega
    unfold lj at hm
    split at hm
    ·split at hm
     ·rw[←Option.some.inj hm]
      have h3:=h2 [61] (aO l (Lib.itoa x)).1
      have h4:=h2 (Lib.itoa x) l
      omega
     ·cases hm
    ·cases hm
   have hsm:Sm s:=by unfold Sm;omega
   obtain⟨r1,r2⟩:=pq hf hsm
   have hrv:jc F n s=if(bz F s).2 then bw F n (bz F s).1 else(bO,11):=by
    unfold jc
    rw[if_neg (by omega)]
    cases h5:(bz F s).2
    ·rw[h5] at r1;simp[r1]
    ·rw[h5] at r1;simp[r1,r2 h5]
   simp only[Option.bind_some]
   rw[if_neg hno,hrv]
   cases h5:(bz F s).2
   ·have ih:=lD hn hf r (x+1) acc good fun q hq=>hl q (List.mem_cons_of_mem _ hq)
    simp only[Bool.false_eq_true,if_false,if_true]
    cases cF r (x+1) with
    |none=>rfl
    |some rs=>simp[h5]
   ·have ih:=lD hn hf r (x+1) (acc++[(bw F n (bz F s).1).1]) (good&&decide ((bw F n (bz F s).1).2=0)) fun q hq=>hl q (List.mem_cons_of_mem _ hq)
    simp only[if_true]
    rw[if_neg (zL _ _ _),ih]
    cases cF r (x+1) with
    |none=>rfl
    |some rs=>simp[h5,Bool.and_assoc]
theorem uR:∀(n:Nat) (t:List UInt8),t.length≤n→∀q∈jH t,q.length≤t.length
 |n,t,hn,q,hq=>by
  rw[gU] at hq
  rcases List.mem_cons.1 hq with rfl|hq
  ·exact oh t
  ·split at hq
   ·cases hq
   ·rename_i h
    have h1:=oV h
    cases n with
    |zero=>omega
    |succ n=>
     have:=uR n (bm t).2 (by omega) q hq
     omega
def Cf(t:List UInt8):Option (Fun×List Val)×Int:=
 if 40000<t.length then(none,2) else
 match eI [] t with
 |[]=>(none,11)
 |l::ls=>
  if(aO l tyW).2=false∨(dx (aO l tyW).1).2=11 then(none,11) else
  gR (dx (aO l tyW).1).1 (dx (aO l tyW).1).2 ls.length ls 0 [] (decide ((dx (aO l tyW).1).2=0)&&decide (ls.length≤100))
theorem xo{s:List UInt8}(h:(dx s).2=0):au (dx s).1=true:=by
 unfold dx at h⊢
 split at h
 ·cases h
 ·rename_i h0
  rw[if_neg h0]
  split at h
  ·cases h
  ·rename_i l hl
   dsimp only at h⊢
   split at h
   ·cases h
   ·rename_i h1
    rw[if_neg h1]
    split at h
    ·rename_i h2
     rw[if_pos h2]
     unfold isF at h2
     rw[Bool.and_eq_true] at h2
     exact h2.2
    ·cases h
theorem ED(t:List UInt8):Cf t=jF t:=by
 unfold Cf jF
 by_cases hb:40000<t.length
 ·rw[if_pos hb,if_pos hb]
 rw[if_neg hb,if_neg hb]
 by_cases ht:t=[]
 ·subst ht
  rw[gU]
  simp[eI,bm,kM,aO,aw,tyW]
 rw[sF t.length t (Nat.le_refl _) ht]
 have hbd:=uR t.length t (Nat.le_refl _)
 generalize jH t=L at hbd⊢
 cases L with
 |nil=>rfl
 |cons l ls=>
  simp only[kM]
  by_cases h1:(aO l tyW).2=false∨(dx (aO l tyW).1).2=11
  ·rw[if_pos h1,if_pos h1]
  rw[if_neg h1,if_neg h1]
  by_cases h2:(dx (aO l tyW).1).2≠0∨100<ls.length
  ·have hg:(decide ((dx (aO l tyW).1).2=0)&&decide (ls.length≤100))=false:=by
    rcases h2 with h2|h2
    ·rw[decide_eq_false h2];rfl
    ·rw[decide_eq_false (show ¬ls.length≤100 by omega),Bool.and_false]
   rw[hg,nj h2]
   cases hm:cF ls 0 with
   |none=>rfl
   |some rs=>
    have:=gh _ _ _ hm
    simp only[this]
    rw[if_pos h2]
  ·have h3:(dx (aO l tyW).1).2=0:=by omega
   have h4:ls.length≤100:=by omega
   have hsh:=xo h3
   rw[h3,decide_eq_true rfl,decide_eq_true h4,lD h4 hsh ls 0 [] _ fun q hq=>by have:=hbd q (List.mem_cons_of_mem _ hq);omega]
   cases hm:cF ls 0 with
   |none=>rfl
   |some rs=>
    have hl:=gh _ _ _ hm
    simp only[hl]
    rw[if_neg (show ¬((0:Int)≠0∨100<ls.length) by omega)]
    simp[nR,hl]
theorem B3(q:List UInt8)(hq:q.length≤1000000)(m:Mem):ai C0 57 [.str q] m=some (.ret (.tup [.agg (dx q).1.cells,.int .i64 (dx q).2]),m):=by
 have e1:=Ep (q.length+1) q hq (by omega) m
 rw[zw q hq] at e1
 exact e1
def zS:List A:=[.int .i64 0,.int .i64 0,.nils,.nils]
def uX(acc:List (List UInt8)):A:=match acc with|[]=> .nils|l=> .sl 0 l.length 0 l.length
def uD(acc:List (List UInt8)):List Row:=match acc with|[]=>[]|l=>[⟨9,bv l⟩]
def lR(t:List UInt8):Mem:=⟨[zS,[.int .i64 0],zS,[.nils],[.bool true],[.str t]],[]⟩
def fW(F:Fun)(fits:Bool)(t:List UInt8)(acc:List (List UInt8)):Mem:=
 ⟨[zS,[.int .i64 0],[.int .i64 F.kind,.int .i64 F.num,.isl false F.args.length (Fun.cellsL F.args),.nils],[uX acc],[.bool fits],[.str t],[.int .i64 F.kind,.int .i64 F.num,.isl false F.args.length (Fun.cellsL F.args)]],uD acc⟩
def TMp(t:List UInt8):List (Nat×A):=[(28,.fn dI [.ptr 5 0]),(27,.str t),(0,.str t),(2,.ptr 0 0),(3,.ptr 1 0),(4,.ptr 2 0),(5,.ptr 3 0),(6,.ptr 4 0)]
def mT(m:Mem):Prop:=∃b r,m=⟨zS::[.int .i64 11]::b,r⟩
set_option maxHeartbeats 4000000 in
theorem Fs(t0:List UInt8)(F:Fun)(fits:Bool)(rest:List UInt8)(acc:List (List UInt8))(x:Nat)(line:List UInt8)(hl:line.length≤40000)(hx:x≤100000)(ha:acc.length≤100000):
  ∃y,fo (ak C0 aS 140) pP.ps.toList pP.assign pP.body (TMp t0) [.int .i64 ((x:Int)+1),.str line] (fW F fits rest acc)=some y∧
   (match lj line x with|some s=>y=(.normal,fW F fits rest (acc++[s]))|none=>y.1= .ret∧mT y.2):=by
 show ∃y,fo (ak C0 19 140) _ _ _ _ _ _=_∧_
 have w1:IntKind.i64.wrap (x:Int)=x:=al _ (by omega)
 have h0:¬(x:Int)+1=0:=by omega
 have hi:=om (x:Int) (by omega) (by omega)
 have hil:(Lib.itoa (x:Int)).length≤7:=je (by omega) (by omega)
 have hw:=wk line (Lib.itoa x) (by omega) (by omega)
 have hd:(aO line (Lib.itoa x)).1.length≤line.length:=by
  have:=bf 32 line
  unfold aO
  split<;>simp<;>omega
 have hw2:=wk (aO line (Lib.itoa x)).1 [61] (by omega) (by simp)
 unfold lj
 cases h1:(aO line (Lib.itoa x)).2 with
 |false=>
  rw[h1] at hw
  simp[fo,sU,pP,pRF,pB5,pB,bE,sq1,sq2,fw,lM,ic,zj,Tryz.f19,a19,reg19,loop19,draw19,dok19,TMp,fW,zS,w1,h0,hi,hw,mT]
 |true=>
  rw[h1] at hw
  cases h2:(aO (aO line (Lib.itoa x)).1 [61]).2 with
  |false=>
   rw[h2] at hw2
   simp[fo,sU,pP,pRF,pB5,pB,bE,sq1,sq2,fw,lM,ic,zj,Tryz.f19,a19,reg19,loop19,draw19,dok19,TMp,fW,zS,w1,h0,hi,hw,hw2,mT]
  |true=>
   rw[h2] at hw2
   cases acc with
   |nil=>simp[fo,sU,pP,pRF,pB5,pB,bE,sq1,sq2,fw,lM,ic,zj,Tryz.f19,a19,reg19,loop19,draw19,dok19,TMp,fW,zS,w1,h0,hi,hw,hw2,uX,uD]
   |cons a acc=>
    simp at ha
    have h4:(acc.length+1+1)*16≤70368744177664:=by omega
    have h5:acc.length+1+1≤70368744177664:=by omega
    simp[fo,sU,pP,pRF,pB5,pB,bE,sq1,sq2,fw,lM,ic,zj,Tryz.f19,a19,reg19,loop19,draw19,dok19,TMp,fW,zS,w1,h0,hi,hw,hw2,uX,uD,h4,h5,bP]
set_option maxHeartbeats 4000000 in
theorem FJ(t0:List UInt8)(line:List UInt8)(hl:line.length≤40000):
  ∃y,fo (ak C0 aS 140) pP.ps.toList pP.assign pP.body (TMp t0) [.int .i64 0,.str line] (lR t0)=some y∧
   (if(aO line tyW).2=false∨(dx (aO line tyW).1).2=11 then y.1= .ret∧mT y.2 else y=(.normal,fW (dx (aO line tyW).1).1 (decide ((dx (aO line tyW).1).2=0)) t0 [])):=by
 show ∃y,fo (ak C0 19 140) _ _ _ _ _ _=_∧_
 have hw:=wk line tyW (by omega) (by simp[tyW])
 have hd:(aO line tyW).1.length≤line.length:=by
  have:=bf 32 line
  unfold aO
  split<;>simp<;>omega
 have hp:=(B3 (aO line tyW).1 (by omega))
 cases h1:(aO line tyW).2 with
 |false=>
  rw[h1] at hw
  simp[tyW] at hw hp
  simp[fo,sU,pP,pRF,pB5,pB,bE,sq1,sq2,fw,lM,ic,zj,Tryz.f19,a19,reg19,loop19,draw19,dok19,TMp,lR,zS,hw,hp,mT]
 |true=>
  rw[h1] at hw
  simp[tyW] at hw hp
  by_cases h2:(dx (aO line tyW).1).2=11
  ·simp[tyW] at h2
   simp[fo,sU,pP,pRF,pB5,pB,bE,sq1,sq2,fw,lM,ic,zj,Tryz.f19,a19,reg19,loop19,draw19,dok19,TMp,lR,zS,hw,hp,h2,mT,tyW]
  ·simp[tyW] at h2
   simp[fo,sU,pP,pRF,pB5,pB,bE,sq1,sq2,fw,lM,ic,zj,Tryz.f19,a19,reg19,loop19,draw19,dok19,TMp,lR,fW,zS,hw,hp,h2,uX,uD,tyW]
   exact decide_eq_decide.2 Iff.rfl
def itP(l:Nat)(i:Int):List (Nat×A):=[(0,.yld l),(1,.ptr 5 0),(3,.int .i64 i)]
theorem Hu(l:Nat)(i:Int)(hi:¬i=0)(F:Fun)(fits:Bool)(acc:List (List UInt8)):ak C0 dI 27 pP.hd ⟨itP l i,fW F fits [] acc⟩=some (.exit 0,⟨[(0,.yld l),(1,.ptr 5 0),(3,.int .i64 i),(12,.bool false)],fW F fits [] acc⟩):=by
 show ak C0 98 27 _ _=_
 simp[pP,lB,lL,lIn,fw,pB,bE,sq1,sq2,Tryz.f98,a98,reg98,loop98,fW,itP,hi]
theorem FG(l:Nat)(i:Int)(hi:¬i=0)(F:Fun)(fits:Bool)(rest:List UInt8)(hr:¬rest=[])(acc:List (List UInt8)):ak C0 dI 27 pP.hd ⟨itP l i,fW F fits rest acc⟩=some (.normal,⟨[(0,.yld l),(1,.ptr 5 0),(3,.int .i64 i),(12,.bool true)],fW F fits rest acc⟩):=by
 show ak C0 98 27 _ _=_
 simp[pP,lB,lL,lIn,fw,pB,bE,sq1,sq2,Tryz.f98,a98,reg98,loop98,fW,itP,hi,hr]
theorem Fv(l:Nat)(i:Int)(F:Fun)(fits:Bool)(rest:List UInt8)(hr:rest.length≤1000000)(acc:List (List UInt8)):ak C0 dI 27 pP.I3 ⟨[(0,.yld l),(1,.ptr 5 0),(3,.int .i64 i),(12,.bool true)],fW F fits rest acc⟩=
  some (.normal,⟨[(0,.yld l),(1,.ptr 5 0),(3,.int .i64 i),(4,.str (bm rest).1),(5,.str (bm rest).2)],fW F fits rest acc⟩):=by
 have hc:=yE rest (by omega)
 show ak C0 98 27 _ _=_
 simp[pP,lB,lL,lIn,fw,pB,bE,sq1,sq2,Tryz.f98,a98,reg98,loop98,fW,hc]
theorem A5(l:Nat)(i:Int)(F:Fun)(fits:Bool)(rest a b:List UInt8)(acc:List (List UInt8)):ak C0 dI 27 pP.I5 ⟨tm4 true [(0,.yld l),(1,.ptr 5 0),(3,.int .i64 i),(4,.str a),(5,.str b)],fW F fits rest acc⟩=some (.normal,⟨itP l i,fW F fits b acc⟩):=by
 show ak C0 98 27 _ _=_
 simp[pP,lB,lL,lIn,fw,pB,bE,sq1,sq2,Tryz.f98,a98,reg98,loop98,fW,tm4,itP]
theorem Bq(l:Nat)(i:Nat)(hi:i≤1000000)(m:Mem):∃tm,ak C0 dI 27 pP.I2 ⟨itP l i,m⟩=some (.normal,⟨tm,m⟩)∧prune (some [0,1,3]) tm=itP l ((i:Int)+1):=by
 have w:IntKind.i64.wrap ((i:Int)+1)=i+1:=al _ (by omega)
 show ∃tm,ak C0 98 27 _ _=_∧_
 simp[pP,lB,lL,lIn,fw,pB,bE,sq1,sq2,Tryz.f98,a98,reg98,loop98,itP,w]
def iW(t:List UInt8):List (List UInt8):=if t=[] then [] else jH t
theorem yb{t:List UInt8}(h:¬t=[]):iW t=(bm t).1::iW (bm t).2:=by
 unfold iW
 rw[if_neg h,gU]
theorem uu(t0:List UInt8)(l:Nat)(F:Fun)(fits:Bool):∀(n:Nat) (rest:List UInt8) (acc:List (List UInt8)) (x:Nat),rest.length<n→x+rest.length≤100000→acc.length+rest.length≤100000→rest.length≤40000→
  ∃ls y,jg (ak C0 aS 140) (ak C0 dI 27) pP.ps.toList pP.assign pP.body (TMp t0) pP.hd pP.I3 pP.I5 pP.I2 n (itP l ((x:Int)+1)) (fW F fits rest acc)=some (ls,y)∧(∀z∈ls,z=l)∧
   (match cF (iW rest) x with|some rs=>y=(.normal,fW F fits [] (acc++rs))|none=>y.1= .ret∧mT y.2)
 |0,rest,acc,x,h,_,_,_=>absurd h (Nat.not_lt_zero _)
 |n+1,rest,acc,x,h,hx,ha,hr=>by
  have h0:¬(x:Int)+1=0:=by omega
  rw[jg]
  by_cases he:rest=[]
  ·subst he
   rw[Hu l _ h0]
   refine⟨[],_,rfl, ?_, ?_⟩
   ·intro z hz
    cases hz
   ·simp[iW,cF]
  have hp:0<rest.length:=List.length_pos_iff.2 he
  have hc1:=oh rest
  have hc2:=kG rest
  obtain⟨y,hy1,hy2⟩:=Fs t0 F fits rest acc x (bm rest).1 (by omega) (by omega) (by omega)
  rw[FG l _ h0 F fits rest he acc]
  simp only
  rw[Fv l _ F fits rest (by omega) acc]
  simp only[lk,if_true,show ¬(1:Nat)=0 by decide,show ¬(0:Nat)=3 by decide,show ¬(1:Nat)=3 by decide,show ¬(0:Nat)=4 by decide,show ¬(1:Nat)=4 by decide,show ¬(3:Nat)=4 by decide,if_false]
  rw[hy1,yb he,cF]
  cases hn:lj (bm rest).1 x with
  |none=>
   rw[hn] at hy2
   obtain⟨y1,y2⟩:=y
   obtain⟨rfl,hb⟩:=hy2
   exact⟨_,_,rfl,fun z hz=>by simpa using hz,rfl,hb⟩
  |some s=>
   rw[hn] at hy2
   subst hy2
   simp only
   rw[A5]
   simp only
   obtain⟨tm,ht1,ht2⟩:=Bq l (x+1) (by omega) (fW F fits (bm rest).2 (acc++[s]))
   have e:((x+1:Nat):Int)=(x:Int)+1:=by omega
   rw[e] at ht1 ht2
   rw[ht1]
   simp only
   rw[ht2]
   obtain⟨ls,z,hz1,hz2,hz3⟩:=uu t0 l F fits n (bm rest).2 (acc++[s]) (x+1) (by omega) (by omega) (by simp;omega) (by omega)
   rw[e] at hz1
   rw[hz1]
   refine⟨_,_,rfl,fun w hw=> ?_, ?_⟩
   ·rcases List.mem_cons.1 hw with rfl|hw
    ·rfl
    ·exact hz2 w hw
   ·simp only[Option.bind_some]
    cases hm:cF (iW (bm rest).2) (x+1) with
    |none=>rw[hm] at hz3;exact hz3
    |some rs=>rw[hm] at hz3;simpa using hz3
theorem DP(l:Nat)(t:List UInt8):ak C0 dI 27 pP.I0 ⟨bi 0 [.yld l,.ptr 5 0],lR t⟩=some (.normal,⟨itP l 0,lR t⟩):=by
 show ak C0 98 27 _ _=_
 simp[pP,lB,lL,lIn,fw,pB,bE,sq1,sq2,Tryz.f98,a98,reg98,loop98,lR,itP,bi]
theorem Lj(l:Nat)(t:List UInt8):∃b,ak C0 dI 27 pP.hd ⟨itP l 0,lR t⟩=some (.normal,⟨[(0,.yld l),(1,.ptr 5 0),(3,.int .i64 0),(12,.bool b)],lR t⟩):=by
 show ∃b,ak C0 98 27 _ _=_
 by_cases h:t=[]
 ·simp[pP,lB,lL,lIn,fw,pB,bE,sq1,sq2,Tryz.f98,a98,reg98,loop98,lR,itP,h]
 ·simp[pP,lB,lL,lIn,fw,pB,bE,sq1,sq2,Tryz.f98,a98,reg98,loop98,lR,itP,h]
theorem La(l:Nat)(b:Bool)(t:List UInt8)(hr:t.length≤1000000):ak C0 dI 27 pP.I3 ⟨[(0,.yld l),(1,.ptr 5 0),(3,.int .i64 0),(12,.bool b)],lR t⟩=
  some (.normal,⟨[(0,.yld l),(1,.ptr 5 0),(3,.int .i64 0),(4,.str (bm t).1),(5,.str (bm t).2)],lR t⟩):=by
 have hc:=yE t (by omega)
 show ak C0 98 27 _ _=_
 simp[pP,lB,lL,lIn,fw,pB,bE,sq1,sq2,Tryz.f98,a98,reg98,loop98,lR,hc]
theorem ET(t:List UInt8)(l:Nat)(ht:t.length≤40000):
  ∃ls y,jg (ak C0 aS 140) (ak C0 dI 27) pP.ps.toList pP.assign pP.body (TMp t) pP.hd pP.I3 pP.I5 pP.I2 (t.length+2) (itP l 0) (lR t)=some (ls,y)∧(∀z∈ls,z=l)∧
   (if(aO (bm t).1 tyW).2=false∨(dx (aO (bm t).1 tyW).1).2=11 then y.1= .ret∧mT y.2 else
    match cF (iW (bm t).2) 0 with
    |some rs=>y=(.normal,fW (dx (aO (bm t).1 tyW).1).1 (decide ((dx (aO (bm t).1 tyW).1).2=0)) [] rs)
    |none=>y.1= .ret∧mT y.2):=by
 have hc1:=oh t
 have hc2:=kG t
 obtain⟨y,hy1,hy2⟩:=FJ t (bm t).1 (by omega)
 obtain⟨b,hb⟩:=Lj l t
 rw[jg,hb]
 simp only
 rw[La l b t (by omega)]
 simp only[lk,if_true,show ¬(1:Nat)=0 by decide,show ¬(0:Nat)=3 by decide,show ¬(1:Nat)=3 by decide,show ¬(0:Nat)=4 by decide,show ¬(1:Nat)=4 by decide,show ¬(3:Nat)=4 by decide,if_false]
 rw[hy1]
 by_cases hw:(aO (bm t).1 tyW).2=false∨(dx (aO (bm t).1 tyW).1).2=11
 ·rw[if_pos hw] at hy2
  obtain⟨y1,y2⟩:=y
  obtain⟨rfl,hb⟩:=hy2
  exact⟨_,_,rfl,fun z hz=>by simpa using hz,by rw[if_pos hw];exact⟨rfl,hb⟩⟩
 ·rw[if_neg hw] at hy2
  subst hy2
  simp only
  rw[A5]
  simp only
  obtain⟨tm,ht1,ht2⟩:=Bq l 0 (by omega) (fW (dx (aO (bm t).1 tyW).1).1 (decide ((dx (aO (bm t).1 tyW).1).2=0)) (bm t).2 [])
  have e:((0:Nat):Int)=0:=rfl
  rw[e] at ht1 ht2
  rw[ht1]
  simp only
  rw[ht2]
  obtain⟨ls,z,hz1,hz2,hz3⟩:=uu t l (dx (aO (bm t).1 tyW).1).1 (decide ((dx (aO (bm t).1 tyW).1).2=0)) (t.length+1) (bm t).2 [] 0 (by omega) (by omega) (by simp;omega) (by omega)
  rw[e] at hz1
  rw[hz1]
  refine⟨_,_,rfl,fun w hv=> ?_, ?_⟩
  ·rcases List.mem_cons.1 hv with rfl|hv
   ·rfl
   ·exact hz2 w hv
  ·rw[if_neg hw]
   exact hz3
def iX:List Val→List Val→Bool
 |[],[]=>true
 |f::r,g::s=>decide (aY f g=0)&&iX r s
 |_,_=>false
theorem ve:∀{l r:List Val},¬l.length=r.length→iX l r=false
 |[],[],h=>absurd rfl h
 |[],_::_,_=>rfl
 |_::_,[],_=>rfl
 |f::r,g::s,h=>by rw[iX,ve (by simpa using h),Bool.and_false]
theorem yX{l r:List Val}{i:Nat}(h:i<l.length)(h':i<r.length):iX (l.drop i) (r.drop i)=(decide (aY l[i] r[i]=0)&&iX (l.drop (i+1)) (r.drop (i+1))):=by
 rw[List.drop_eq_getElem_cons h,List.drop_eq_getElem_cons h',iX]
def AY(f g:Fun)(vs ws:List Val):Bool:=lp f g&&iX vs ws
set_option maxHeartbeats 1000000 in
theorem vc(f g:Fun)(vs ws:List Val)(hf:f.nodes≤1000000)(hb:Val.nodesL vs≤1000000)(hs:∀v∈vs,aP v)(m:Mem):
  ai C0 16 [.agg (eG f (.isl false vs.length (Val.cellsL vs))),.agg (eG g (.isl false ws.length (Val.cellsL ws)))] m=some (.ret (.bool (AY f g vs ws)),m):=by
 rw[ab C0 (aj _ (by decide)) (by rw[ay];exact Tryz.func16) rfl (by rw[ae];rfl) (by rw[ae];rfl) (by decide) (by simp[Tryz.f16])]
 have h1:=xN f.nodes f g (Nat.le_refl _) (by omega)
 have hl:=Val.length_nodesL vs
 simp at h1
 unfold AY
 cases hc:lp f g
 ·simp[Tryz.f16,a16,reg16,loop16,draw16,dok16,h1,hc]
 by_cases c1:vs.length=ws.length
 case neg=>
  have d1:¬(vs.length:Int)=ws.length:=by omega
  simp[Tryz.f16,a16,reg16,loop16,draw16,dok16,h1,hc,d1,ve c1]
 have d1:(vs.length:Int)=ws.length:=by omega
 simp[Tryz.f16,a16,reg16,loop16,draw16,dok16,h1,hc,eq_true d1]
 refine aC (fun i:Nat=>⟨[(2,.ptr m.bx.length 0),(3,.ptr (m.bx.length+1) 0),(23,.int .i64 vs.length),(24,.int .i64 i)],⟨m.bx++[eG f (.isl false vs.length (Val.cellsL vs)),eG g (.isl false ws.length (Val.cellsL ws))],m.rw⟩⟩)
  (fun i=>some (.ret (.bool (iX (vs.drop i) (ws.drop i))),m)) (fun i=>vs.length-i) (fun i=>i≤vs.length) 0 ?_ ?_ ?_ ?_ ?_
 ·simp
 ·simp
 ·omega
 ·intro x;simp[Tryz.f16,a16,reg16,loop16,draw16,dok16]
 ·intro i hi hrec
  by_cases hlt:i<vs.length
  ·have w2:IntKind.i64.wrap (i+1)=i+1:=al _ (by omega)
   have hlt':i<ws.length:=by omega
   have hmem:=List.getElem_mem hlt
   have he:=uJ vs[i] ws[i] (by have:=Val.nodes_mem hmem;omega) (hs _ hmem)
   simp at he
   have h3:(i+1)*3≤vs.length*3:=by omega
   have h3':(i+1)*3≤ws.length*3:=by omega
   rw[yX hlt hlt']
   by_cases hc:aY vs[i] ws[i]=0
   ·simp[hc] at he
    simp[round,Tryz.f16,a16,reg16,loop16,draw16,dok16,hlt,hlt',w2,h3,h3',he,hc]
    refine hrec (i+1) _ _ ?_ ?_ ?_ ?_
    ·omega
    ·omega
    ·simp
    ·simp
   ·simp[hc] at he
    simp[round,Tryz.f16,a16,reg16,loop16,draw16,dok16,hlt,hlt',w2,h3,h3',he,hc]
  ·clear hrec
   simp[round,Tryz.f16,a16,reg16,loop16,draw16,dok16,hlt]
   rw[List.drop_eq_nil_of_le (by omega),List.drop_eq_nil_of_le (by omega),iX]
theorem zM(f:Fun)(hf:f.nodes≤1000000)(m:Mem):ai C0 43 [.agg (eG f .nils)] m=some (.ret (.bool (okS f [])),m):=by
 rw[ab C0 (aj _ (by decide)) (by rw[ay];exact Tryz.func43) rfl (by rw[ae];rfl) (by rw[ae];rfl) (by decide) (by simp[Tryz.f43])]
 have hv:=oA f (by omega)
 simp at hv
 cases hc:okF f
 ·simp[Tryz.f43,a43,reg43,loop43,hv,hc,okS]
 ·simp[Tryz.f43,a43,reg43,loop43,hv,hc]
  rw[aG]
  simp[round,Tryz.f43,a43,reg43,loop43,okS,hc,nG,Val.nodesL]
theorem Dh(f:Fun)(hf:f.nodes≤1000000)(m:Mem):ai C0 26 [.agg (eG f .nils)] m=some (.ret (.bool (okS f [])),m):=by
 rw[ab C0 (aj _ (by decide)) (by rw[ay];exact Tryz.func26) rfl (by rw[ae];rfl) (by rw[ae];rfl) (by decide) (by simp[Tryz.f26])]
 have hv:=Bg f (by omega)
 rw[show(decide (0<fj f 21)&&decide (f.depth≤8)&&au f)=isF f from rfl,kv] at hv
 simp at hv
 cases hc:okF f
 ·simp[Tryz.f26,a26,reg26,loop26,hv,hc,okS]
 ·simp[Tryz.f26,a26,reg26,loop26,hv,hc]
  rw[aG]
  simp[round,Tryz.f26,a26,reg26,loop26,okS,hc,nG,Val.nodesL]
def cS(o:Option (Fun×List Val)×Int):A:= .tup [.agg (match o.1 with|none=>[.int .i64 0,.int .i64 0,.isl false 0 [],.isl false 0 []]|some p=>eG p.1 (.isl false p.2.length (Val.cellsL p.2))),.int .i64 o.2]
theorem eA(x:Res)(B:List (List A))(R:List Row):bC Tryz.prog false ⟨[],[]⟩ x ⟨B,R⟩=some (erR (er Tryz.prog 0 0 R 4) x,⟨[],[]⟩):=by
 have:=nN Tryz.prog ⟨[],[]⟩ B R x
 simpa using this
theorem kw {l:List Nat} {m0 m:Mem} {tm:List (Nat×A)} (hL:m0.bx.length≤m.bx.length) (hl:l.all (fun t=>closed m0.bx.length m.rw.length (lk t tm))=true)
  (hc:(m.bx.take m0.bx.length).all (fun cs=>cs.all (closed m0.bx.length m.rw.length))=true) (hr:m.rw.all (fun r=>r.cs.all (closed m0.bx.length m.rw.length))=true):
  endRound (some l) m0 ⟨tm,m⟩=some ⟨prune (some l) tm,⟨m.bx.take m0.bx.length,m.rw⟩⟩:=by
 have h:=du (B:=[]) (L:=m0.bx) (L':=m.bx) (R:=[]) (R0:=m0.rw) (R':=m.rw) (l:=l) (tm:=tm) hL (by simpa using hl) (by simpa using hc) (by simpa using hr)
 simpa using h
theorem oN{l:List (List UInt8)}{i:Nat}(h:i<l.length):((bv l).drop i).take 1=[.str l[i]]:=by
 rw[List.drop_eq_getElem_cons (by simpa using h)]
 simp[bv]
theorem EU{rs:List (List UInt8)}(h:cy rs≤40000){s:List UInt8}(hs:s∈rs):Sm s:=by
 have:s.length≤cy rs:=gk hs
 unfold Sm
 omega
theorem CW(f:Fun)(n:Int)(v:Val)(hf:au f=true)(hb:v.nodes≤1000000)(hs:aP v)(m:Mem):ai C0 59 [.agg f.cells,.int .i64 n,.agg v.cells] m=some (.ret (.tup [.agg (bw f n v).1.cells,.int .i64 (bw f n v).2]),m):=by
 rw[ab C0 (aj _ (by decide)) (by rw[ay];exact Tryz.func59) rfl (by rw[ae];rfl) (by rw[ae];rfl) (by decide) (by simp[Tryz.f59])]
 have h:=AN f n v hf hb hs
 simp at h
 simp[Tryz.f59,a59,reg59,h]
theorem Ee{F:Fun}{rs:List (List UInt8)}{vs:List Val}(hvs:vs=rs.map fun s=>(bz F s).1)(hrs:cy rs≤40000){v:Val}(hv:v∈vs):v.nodes≤1000000∧aP v:=by
 subst hvs
 obtain⟨s,hs,rfl⟩:=List.mem_map.1 hv
 have h1:=kU (f:=F) (EU hrs hs)
 have h2:s.length≤cy rs:=gk hs
 exact⟨by omega,h1.2⟩
theorem DJ{F:Fun}{rs:List (List UInt8)}{vs:List Val}(hvs:vs=rs.map fun s=>(bz F s).1)(hall:∀s∈rs,(bz F s).2=true){v:Val}(hv:v∈vs)(h:¬(bw F rs.length v).2=0):nR F rs=(none,30):=by
 subst hvs
 obtain⟨s,hs,rfl⟩:=List.mem_map.1 hv
 have h1:rs.all (fun s=>(bz F s).2)=true:=List.all_eq_true.2 hall
 have h2:(rs.all fun s=>decide ((bw F rs.length (bz F s).1).2=0))=false:=by
  rw[Bool.eq_false_iff]
  intro h3
  exact h (of_decide_eq_true (List.all_eq_true.1 h3 s hs))
 unfold nR
 rw[h1,h2]
 rfl
theorem CR{F:Fun}{rs:List (List UInt8)}{vs ws:List Val}(hvs:vs=rs.map fun s=>(bz F s).1)(hws:ws=vs.map fun v=>(bw F rs.length v).1)(hall:∀s∈rs,(bz F s).2=true)(hz:∀v∈vs,(bw F rs.length v).2=0):nR F rs=if okS F ws then(some (F,ws),0) else(none,30):=by
 subst hvs
 subst hws
 have h1:rs.all (fun s=>(bz F s).2)=true:=List.all_eq_true.2 hall
 have h2:(rs.all fun s=>decide ((bw F rs.length (bz F s).1).2=0))=true:=List.all_eq_true.2 fun s hs=>decide_eq_true (hz _ (List.mem_map.2 ⟨s,hs,rfl⟩))
 unfold nR
 rw[h1,h2]
 simp[Function.comp_def]
theorem JK{ws vs:List Val}{i:Nat}(h1:i<ws.length)(h2:i<vs.length):(Val.cellsL (ws.take i++vs.drop i)).take (i*3)++(ws[i].cells++(Val.cellsL (ws.take i++vs.drop i)).drop (i*3+3))=Val.cellsL (ws.take (i+1)++vs.drop (i+1)):=by
 have hl:(Val.cellsL (ws.take i)).length=i*3:=by simp;omega
 rw[Val.cellsL_append,List.drop_eq_getElem_cons h2,Val.cellsL,List.take_left' hl,List.drop_append,hl,List.drop_eq_nil_of_le (by omega),List.nil_append,show i*3+3-i*3=3 by omega,List.drop_left' (by simp),Val.cellsL_append,Val.cellsL_snoc h1,List.append_assoc]
theorem Az{F:Fun}{rs:List (List UInt8)}{vs ws:List Val}(hvs:vs=rs.map fun s=>(bz F s).1)(hws:ws=vs.map fun v=>(bw F rs.length v).1)(hrs:cy rs≤40000)(hn:rs.length≤40000):Val.nodesL ws≤1000000∧∀v∈ws,aP v:=by
 subst hvs
 subst hws
 have key:∀(l:List (List UInt8)) (n:Int),cy l≤40000→Val.nodesL ((l.map fun s=>(bz F s).1).map fun v=>(bw F n v).1)≤cy l+l.length∧∀v∈(l.map fun s=>(bz F s).1).map (fun v=>(bw F n v).1),aP v:=by
  intro l n
  induction l with
  |nil=>intro _;simp[Val.nodesL]
  |cons s l ih=>
   intro h
   have e:cy (s::l)=s.length+cy l:=by simp[cy]
   obtain⟨i1,i2⟩:=ih (by omega)
   have hc:=kU (f:=F) (s:=s) (by unfold Sm;omega)
   have hr:=qk (f:=F) (n:=n) hc.2 (by omega)
   refine⟨?_,fun v hv=> ?_⟩
   ·simp only[List.map_cons,Val.nodesL,List.length_cons]
    omega
   ·simp only[List.map_cons,List.mem_cons] at hv
    rcases hv with rfl|hv
    ·exact hr.2
    ·exact i2 v hv
 have:=key rs rs.length hrs
 exact⟨by omega,this.2⟩
set_option maxHeartbeats 8000000 in
theorem Dd(t:List UInt8)(F:Fun)(fits:Bool)(rs:List (List UInt8))(hF:fits=true→au F=true∧F.nodes≤1000000)(hrs:cy rs≤40000)(hn:rs.length≤40000):
  fG C0.P (C0.ann.keep aS) Tryz.f19.results.toList ⟨[],[]⟩ (ak C0 aS 140 pP.post ⟨TMp t,fW F fits [] rs⟩)=some (.ret (cS (if fits=false∨100<rs.length then(none,30) else nR F rs)),⟨[],[]⟩):=by
 show fG C0.P (C0.ann.keep 19) _ _ (ak C0 19 140 _ _)=_
 cases fits with
 |false=>
  simp[pP,pB5,pB,bE,sq1,sq2,Tryz.f19,a19,reg19,loop19,draw19,dok19,TMp,fW,zS,cS,eA]
 |true=>
 obtain⟨hsh,hFn⟩:=hF rfl
 by_cases hne:rs=[]
 ·subst hne
  have hv:=zM F hFn
  simp at hv
  simp[pP,pB5,pB,bE,sq1,sq2,Tryz.f19,a19,reg19,loop19,draw19,dok19,TMp,fW,zS,cS,uX,uD]
  rw[aG]
  simp[round,Tryz.f19,a19,reg19,loop19,draw19,dok19]
  rw[aG]
  cases ho:okS F [] with
  |false=>
   rw[ho] at hv
   simp[round,Tryz.f19,a19,reg19,loop19,draw19,dok19,hv,eA,nR,ho]
  |true=>
   rw[ho] at hv
   simp[round,Tryz.f19,a19,reg19,loop19,draw19,dok19,hv,eA,nR,ho,Val.cellsL]
 have hA:uX rs= .sl 0 rs.length 0 rs.length:=by
  cases rs with
  |nil=>exact absurd rfl hne
  |cons a r=>rfl
 have hW:uD rs=[⟨9,bv rs⟩]:=by
  cases rs with
  |nil=>exact absurd rfl hne
  |cons a r=>rfl
 by_cases hlong:100<rs.length
 ·have h1:(100:Int)<rs.length:=by omega
  simp[pP,pB5,pB,bE,sq1,sq2,Tryz.f19,a19,reg19,loop19,draw19,dok19,TMp,fW,zS,cS,hA,hW,h1,hlong,eA]
 have h1:¬(100:Int)<rs.length:=by omega
 have hp0:0<rs.length:=List.length_pos_iff.2 hne
 simp[pP,pB5,pB,bE,sq1,sq2,Tryz.f19,a19,reg19,loop19,draw19,dok19,TMp,fW,zS,hA,hW,h1,hlong]
 have hvs:∃vs:List Val,vs=rs.map fun s=>(bz F s).1:=⟨_,rfl⟩
 obtain⟨vs,hvs⟩:=hvs
 have hrd:=BN F hsh rs[0] (EU hrs (List.getElem_mem hp0))
 simp at hrd
 have hp1:1≤rs.length:=hp0
 have g0:=oN hp0
 simp at g0
 have hv1:vs.take 1=[(bz F rs[0]).1]:=by
  rw[hvs,←List.map_take,List.take_succ_eq_append_getElem hp0]
  simp
 rw[aG]
 cases hok0:(bz F rs[0]).2 with
 |false=>
  rw[hok0] at hrd
  have hall:rs.all (fun s=>(bz F s).2)=false:=by
   rw[Bool.eq_false_iff]
   intro h
   have:=List.all_eq_true.1 h _ (List.getElem_mem hp0)
   rw[hok0] at this
   cases this
  simp[round,Tryz.f19,a19,reg19,loop19,draw19,dok19,hp0,hp1,g0,hrd,eA,nR,hall,cS]
  done
 |true=>
  rw[hok0] at hrd
  simp[round,Tryz.f19,a19,reg19,loop19,draw19,dok19,hp0,hp1,g0,hrd]
  rw[kw (by simp) (by simp[closed]) (by simp[closed,bK]) (by simp[closed,bK])]
  simp
  refine aC (fun i:Nat=>⟨[(2,.ptr 0 0),(3,.ptr 1 0),(4,.ptr 2 0),(83,.sl 0 rs.length 0 rs.length),(84,.int .i64 rs.length),(85,.int .i64 i)],
   ⟨[zS,[.int .i64 0],[.int .i64 F.kind,.int .i64 F.num,.isl false F.args.length (Fun.cellsL F.args),.sl 1 (i*3) 0 i],[.sl 0 rs.length 0 rs.length],[.bool true],[.str []],[.int .i64 F.kind,.int .i64 F.num,.isl false F.args.length (Fun.cellsL F.args)]],
    [⟨9,bv rs⟩,⟨47,Val.cellsL (vs.take i)⟩]⟩⟩)
   (fun i=>some (.ret (cS (nR F rs)),⟨[],[]⟩)) (fun i=>rs.length-i) (fun i=>0<i∧i≤rs.length∧∀s∈rs.take i,(bz F s).2=true) 1 ?_ ?_ ?_ ?_ ?_
  ·rw[hv1]
   simp[zS,Val.cellsL]
  ·simp
  ·refine⟨by omega,by omega,fun s hs=> ?_⟩
   rw[List.take_succ_eq_append_getElem hp0] at hs
   simp at hs
   rw[hs]
   exact hok0
  ·intro x;simp[Tryz.f19,a19,reg19,loop19,draw19,dok19]
  ·rintro i ⟨hi0,hi,hgood⟩ hrec
   by_cases hlt:i<rs.length
   ·have w2:IntKind.i64.wrap (i+1)=i+1:=al _ (by omega)
    have hlv:i<vs.length:=by rw[hvs];simpa using hlt
    have hmin:min i vs.length=i:=by omega
    have hrdi:=BN F hsh rs[i] (EU hrs (List.getElem_mem hlt))
    simp at hrdi
    have gi:=oN hlt
    have hi1:i+1≤rs.length:=hlt
    cases hoki:(bz F rs[i]).2 with
    |false=>
     clear hrec
     rw[hoki] at hrdi
     have hall:rs.all (fun s=>(bz F s).2)=false:=by
      rw[Bool.eq_false_iff]
      intro h
      have:=List.all_eq_true.1 h _ (List.getElem_mem hlt)
      rw[hoki] at this
      cases this
     simp[round,Tryz.f19,a19,reg19,loop19,draw19,dok19,hlt,hi1,gi,hrdi,eA,nR,hall,cS,zS]
     done
    |true=>
     rw[hoki] at hrdi
     have h4:(i+1)*56≤70368744177664:=by omega
     have h5:i+1≤70368744177664:=by omega
     have h6:(i:Int)<i+1:=by omega
     have h7:i*3+3=(i+1)*3:=by omega
     simp[round,Tryz.f19,a19,reg19,loop19,draw19,dok19,hlt,hi1,gi,hrdi,w2,hmin,h4,h5,h6,h7]
     rw[show List.drop ((i+1)*3) (Val.cellsL (vs.take i)++[A.int IntKind.i64 0,A.nils,A.nils])=[] from List.drop_eq_nil_of_le (by simp;omega)]
     rw[kw (by simp) (by simp[closed]) (by simp[closed,bK,zS]) (by simp[closed,bK])]
     simp
     have hvi:vs[i]=(bz F rs[i]).1:=by simp[hvs]
     refine hrec (i+1) _ _ ?_ ?_ ?_ ?_
     ·omega
     ·refine⟨by omega,by omega,fun s hs=> ?_⟩
      rw[List.take_succ_eq_append_getElem hlt,List.mem_append] at hs
      rcases hs with hs|hs
      ·exact hgood s hs
      ·rw[List.mem_singleton] at hs
       rw[hs]
       exact hoki
     ·simp[Val.cellsL_snoc hlv,hvi]
     ·rfl
   ·clear hrec
    have hl:i=rs.length:=by omega
    subst hl
    have htv:vs.take rs.length=vs:=List.take_of_length_le (by rw[hvs];simp)
    have hall:∀s∈rs,(bz F s).2=true:=fun s hs=>hgood s (by rw[List.take_of_length_le (Nat.le_refl _)];exact hs)
    have hln:vs.length=rs.length:=by rw[hvs];simp
    simp[round,Tryz.f19,a19,reg19,loop19,draw19,dok19,htv]
    have hws:∃ws:List Val,ws=vs.map fun v=>(bw F rs.length v).1:=⟨_,rfl⟩
    obtain⟨ws,hws⟩:=hws
    have hlw:ws.length=rs.length:=by rw[hws];simpa using hln
    refine aC (fun i:Nat=>⟨[(2,.ptr 0 0),(3,.ptr 1 0),(4,.ptr 2 0),(109,.sl 1 (rs.length*3) 0 rs.length),(110,.int .i64 rs.length),(111,.int .i64 i)],
     ⟨[zS,[.int .i64 0],[.int .i64 F.kind,.int .i64 F.num,.isl false F.args.length (Fun.cellsL F.args),.sl 1 (rs.length*3) 0 rs.length],[.sl 0 rs.length 0 rs.length],[.bool true],[.str []],[.int .i64 F.kind,.int .i64 F.num,.isl false F.args.length (Fun.cellsL F.args)]],
      [⟨9,bv rs⟩,⟨47,Val.cellsL (ws.take i++vs.drop i)⟩]⟩⟩)
     (fun i=>some (.ret (cS (nR F rs)),⟨[],[]⟩)) (fun i=>rs.length-i) (fun i=>i≤rs.length∧∀v∈vs.take i,(bw F rs.length v).2=0) 0 ?_ ?_ ?_ ?_ ?_
    ·simp
    ·simp
    ·simp
    ·intro x;simp[Tryz.f19,a19,reg19,loop19,draw19,dok19]
    ·rintro i ⟨hi,hgv⟩ hrec
     by_cases hlt:i<rs.length
     ·have w2:IntKind.i64.wrap (i+1)=i+1:=al _ (by omega)
      have hlv:i<vs.length:=by omega
      have hlu:i<(ws.take i++vs.drop i).length:=by simp;omega
      have hge:(ws.take i++vs.drop i)[i]=vs[i]:=by
       rw[List.getElem_append_right (by simp;omega)]
       simp[Nat.min_eq_left (show i≤ws.length by omega)]
      have g3:=Val.at_cellsL (ws.take i++vs.drop i) i hlu
      rw[hge] at g3
      have hcl:(Val.cellsL (ws.take i++vs.drop i)).length=rs.length*3:=by simp;omega
      have hmem:vs[i]∈vs:=List.getElem_mem hlv
      have hno:=CW F rs.length vs[i] hsh (Ee hvs hrs hmem).1 (Ee hvs hrs hmem).2
      simp at hno g3
      have h3:i*3+3≤rs.length*3:=by omega
      cases hz:decide ((bw F rs.length vs[i]).2=0) with
      |false=>
       simp at hz
       clear hrec
       rw[DJ hvs hall hmem hz]
       simp[round,Tryz.f19,a19,reg19,loop19,draw19,dok19,hlt,g3,hcl,h3,hno,hz,eA,cS,zS]
       done
      |true=>
       simp at hz
       simp[round,Tryz.f19,a19,reg19,loop19,draw19,dok19,hlt,g3,hcl,h3,hno,hz,w2]
       have hwi:ws[i]=(bw F rs.length vs[i]).1:=by simp[hws]
       have hset:=JK (ws:=ws) (vs:=vs) (i:=i) (by omega) hlv
       rw[hwi] at hset
       simp at hset
       rw[hset]
       rw[kw (by simp) (by simp[closed]) (by simp[closed,bK,zS]) (by simp[closed,bK])]
       simp
       refine hrec (i+1) _ _ ?_ ?_ ?_ ?_
       ·omega
       ·refine⟨by omega,fun v hv=> ?_⟩
        rw[List.take_succ_eq_append_getElem hlv,List.mem_append] at hv
        rcases hv with hv|hv
        ·exact hgv v hv
        ·rw[List.mem_singleton] at hv
         rw[hv]
         exact hz
       ·simp
       ·rfl
     ·clear hrec
      have hl:i=rs.length:=by omega
      subst hl
      have hzz:∀v∈vs,(bw F rs.length v).2=0:=fun v hv=>hgv v (by rw[htv];exact hv)
      have htw:ws.take rs.length=ws:=List.take_of_length_le (by omega)
      have hdv:vs.drop rs.length=[]:=List.drop_eq_nil_of_le (by omega)
      rw[CR hvs hws hall hzz]
      have hv:∀B,ai C0 43 [.agg (eG F (.sl 1 (ws.length*3) 0 ws.length))] ⟨B,[⟨9,bv rs⟩,⟨47,Val.cellsL ws⟩]⟩=some (.ret (.bool (okS F ws)),⟨B,[⟨9,bv rs⟩,⟨47,Val.cellsL ws⟩]⟩):=
       fun B=>z8 F ws hFn (Az hvs hws hrs hn).1 (Az hvs hws hrs hn).2 _ 1 rfl
      simp[hlw] at hv
      cases ho:okS F ws with
      |false=>
       rw[ho] at hv
       simp[round,Tryz.f19,a19,reg19,loop19,draw19,dok19,htw,hdv,hv,eA,cS,zS]
      |true=>
       rw[ho] at hv
       simp[round,Tryz.f19,a19,reg19,loop19,draw19,dok19,htw,hdv,hv,eA,cS,zS]
       rw[if_pos (by omega),hlw,List.take_of_length_le (by simp;omega)]
theorem uS(l w:List UInt8):(aO l w).1.length≤l.length:=by
 have:=bf 32 l
 unfold aO
 split<;>simp<;>omega
theorem yk{l:List UInt8}{x:Nat}{s:List UInt8}(h:lj l x=some s):s.length≤l.length:=by
 unfold lj at h
 split at h
 ·split at h
  ·rw[←Option.some.inj h]
   have h3:=uS (aO l (Lib.itoa x)).1 [61]
   have h4:=uS l (Lib.itoa x)
   omega
  ·cases h
 ·cases h
theorem oW:∀(l:List (List UInt8)) (x:Nat) (rs:List (List UInt8)),cF l x=some rs→cy rs≤cy l
 |[],x,rs,h=>by rw[cF] at h;cases h;exact Nat.le_refl _
 |l::r,x,rs,h=>by
  rw[cF] at h
  obtain⟨a,h1,h2⟩:=Option.bind_eq_some_iff.1 h
  obtain⟨q,h3,rfl⟩:=Option.map_eq_some_iff.1 h2
  have:=oW r _ _ h3
  have:=yk h1
  simp only[cy,List.map_cons,List.sum_cons] at*
  omega
theorem nV:∀(n:Nat) (t:List UInt8),t.length≤n→cy (iW t)≤t.length∧(iW t).length≤t.length
 |n,t,hn=>by
  by_cases h:t=[]
  ·subst h
   simp[iW,cy]
  have h0:0<t.length:=List.length_pos_iff.2 h
  rw[yb h]
  have hsum:(bm t).1.length+(bm t).2.length≤t.length:=by
   have e:=congrArg List.length (List.takeWhile_append_dropWhile (p:=(· !=(10:UInt8))) (l:=t))
   simp only[bm,List.length_append,List.length_drop] at*
   omega
  have h2:=kG t
  cases n with
  |zero=>omega
  |succ n=>
   obtain⟨i1,i2⟩:=nV n (bm t).2 (by omega)
   refine⟨?_,by simp only[List.length_cons];omega⟩
   simp only[cy,List.map_cons,List.sum_cons] at*
   omega
theorem rx{s:List UInt8}(h:(dx s).2=0):okF (dx s).1=true:=by
 unfold dx at h⊢
 split at h
 ·cases h
 ·rename_i h0
  rw[if_neg h0]
  split at h
  ·cases h
  ·rename_i l hl
   dsimp only at h⊢
   split at h
   ·cases h
   ·rename_i h1
    rw[if_neg h1]
    split at h
    ·rename_i h2
     rw[if_pos h2,←kv]
     exact h2
    ·cases h
theorem Ab{P:Program}{rs:List ResultVar}{m:Mem}{x:Option (Ex×St)}{a:A}{m':Mem}(h:fG P false rs m x=some (.ret a,m')):∃e s b,x=some (e,s)∧(e= .normal∨e= .ret)∧bl P rs s.tm s.m=some b∧bC P false m (.ret b) s.m=some (.ret a,m'):=by
 cases x with
 |none=>cases h
 |some x=>
 obtain⟨e,s⟩:=x
 cases e with
 |normal=>
  have h':(bl P rs s.tm s.m).bind (fun a=>bC P false m (.ret a) s.m)=some (.ret a,m'):=h
  obtain⟨b,h1,h2⟩:=Option.bind_eq_some_iff.1 h'
  exact⟨_,_,b,rfl,.inl rfl,h1,h2⟩
 |ret=>
  have h':(bl P rs s.tm s.m).bind (fun a=>bC P false m (.ret a) s.m)=some (.ret a,m'):=h
  obtain⟨b,h1,h2⟩:=Option.bind_eq_some_iff.1 h'
  exact⟨_,_,b,rfl,.inr rfl,h1,h2⟩
 |exit i=>cases h
 |pan c=>
  have h':bC P false m (.pan c) s.m=some (.ret a,m'):=h
  simp only[bC,Bool.false_eq_true,if_false] at h'
  split at h'
  ·cases h'
  ·cases h'
theorem Gg{x:Option (Ex×St)}{e:Ex}{s:St}(h:x=some (e,s))(he:e= .normal∨e= .ret):Fa x=some s:=by
 subst h
 rcases he with rfl|rfl<;>rfl
noncomputable def EL(t:List UInt8)(ls:List Nat)(y:Ex×Mem):Option (List Nat×(Ex×Mem)×A×Mem):=
 match y with
 |(.normal,m7)=>(Fa (ak C0 aS 140 pP.post ⟨TMp t,m7⟩)).bind fun z=>(bl C0.P Tryz.f19.results.toList z.tm z.m).map fun b=>(ls,(Ex.normal,m7),b,z.m)
 |(.ret,m7)=>(bl C0.P Tryz.f19.results.toList (TMp t) m7).map fun b=>(ls,(Ex.ret,m7),b,m7)
 |_=>none
noncomputable def va:List A→Mem→Option (Res×Mem):=ai C0 vY
set_option maxHeartbeats 2000000 in
theorem Cd(t:List UInt8)(ht:t.length≤40000)(l:Nat):∃ls x b m8,l4 C0.P (ak C0 aS 140) (ak C0 dI 27) va Tryz.f19.results.toList pP (t.length+2) [.str t] ⟨[],[]⟩ l=some (ls,x,b,m8)∧(∀z∈ls,z=l)∧bC C0.P false ⟨[],[]⟩ (.ret b) m8=some (.ret (cS (jF t)),⟨[],[]⟩):=by
 have h1:¬(40000:Int)<t.length:=by omega
 have k0:ak C0 aS 140 pP.R0 ⟨bi 0 [.str t],⟨[],[]⟩⟩=some (.normal,⟨[(0,.str t),(2,.ptr 0 0),(3,.ptr 1 0)],⟨[zS,[.int .i64 0]],[]⟩⟩):=by
  show ak C0 19 140 _ _=_
  simp[pP,pB,bE,sq1,sq2,Tryz.f19,a19,reg19,loop19,draw19,dok19,zS]
 have k1:∃b,ak C0 aS 140 pP.c1 ⟨[(0,.str t),(2,.ptr 0 0),(3,.ptr 1 0)],⟨[zS,[.int .i64 0]],[]⟩⟩=some (.normal,⟨(0,.str t)::(2,.ptr 0 0)::(3,.ptr 1 0)::b,⟨[zS,[.int .i64 0]],[]⟩⟩):=by
  show ∃b,ak C0 19 140 _ _=_
  simp[pP,pB,bE,sq1,sq2,Tryz.f19,a19,reg19,loop19,draw19,dok19,zS,h1]
 obtain⟨b1,k1⟩:=k1
 have k3:ak C0 aS 140 pP.R3 ⟨(0,.str t)::(2,.ptr 0 0)::(3,.ptr 1 0)::b1,⟨[zS,[.int .i64 0]],[]⟩⟩=some (.normal,⟨[(0,.str t),(2,.ptr 0 0),(3,.ptr 1 0),(4,.ptr 2 0)],⟨[zS,[.int .i64 0],zS],[]⟩⟩):=by
  show ak C0 19 140 _ _=_
  simp[pP,pB,bE,sq1,sq2,Tryz.f19,a19,reg19,loop19,draw19,dok19,zS]
 have k4:ak C0 aS 140 pP.R4 ⟨[(0,.str t),(2,.ptr 0 0),(3,.ptr 1 0),(4,.ptr 2 0)],⟨[zS,[.int .i64 0],zS],[]⟩⟩=some (.normal,⟨[(0,.str t),(2,.ptr 0 0),(3,.ptr 1 0),(4,.ptr 2 0),(5,.ptr 3 0)],⟨[zS,[.int .i64 0],zS,[.nils]],[]⟩⟩):=by
  show ak C0 19 140 _ _=_
  simp[pP,pB,bE,sq1,sq2,Tryz.f19,a19,reg19,loop19,draw19,dok19,zS]
 have k5:ak C0 aS 140 pP.R5 ⟨[(0,.str t),(2,.ptr 0 0),(3,.ptr 1 0),(4,.ptr 2 0),(5,.ptr 3 0)],⟨[zS,[.int .i64 0],zS,[.nils]],[]⟩⟩=some (.normal,⟨[(0,.str t),(2,.ptr 0 0),(3,.ptr 1 0),(4,.ptr 2 0),(5,.ptr 3 0),(6,.ptr 4 0)],⟨[zS,[.int .i64 0],zS,[.nils],[.bool true]],[]⟩⟩):=by
  show ak C0 19 140 _ _=_
  simp[pP,pB,bE,sq1,sq2,Tryz.f19,a19,reg19,loop19,draw19,dok19,zS]
 have k6:va [.str t] ⟨[zS,[.int .i64 0],zS,[.nils],[.bool true]],[]⟩=some (.ret (.fn dI [.ptr 5 0]),lR t):=by
  show ai C0 55 _ _=_
  rw[zE C0 (aj _ (by decide)) (by rw[ay];exact Tryz.func55) rfl (by rw[ae];rfl) (by rw[ae];rfl) (by decide) (by simp[Tryz.f55])]
  simp[Tryz.f55,a55,reg55,lR]
  rfl
 obtain⟨ls,y,hy1,hy2,hy3⟩:=ET t l ht
 have hcut:jH t=(bm t).1::iW (bm t).2:=by rw[gU];rfl
 have hps:jF t=kM ((bm t).1::iW (bm t).2):=by unfold jF;rw[if_neg (by omega),hcut]
 have key:∀r,EL t ls y=r→l4 C0.P (ak C0 aS 140) (ak C0 dI 27) va Tryz.f19.results.toList pP (t.length+2) [.str t] ⟨[],[]⟩ l=r:=by
  intro r hr
  unfold l4
  rw[k0]
  simp only[nrm,Option.bind_some]
  rw[k1]
  simp only[nrm,Option.bind_some]
  rw[k3]
  simp only[nrm,Option.bind_some]
  rw[k4]
  simp only[nrm,Option.bind_some]
  rw[k5]
  simp only[nrm,Option.bind_some]
  have e0:lk 0 [(0,A.str t),(2,A.ptr 0 0),(3,A.ptr 1 0),(4,A.ptr 2 0),(5,A.ptr 3 0),(6,A.ptr 4 0)]= .str t:=rfl
  rw[e0,k6]
  simp only[Option.bind_some]
  have eh:pP.h=dI:=rfl
  rw[eh,if_pos rfl,DP]
  simp only[nrm,Option.bind_some]
  have et:((28,A.fn dI [A.ptr 5 0])::(27,A.str t)::[(0,A.str t),(2,A.ptr 0 0),(3,A.ptr 1 0),(4,A.ptr 2 0),(5,A.ptr 3 0),(6,A.ptr 4 0)])=TMp t:=rfl
  rw[et,hy1]
  simp only[Option.bind_some]
  rw[←hr]
  obtain⟨ye,ym⟩:=y
  cases ye<;>rfl
 have bad:∀m7,y=(.ret,m7)→mT m7→jF t=(none,11)→∃ls x b m8,l4 C0.P (ak C0 aS 140) (ak C0 dI 27) va Tryz.f19.results.toList pP (t.length+2) [.str t] ⟨[],[]⟩ l=some (ls,x,b,m8)∧(∀z∈ls,z=l)∧bC C0.P false ⟨[],[]⟩ (.ret b) m8=some (.ret (cS (jF t)),⟨[],[]⟩):=by
  rintro m7 rfl ⟨b,r,rfl⟩ hp
  have hres:bl C0.P Tryz.f19.results.toList (TMp t) ⟨zS::[.int .i64 11]::b,r⟩=some (.tup [.agg zS,.int .i64 11]):=by
   simp[Tryz.f19,TMp,zS]
  refine⟨ls,_,_,_,key _ (by simp only[EL,hres,Option.map_some];rfl),hy2, ?_⟩
  rw[hp,ay,eA]
  simp[cS,zS]
 by_cases hw:(aO (bm t).1 tyW).2=false∨(dx (aO (bm t).1 tyW).1).2=11
 ·rw[if_pos hw] at hy3
  obtain⟨y1,y2⟩:=y
  obtain⟨rfl,hb⟩:=hy3
  exact bad y2 rfl hb (by rw[hps,kM,if_pos hw])
 rw[if_neg hw] at hy3
 cases hn:cF (iW (bm t).2) 0 with
 |none=>
  rw[hn] at hy3
  obtain⟨y1,y2⟩:=y
  obtain⟨rfl,hb⟩:=hy3
  exact bad y2 rfl hb (by rw[hps,kM,if_neg hw,hn])
 |some rs=>
  rw[hn] at hy3
  subst hy3
  have hbd:=nV (bm t).2.length (bm t).2 (Nat.le_refl _)
  have hc2:=kG t
  have hs1:=oW _ _ _ hn
  have hs2:=gh _ _ _ hn
  have hp:=Dd t (dx (aO (bm t).1 tyW).1).1 (decide ((dx (aO (bm t).1 tyW).1).2=0)) rs (fun h=>by
   have h0:=of_decide_eq_true h
   have h2:=rx h0
   have h3:=(og _).1 h2
   exact⟨h3.2.2,by omega⟩) (by omega) (by omega)
  have hkeep:C0.ann.keep aS=false:=by rw[ae];rfl
  rw[hkeep] at hp
  obtain⟨e,s,b,p1,p2,p3,p4⟩:=Ab hp
  refine⟨ls,_,b,s.m,key _ (by simp only[EL,Gg p1 p2,Option.bind_some,p3,Option.map_some];rfl),hy2, ?_⟩
  rw[p4,hps,kM,if_neg hw,hn]
  simp only
  congr 4
  by_cases h0:(dx (aO (bm t).1 tyW).1).2=0<;>simp[h0]
end AE
end Go.Proofs.YtmfdpijmholedaaGreatDoor
