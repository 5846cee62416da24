/- Regions that draw their order, the end. -/
import Derived.Test.YtmfdpijmholedaaGreatDoorGB
import Derived.RangeFuncRecord
import Derived.Shelf.Slices.Clone
import Derived.Ground.NamesProg
import Derived.Test.YtmfdpijmholedaaGreatDoorProg
import Derived.RangeFuncLeaves
import Derived.Shelf.Strings.Builder1
import Derived.Shelf.Strings.Search1
set_option linter.unusedVariables false
set_option linter.unusedSimpArgs false
set_option linter.unusedSectionVars false
set_option maxHeartbeats 3200000
namespace Go.Proofs.YtmfdpijmholedaaGreatDoor
namespace AE
open Go Go.RowKit
section
variable {C:Cfg} {nt:Nat} {ops:Array Oper} {d:DrawAnn} {po:Option (Nat×A×Mem)} {s s':St} {tr:List Ent} {w0 w1:World} {g1:Gh} {df:List Deferred}
theorem mJ{a:Act}{t:Nat}{v:Value}(h:t<a.tmps.size):(a.put (some t) v).tmps.getD t undef=v:=by
 simp[Act.put,Array.getD_eq_getD_getElem?,Array.getElem?_setIfInBounds,h]
theorem l8{a:Act}{dd:Option Nat}{t:Nat}{v:Value}(h:dd≠some t):(a.put dd v).tmps.getD t undef=a.tmps.getD t undef:=by
 cases dd with
 |none=>rfl
 |some u=>
  have:u≠t:=fun e=>h (by rw[e])
  simp[Act.put,Array.getD_eq_getD_getElem?,Array.getElem?_setIfInBounds,this]
theorem mQ.next (D:Drawn C nt ops d po s s' tr) {L:Nat→Bool} {g g':Gh} {a:Act} {w w':World} {i c:Nat} {o:Oper} {e:Ent} {v:Value} (h:mQ ops tr L c g a w) (hsz:a.tmps.size=nt)
  (ho:ops[i]? =some o) (he:tr[i]? =some e) (hd:o.dst.all (· <nt)=true) (hx:ExtB w g w' g') (hv:(da ops i→i<c)→VR w' g' e.v v):mQ ops tr (fun j=>if j=i then true else L j) c g' (a.put o.dst v) w':=by
 intro j o' t e' ho' hj ht he' hc
 have hj:(if j=i then true else L j)=true:=hj
 by_cases hji:j=i
 ·subst hji
  rw[ho] at ho'
  cases ho'
  rw[he] at he'
  cases he'
  rw[ht] at hd⊢
  simp only[Option.all_some,decide_eq_true_eq] at hd
  rw[mJ (by rw[hsz];exact hd)]
  exact hv hc
 ·rw[if_neg hji] at hj
  rw[l8 (fun q=>D.facts.dst i j o o' t ho ho' (Ne.symm hji) q ht)]
  exact VR.monoB hx _ _ (h j o' t e' ho' hj ht he' hc)
theorem PendAt.next(D:Drawn C nt ops d po s s' tr){g g':Gh}{a:Act}{w w':World}{i j b:Nat}{o:Oper}{v:Value}(h:PendAt C ops d tr s w0 w1 j b g a w)(ho:ops[i]? =some o)(hij:j≠i)(hx:Ext w g w' g'):PendAt C ops d tr s w0 w1 j b g' (a.put o.dst v) w':=by
 obtain⟨h1,h2,h3,h4,o',us,T,val,k1,k2,k3,k4,k5,k6⟩:=h
 obtain⟨q1,q2⟩:=hx.fr b h3 h4
 refine⟨h1,h2, ?_,q2,o',us,T,val,k1,k2,k3,fun t ht=> ?_,by rw[q1];exact k5,k6⟩
 ·rw[←q1] at k5
  exact(Array.getElem?_eq_some_iff.1 k5).1
 ·rw[l8 (fun q=>D.facts.dst j i o' o t k1 ho hij ht q)]
  exact k4 t ht
theorem wf(D:Drawn C nt ops d po s s' tr){L:Nat→Bool}{a:Act}{w:World}(hclo:∀i,L i=true→∀j∈d.pre.getD i [],L j=true)(hnp:∀p b m,po=some (p,b,m)→L p=false):
  ∀(k n:Nat) (g:Gh),n+k=ops.size→SR C.P C.gl w0 g (bF tr s'.m n) w→(∀e,e<n→da ops e→L e=true)→mQ ops tr L n g a w→Ext w1 g1 w g→
   (∃B:Nat→Nat,(∀i,n≤i→da ops i→L i=true→PendAt C ops d tr s w0 w1 i (B i) g a w)∧∀i j,n≤i→da ops i→L i=true→n≤j→da ops j→L j=true→B i=B j→i=j)→
   ∃g',HK C ops d s s' tr w0 w1 L g' a w∧Ext w1 g1 w g'∧ExtB w g w g'
 |0,n,g,hn,hs,he,hN,hx,hB=>by
  obtain⟨B,b1,b2⟩:=hB
  exact⟨g,⟨n,none,_,by omega,he,.inl (by omega),hs,hN,rfl,B,fun i hi q1 q2=> .inr (b1 i (by omega) q1 q2),fun i j hi h1 h2 hj=>b2 i j (by omega) h1 h2 (by omega)⟩,hx,ExtB.refl _ _⟩
 |k+1,n,g,hn,hs,he,hN,hx,hB=>by
  obtain⟨B,b1,b2⟩:=hB
  by_cases hef:da ops n
  case neg=>
   have hlt:n<ops.size:=by omega
   have hst:bF tr s'.m (n+1)=bF tr s'.m n:=D.still n ops[n] (Array.getElem?_eq_getElem hlt) (by
    cases hq:eE ops[n].op with
    |false=>rfl
    |true=>exact absurd ⟨_,Array.getElem?_eq_getElem hlt,hq⟩ hef)
   refine wf D hclo hnp k (n+1) g (by omega) (by rw[hst];exact hs) (fun e h1 h2=> ?_) (fun i o t e h1 h2 h3 h4 h5=>hN i o t e h1 h2 h3 h4 fun hi=> ?_) hx ⟨B,fun i hi=>b1 i (by omega),fun i j hi h1 h2 hj=>b2 i j (by omega) h1 h2 (by omega)⟩
   ·rcases Nat.lt_or_ge e n with q|q
    ·exact he e q h2
    ·have:e=n:=by omega
     subst this
     exact absurd h2 hef
   ·have:=h5 hi
    rcases Nat.lt_or_ge i n with q|q
    ·exact q
    ·have:i=n:=by omega
     subst this
     exact absurd hi hef
  case pos=>
  cases hL:L n with
  |false=>exact⟨g,⟨n,none,_,by omega,he,.inr ⟨hef,hL⟩,hs,hN,rfl,B,fun i hi q1 q2=> .inr (b1 i (by omega) q1 q2),fun i j hi h1 h2 hj=>b2 i j (by omega) h1 h2 (by omega)⟩,hx,ExtB.refl _ _⟩
  |true=>
   obtain⟨h1,h2,h3,h4,o,us,T,val,k1,k2,k3,k4,k5,k6⟩:=b1 n (Nat.le_refl _) hef hL
   obtain⟨e,e1,e2,e3,e4⟩:=D.step n o k1
   have hrun:opA C.P o.op (opd C.gl (ik ops.toList tr s.tm n)) (bF tr s'.m n)=some (e.v,bF tr s'.m (n+1)):=by
    rcases e4 with⟨⟨q,_⟩|⟨_,⟨gop,args,tys,hh,caps,hop,_⟩|⟨_,hop,_⟩⟩,_⟩|⟨p,b,m,hp,hin,_⟩|⟨b,m,hp,_,_,gop,args,tys,hh,caps,hop,_⟩
    ·unfold cW at q
     rw[k3] at q
     cases q
    ·rw[hop] at k2;cases k2
    ·exact hop
    ·have:=hnp p b m hp
     rw[hclo n hL p hin] at this
     cases this
    ·rw[hop] at k2;cases k2
   obtain⟨g',s1,s2,s3,s5⟩:=k6 _ _ _ _ _ _ hs h1 h4 k5 hrun
   have hx':Ext w1 g1 w g':=by
    refine⟨⟨fun b o hF=> ?_,Nat.le_trans hx.nb s2.nb,fun i hi=> ?_,fun i Lr hLr=> ?_⟩,fun b' hb' hl'=> ?_,hx.sz⟩
    ·obtain⟨q1,q2⟩:=hx.fx b o hF
     exact⟨(s2.fx b o q1).1,q2⟩
    ·rw[s2.bb i (Nat.lt_of_lt_of_le hi hx.nb),hx.bb i hi]
    ·obtain⟨L1,q1,q2,q3,q4⟩:=hx.rl i Lr hLr
     obtain⟨L2,r1,r2,r3,r4⟩:=s2.rl i L1 q1
     refine⟨L2,r1,Nat.le_trans q2 r2,fun e=> ?_,r4.trans q4⟩
     have e1:L1=Lr:=by omega
     have e2:L2=L1:=by omega
     exact⟨(r3 e2).1.trans (q3 e1).1,(r3 e2).2.1.trans (q3 e1).2.1,(r3 e2).2.2.trans (q3 e1).2.2⟩
    ·obtain⟨q1,q2⟩:=hx.fr b' hb' hl'
     exact⟨q1,s5 b' (by omega) q2⟩
   obtain⟨g'',r1,r2,r3⟩:=wf D hclo hnp k (n+1) g' (by omega) s1 (fun e h1 h2=>by
     rcases Nat.lt_or_ge e n with q|q
     ·exact he e q h2
     ·have:e=n:=by omega
      subst this
      exact hL) (fun i o' t e' q1 q2 q3 q4 q5=>by
     by_cases hin:i=n
     ·subst hin
      rw[k1] at q1
      cases q1
      rw[e1] at q4
      cases q4
      rw[k4 t q3]
      exact s3
     ·refine VR.monoB s2 _ _ (hN i o' t e' q1 q2 q3 q4 fun hi=> ?_)
      have:=q5 hi
      omega) hx' ⟨B,fun i hi q1 q2=>by
     obtain⟨p1,p2,p3,p4,p5⟩:=b1 i (by omega) q1 q2
     exact⟨p1,p2,p3,s5 _ (fun q=>by have:=b2 i n (by omega) q1 q2 (Nat.le_refl _) hef hL q;omega) p4,p5⟩,fun i j hi q1 q2 hj=>b2 i j (by omega) q1 q2 (by omega)⟩
   refine⟨g'',r1,r2,⟨fun b o hF=> ?_,Nat.le_trans s2.nb r3.nb,fun i hi=> ?_,fun i Lr hLr=> ?_⟩⟩
   ·exact⟨(r3.fx b o (s2.fx b o hF).1).1,rfl⟩
   ·rw[r3.bb i (Nat.lt_of_lt_of_le hi s2.nb),s2.bb i hi]
   ·obtain⟨L1,q1,q2,q3,q4⟩:=s2.rl i Lr hLr
    obtain⟨L2,p1,p2,p3,p4⟩:=r3.rl i L1 q1
    refine⟨L2,p1,Nat.le_trans q2 p2,fun e=> ?_,p4.trans q4⟩
    have e1:L1=Lr:=by omega
    have e2:L2=L1:=by omega
    exact⟨(p3 e2).1.trans (q3 e1).1,(p3 e2).2.1.trans (q3 e1).2.1,(p3 e2).2.2.trans (q3 e1).2.2⟩
theorem Inv.next (D:Drawn C nt ops d po s s' tr) {L:Nat→Bool} {g g':Gh} {a:Act} {w w':World} (I:Inv C nt ops d po s s' tr w0 df w1 g1 L g a w) {i:Nat} {o:Oper} {v:Value}
  (ho:ops[i]? =some o) (hL:L i=false) (hnp:∀p b m,po=some (p,b,m)→p≠i) (hpre:∀j∈d.pre.getD i [],L j=true) (hx:ExtB w g w' g') (hx1:Ext w1 g1 w' g')
  (hm:HK C ops d s s' tr w0 w1 (fun j=>if j=i then true else L j) g' (a.put o.dst v) w'):
  Inv C nt ops d po s s' tr w0 df w1 g1 (fun j=>if j=i then true else L j) g' (a.put o.dst v) w':=by
 refine⟨by rw[eL];exact I.size,by rw[bZ];exact I.dfr,fun j hj k hk=> ?_,fun t ht=> ?_,hm,hx1,fun p b m hp=>by show(if p=i then true else L p)=false;rw[if_neg (hnp p b m hp)];exact I.np p b m hp⟩
 ·have hj:(if j=i then true else L j)=true:=hj
  show(if k=i then true else L k)=true
  split
  ·rfl
  ·split at hj
   ·rename_i h1;subst h1;exact hpre k hk
   ·exact I.clo j hj k hk
 ·have hne:o.dst≠some t:=fun q=>by
   have:=ht i o ho q
   simp at this
  rw[l8 hne]
  refine VR.monoB hx _ _ (I.old t fun j o' ho' hd'=> ?_)
  have:(if j=i then true else L j)=false:=ht j o' ho' hd'
  split at this
  ·cases this
  ·exact this
theorem pY {ro:Option Nat} (D:Drawn C nt ops d po s s' tr) (hpl:∀p b m,po=some (p,b,m)→p<ops.size) {Q:Exit→Act→World→Prop} (hQ:∀L g a w,(∀i,i<ops.size→L i=true)→Inv C nt ops d po s s' tr w0 df w1 g1 L g a w→Q .normal a w)
  (hP:∀p b m L g a w g' w' ch,po=some (p,b,m)→p<ops.size→Inv C nt ops d po s s' tr w0 df w1 g1 L g a w→SR C.P C.gl w0 g' m w'→Ext w g w' g'→oL w' g' (.pan b) (.panicked ch)→Q (.panic ch) a w'):
  ∀(l:List Nat) (L:Nat→Bool) (g:Gh) (a:Act) (w:World),Ax ops L l→Inv C nt ops d po s s' tr w0 df w1 g1 L g a w→wpOpsIn (Fz ro) 0 C.P ops Q l a w
 |[],L,g,a,w,ht,I=>hQ L g a w ht I
 |i::r,L,g,a,w,⟨hi,hL,hdir,htop⟩,I=>by
  have rec_:=pY (ro:=ro) D hpl hQ hP r
  obtain⟨o,ho⟩:∃o,ops[i]? =some o:=⟨ops[i],Array.getElem?_eq_getElem hi⟩
  obtain⟨e,he,hem,hd,hstep⟩:=D.step i o ho
  have hpre:∀j∈d.pre.getD i [],L j=true:=fun j hj=>by
   obtain⟨ev,hev,hb,q⟩:=D.facts.pre i o ho j hj
   have:=hdir o ho ev hev hb
   rcases q with q|q
   ·rw[←q];exact this
   ·exact I.clo _ this j q
  obtain⟨c,lt,M,hc1,hc2,hc3,hsr,hnew,hlate,B,hB1,hB2⟩:=I.mem
  have hreads:∀t∈cI ops o,VR w g (lk t (ik ops.toList tr s.tm i)) (a.tmps.getD t undef):=fun t ht=>by
   by_cases hex:∃(j:Nat) (o':Oper),ops[j]? =some o'∧o'.dst=some t
   ·obtain⟨j,o',ho',hd'⟩:=hex
    rcases D.facts.reads i j o o' t ho ho' ht hd' with⟨q1,q2⟩|⟨q1,q2⟩
    ·obtain⟨e',he',_⟩:=D.step j o' ho'
     rw[oC ops.toList tr s.tm i j t o' e' q1 (by simpa using ho') he' hd' fun k o'' hk hk' hdk=>D.facts.dst k j o'' o' t (by simpa using hk') ho' hk hdk hd']
     refine hnew j o' t e' ho' (hpre j q2) hd' he' fun hej=> ?_
     rcases Nat.lt_trichotomy j c with q|q|q
     ·exact q
     ·subst q
      rcases hc3 with q|⟨_,q⟩
      ·have:=(Array.getElem?_eq_some_iff.1 ho').1
       omega
      ·rw[hpre j q2] at q;cases q
     ·exfalso
      rcases hc3 with q3|⟨⟨oc,hoc,hec⟩,q3⟩
      ·have:=(Array.getElem?_eq_some_iff.1 ho').1
       omega
      ·obtain⟨oj,hoj,hej⟩:=hej
       rw[ho'] at hoj
       cases hoj
       rcases D.facts.effs c j oc o' hoc ho' hec hej q with q4|q4|⟨l,q4⟩
       ·have:=I.clo j (hpre j q2) c q4
        rw[q3] at this;cases this
       ·have:=hpre c (q4.2.2 i o t ho hd' ht c oc hoc hec q)
        rw[q3] at this;cases this
       ·rw[q4.ds'] at hd'
        cases hd'
    ·have hLj:L j=false:=by
      cases hq:L j with
      |false=>rfl
      |true=>have:=I.clo j hq i q2;rw[hL] at this;cases this
     rw[i8 ops.toList tr s.tm i t fun k o'' hk hk' hdk=>by
      by_cases hkj:k=j
      ·omega
      ·exact D.facts.dst k j o'' o' t (by simpa using hk') ho' hkj hdk hd']
     refine I.old t fun k o'' hk' hdk=> ?_
     by_cases hkj:k=j
     ·subst hkj;exact hLj
     ·exact absurd hd' (D.facts.dst k j o'' o' t hk' ho' hkj hdk)
   ·rw[i8 ops.toList tr s.tm i t fun k o'' hk hk' hdk=>hex ⟨k,o'',by simpa using hk',hdk⟩]
    exact I.old t fun k o'' hk' hdk=>absurd ⟨k,o'',hk',hdk⟩ hex
  let ρX:Operand→A:=fun x=>match x with| .tmp t=>if t∈cI ops o then lk t (ik ops.toList tr s.tm i) else .undef|x=>opd C.gl (ik ops.toList tr s.tm i) x
  have hρX:∀x,VR w g (ρX x) (a.eval x):=fun x=>by
   cases x with
   |tmp t=>
    show VR w g (if t∈cI ops o then _ else _) _
    split
    ·rename_i hin;exact hreads t hin
    ·rw[VR];trivial
   |const v=>exact EI v
   |global n=>exact hsr.gl n
   |func f=>
    show VR w g (.fn f []) (.func (.func f) #[] #[])
    rw[VR]
    exact⟨[],rfl,VRs.mk_nil⟩
  have hagree:∀x∈o.op.operands.toList,opd C.gl (ik ops.toList tr s.tm i) x=ρX x:=fun x hx=>by
   cases x with
   |tmp t=>
    show lk t _=if t∈cI ops o then _ else _
    rw[if_pos]
    unfold cI
    rw[List.mem_append]
    exact .inl (List.mem_filterMap.2 ⟨.tmp t,hx,rfl⟩)
   |const v=>rfl
   |global n=>rfl
   |func f=>rfl
  rcases hstep with⟨hstep,hne0⟩|⟨p,b,mp,hpo,hin,_⟩|⟨b,mp,hpo,_,hpan⟩
  case inr.inl=>
   have h1:=I.np p b mp hpo
   rw[hpre p hin] at h1
   cases h1
  case inr.inr=>
   obtain⟨hw,gop,args,tys,hh,caps,hop,hfn,hcall⟩:=hpan
   have hwant:=want_sound' (ops:=ops) rfl hw hreads
   have hei:da ops i:=⟨o,ho,by rw[hop];rfl⟩
   have hcc:c=i:=by
    rcases Nat.lt_trichotomy c i with q|q|q
    ·rcases hc3 with h|⟨⟨oc,hoc,hec⟩,hLc⟩
     ·omega
     ·obtain⟨o2,ho2,he2⟩:=hei
      rcases D.facts.effs c i oc o2 hoc ho2 hec he2 q with q4|⟨q4,_⟩|⟨l,q4⟩
      ·have:=hpre c q4
       rw[hLc] at this;cases this
      ·rw[ho] at ho2
       cases ho2
       rw[hop] at q4;cases q4
      ·rw[ho] at ho2
       cases ho2
       obtain⟨x,q5⟩:=q4.st'
       rw[hop] at q5;cases q5
    ·exact q
    ·have:=hc2 i q hei
     rw[hL] at this;cases this
   subst hcc
   have hM:M=bF tr s'.m c:=by
    cases lt with
    |none=>exact hlate
    |some j=>
     obtain⟨_,_,oc,oj,l,hoc,_,hlo,_⟩:=hlate
     rw[ho] at hoc
     cases hoc
     obtain⟨x,q5⟩:=hlo.st
     rw[hop] at q5;cases q5
   subst hM
   have hgm:gop∈o.op.operands.toList:=by rw[hop];simp[Op.operands,Call.operands]
   have hgv:=hρX gop
   rw[←hagree gop hgm,hfn,VR] at hgv
   obtain⟨us,hgv,hus⟩:=hgv
   obtain⟨hcb,hcalls⟩:=hcall
   have hargs:VRs w g (args.toList.map (opd C.gl (ik ops.toList tr s.tm c))++caps) (args.toList.map a.eval++us):=by
    rw[List.map_congr_left fun x hx=>hagree x (by rw[hop];simp only[Op.operands,Call.operands,Array.toList_append,List.mem_append];exact .inr hx)]
    exact(mg hρX).append hus
   refine fb ho hwant (by rw[hop];intro c e;cases e) (by rw[hY hop hgv hcb];intro _ _ _ e;cases e) ?_
   rw[hY hop hgv hcb,Oper.upon_enter]
   have:=hcalls w0 g w _ hsr hargs
   rw[show(args.toList.map a.eval++us).toArray=args.map a.eval++us.toArray from by apply Array.ext';simp] at this
   refine this.mono fun en w' hR=> ?_
   obtain⟨g',hs',hx,hres⟩:=hR
   cases en with
   |returned v=>exact hres.elim
   |panicked ch=>exact hP c b mp L g a w g' w' ch hpo hi I hs' hx hres
   |outgrown=>exact hres.elim
  have hnp:∀p b m,po=some (p,b,m)→p≠i:=by
   rintro p b m hpo rfl
   exact hne0 b m hpo
  have hci:da ops i→c=i∨(c<i∧JV ops d i o)∨(c<i∧∃oc l,ops[c]? =some oc∧LateOk ops d c i oc o l):=fun hei=>by
   rcases Nat.lt_trichotomy c i with q|q|q
   ·rcases hc3 with h|⟨⟨oc,hoc,hec⟩,hLc⟩
    ·omega
    ·obtain⟨o2,ho2,he2⟩:=hei
     rw[ho] at ho2
     cases ho2
     rcases D.facts.effs c i oc o hoc ho hec he2 q with q4|q4|⟨l,q4⟩
     ·have:=hpre c q4
      rw[hLc] at this;cases this
     ·exact .inr (.inl ⟨q,q4⟩)
     ·exact .inr (.inr ⟨q,oc,l,hoc,q4⟩)
   ·exact .inl q
   ·have:=hc2 i q hei
    rw[hL] at this;cases this
  have hclo':∀j,(if j=i then true else L j)=true→∀k∈d.pre.getD j [],(if k=i then true else L k)=true:=fun j hj k hk=>by
   split
   ·rfl
   ·split at hj
    ·rename_i h1;subst h1;exact hpre k hk
    ·exact I.clo j hj k hk
  have hnp':∀p b m,po=some (p,b,m)→(if p=i then true else L p)=false:=fun p b m hp=>by rw[if_neg (hnp p b m hp)];exact I.np p b m hp
  have hpd:∀(g':Gh) (w':World) (v:Value),Ext w g w' g'→∀j,c<j→da ops j→(if j=i then true else L j)=true→j≠i→lt=some j∨PendAt C ops d tr s w0 w1 j (B j) g' (a.put o.dst v) w':=fun g' w' v hx j hj hej hLj hji=>by
   rw[if_neg hji] at hLj
   rcases hB1 j hj hej hLj with q|q
   ·exact .inl q
   ·exact .inr (q.next D ho hji hx)
  /- an effect whose turn it is -/
  have finE:lt=none→c=i→∀(g':Gh) (w':World) (v:Value),Ext w g w' g'→VR w' g' e.v v→SR C.P C.gl w0 g' (bF tr s'.m (i+1)) w'→wpOpsIn (Fz ro) 0 C.P ops Q r (a.put o.dst v) w':=fun hlt hci g' w' v hx hv hs2=>by
   subst hci
   obtain⟨g'',m1,m2,m3⟩:=wf D (L:=fun j=>if j=c then true else L j) (a:=a.put o.dst v) (w:=w') (w0:=w0) (w1:=w1) (g1:=g1) hclo' hnp' (ops.size-(c+1)) (c+1) g' (by omega) hs2 (fun k hk hek=>by
     show(if k=c then true else L k)=true
     split
     ·rfl
     ·exact hc2 k (by omega) hek)
    (by
     have hN:=mQ.next D (c:=c+1) (fun j o' t e' q1 q2 q3 q4 q5=>hnew j o' t e' q1 q2 q3 q4 fun hej=>by
      have:=q5 hej
      rcases Nat.lt_or_ge j c with q|q
      ·exact q
      ·have:j=c:=by omega
       subst this
       rw[hL] at q2;cases q2) I.size ho he hd hx.toExtB (fun _=>hv)
     exact hN) (I.ext.trans hx)
    ⟨B,fun j hj hej hLj=>(hpd g' w' v hx j (by omega) hej hLj (by omega)).resolve_left (by rw[hlt];intro h;cases h),fun j k hj hej hLj hk hek hLk hjk=>by
     have hLj:(if j=c then true else L j)=true:=hLj
     have hLk:(if k=c then true else L k)=true:=hLk
     rw[if_neg (by omega)] at hLj hLk
     exact hB2 j k (by omega) hej hLj (by omega) hek hLk hjk⟩
   refine rec_ _ g'' _ w' htop (I.next D ho hL hnp hpre ?_ m2 m1)
   refine⟨fun b o hF=> ?_,Nat.le_trans hx.nb m3.nb,fun i hi=> ?_,fun i Lr hLr=> ?_⟩
   ·obtain⟨q1,q2⟩:=hx.fx b o hF
    exact⟨(m3.fx b o q1).1,q2⟩
   ·rw[m3.bb i (Nat.lt_of_lt_of_le hi hx.nb),hx.bb i hi]
   ·obtain⟨L1,q1,q2,q3,q4⟩:=hx.rl i Lr hLr
    obtain⟨L2,p1,p2,p3,p4⟩:=m3.rl i L1 q1
    refine⟨L2,p1,Nat.le_trans q2 p2,fun e=> ?_,p4.trans q4⟩
    have e1:L1=Lr:=by omega
    have e2:L2=L1:=by omega
    exact⟨(p3 e2).1.trans (q3 e1).1,(p3 e2).2.1.trans (q3 e1).2.1,(p3 e2).2.2.trans (q3 e1).2.2⟩
  /- what changes no memory -/
  have finN:¬da ops i→∀(g':Gh) (w':World) (v:Value),Ext w g w' g'→VR w' g' e.v v→SR C.P C.gl w0 g' M w'→wpOpsIn (Fz ro) 0 C.P ops Q r (a.put o.dst v) w':=fun hne g' w' v hx hv hs2=>by
   have hic:i≠c∨c=ops.size:=by
    by_cases h:i=c
    ·subst h
     rcases hc3 with q|⟨q,_⟩
     ·exact .inr q
     ·exact absurd q hne
    ·exact .inl h
   refine rec_ _ g' _ w' htop (I.next D ho hL hnp hpre hx.toExtB (I.ext.trans hx) ⟨c,lt,M,hc1,fun k hk hek=> ?_, ?_,hs2,mQ.next D hnew I.size ho he hd hx.toExtB (fun _=>hv), ?_,B,fun j hj hej hLj=>hpd g' w' v hx j hj hej hLj (fun q=>hne (by rw[←q];exact hej)),fun j k hj hej hLj hk hek hLk hjk=> ?_⟩)
   ·show(if k=i then true else L k)=true
    split
    ·rfl
    ·exact hc2 k hk hek
   ·rcases hc3 with q|⟨q1,q2⟩
    ·exact .inl q
    ·exact .inr ⟨q1,by show(if c=i then true else L c)=false;rw[if_neg (fun q=>hne (by rw[←q];exact q1))];exact q2⟩
   ·cases lt with
    |none=>exact hlate
    |some j=>
     obtain⟨q1,q2,q3⟩:=hlate
     refine⟨q1, ?_,q3⟩
     show(if j=i then true else L j)=true
     split
     ·rfl
     ·exact q2
   ·have hLj:(if j=i then true else L j)=true:=hLj
    have hLk:(if k=i then true else L k)=true:=hLk
    rw[if_neg (fun q=>hne (by rw[←q];exact hej))] at hLj
    rw[if_neg (fun q=>hne (by rw[←q];exact hek))] at hLk
    exact hB2 j k hj hej hLj hk hek hLk hjk
  rcases hstep with⟨hw,hv,hm1,hkd⟩|⟨hw,hrun⟩
  ·-- it does not run
   have hwant:=want_sound' (ops:=ops) rfl hw hreads
   refine yu ho hwant ?_
   have hvu:VR w g e.v undef:=by rw[hv,VR];exact⟨[],rfl,VRs.mk_nil⟩
   by_cases hei:da ops i
   ·rcases hci hei with q|⟨_,q⟩|⟨_,oc,l,_,q⟩
    ·cases lt with
     |none=>
      refine finE rfl q g w undef (Ext.refl _ _) hvu ?_
      rw[hm1]
      have hlate:M=bF tr s'.m c:=hlate
      rw[hlate,q] at hsr
      exact hsr
     |some j=>
      exfalso
      obtain⟨_,_,oc,oj,l,hoc,_,hlo,_⟩:=hlate
      rw[q,ho] at hoc
      cases hoc
      unfold cW at hw
      rw[hlo.gd] at hw
      cases hw
    ·exfalso
     unfold cW at hw
     rw[q.2.1] at hw
     cases hw
    ·exfalso
     unfold cW at hw
     rw[q.gd'] at hw
     cases hw
   ·exact finN hei g w undef (Ext.refl _ _) hvu hsr
  ·have hwant:=want_sound' (ops:=ops) rfl hw hreads
   have upon:∀(b:A) (m':Mem),b=e.v→jI C.P C.gl w0 w g m' b ((execOp a.eval o).run C.P w)→(∀g' w' v,Ext w g w' g'→VR w' g' e.v v→SR C.P C.gl w0 g' m' w'→wpOpsIn (Fz ro) 0 C.P ops Q r (a.put o.dst v) w')→(∀c,o.op≠ .defer c)→wpOpsIn (Fz ro) 0 C.P ops Q (i::r) a w:=by
    rintro b m' rfl hgd hm hnd
    refine fb ho hwant hnd (Bv hgd) ?_
    obtain⟨v,w',g',hr,hv,hs',hx⟩:=hgd
    rcases hr with hr|⟨hr,rfl⟩
    ·rw[hr];exact hm g' w' v hx hv hs'
    ·rw[hr];exact hm g' w' undef hx hv hs'
   rcases hrun with⟨gop,args,tys,hh,caps,hop,hfn,hcall,hkd⟩|⟨hnc,hopA,hkd⟩
   ·-- a call
    have hei:da ops i:=⟨o,ho,by rw[hop];rfl⟩
    have hcc:c=i:=by
     rcases hci hei with q|⟨_,q,_⟩|⟨_,oc,l,_,q⟩
     ·exact q
     ·rw[hop] at q;cases q
     ·obtain⟨x,q5⟩:=q.st'
      rw[hop] at q5;cases q5
    subst hcc
    have hln:lt=none:=by
     cases lt with
     |none=>rfl
     |some j=>
      obtain⟨_,_,oc,oj,l,hoc,_,hlo,_⟩:=hlate
      rw[ho] at hoc
      cases hoc
      obtain⟨x,q5⟩:=hlo.st
      rw[hop] at q5;cases q5
    subst hln
    have hlate:M=bF tr s'.m c:=hlate
    subst hlate
    have hgm:gop∈o.op.operands.toList:=by rw[hop];simp[Op.operands,Call.operands]
    have hgv:=hρX gop
    rw[←hagree gop hgm,hfn,VR] at hgv
    obtain⟨us,hgv,hus⟩:=hgv
    obtain⟨hcb,hcalls⟩:=hcall
    have hargs:VRs w g (args.toList.map (opd C.gl (ik ops.toList tr s.tm c))++caps) (args.toList.map a.eval++us):=by
     rw[List.map_congr_left fun x hx=>hagree x (by rw[hop];simp only[Op.operands,Call.operands,Array.toList_append,List.mem_append];exact .inr hx)]
     exact(mg hρX).append hus
    refine fb ho hwant (by rw[hop];intro c e;cases e) (by rw[hY hop hgv hcb];intro _ _ _ e;cases e) ?_
    rw[hY hop hgv hcb,Oper.upon_enter]
    have:=hcalls w0 g w _ hsr hargs
    rw[show(args.toList.map a.eval++us).toArray=args.map a.eval++us.toArray from by apply Array.ext';simp] at this
    refine this.mono fun en w' hR=> ?_
    obtain⟨g',hs',hx,hres⟩:=hR
    cases en with
    |returned v=>exact finE rfl rfl g' w' v hx hres hs'
    |panicked ch=>exact hres.elim
    |outgrown=>exact hres.elim
   ·rw[jP hagree] at hopA
    by_cases heo:eE o.op=true
    ·have hei:da ops i:=⟨o,ho,heo⟩
     rcases hci hei with hcc|⟨hcc,hal⟩|⟨hcc,oc,l,hoc,hlo⟩
     ·cases lt with
      |none=>
       have hlate:M=bF tr s'.m c:=hlate
       have hsr':=hsr
       rw[hlate,hcc] at hsr'
       exact upon _ _ rfl (fM hsr' o hopA hρX) (finE rfl hcc) (ly hopA)
      |some j=>
       subst hcc
       obtain⟨hcj,hLj,oc,oj,l,hoc,hoj,hlo,hrun⟩:=hlate
       rw[ho] at hoc
       cases hoc
       rw[jP hagree] at hrun
       have hev:e.v= .tup []:=by
        obtain⟨x,hst⟩:=hlo.st
        rw[hst] at hopA
        simp only[opA] at hopA
        obtain⟨m2,_,h2⟩:=Option.map_eq_some_iff.1 hopA
        simp only[Prod.mk.injEq] at h2
        exact h2.1.symm
       rw[←hev] at hrun
       refine upon _ _ rfl (fM hsr o hrun hρX) (fun g' w' v hx hv hs2=> ?_) (ly hrun)
       have hall:∀k,da ops k→k=c∨L k=true:=fun k hek=>by
        by_cases hkc:k=c
        ·exact .inl hkc
        ·by_cases hkj:k=j
         ·rw[hkj];exact .inr hLj
         ·obtain⟨ok,hok,hke⟩:=hek
          exact .inr (hc2 k (hlo.effs k ok hok hke hkc hkj).1 ⟨ok,hok,hke⟩)
       refine rec_ _ g' _ w' htop (I.next D ho hL hnp hpre hx.toExtB (I.ext.trans hx) ⟨ops.size,none,_,Nat.le_refl _,fun k hk hek=> ?_,.inl rfl,hs2, ?_, ?_,fun _=>0,fun k hk hek hLk=> ?_,fun k q hk hek hLk=> ?_⟩)
       ·show(if k=c then true else L k)=true
        split
        ·rfl
        ·rename_i hkc
         rcases hall k hek with q|q
         ·exact absurd q hkc
         ·exact q
       ·refine mQ.next D (fun k o' t e' q1 q2 q3 q4 q5=>hnew k o' t e' q1 q2 q3 q4 fun hek=> ?_) I.size ho he hd hx.toExtB (fun _=>hv)
        by_cases hkc:k=c
        ·subst hkc
         rw[hL] at q2;cases q2
        ·by_cases hkj:k=j
         ·subst hkj
          rw[hoj] at q1
          cases q1
          rw[hlo.ds'] at q3
          cases q3
         ·obtain⟨ok,hok,hke⟩:=hek
          exact(hlo.effs k ok hok hke hkc hkj).1
       ·show s'.m=bF tr s'.m ops.size
        unfold bF
        rw[List.getElem?_eq_none (by rw[D.valid.length];simp)]
        rfl
       ·obtain⟨ok,hok,_⟩:=hek
        have:=(Array.getElem?_eq_some_iff.1 hok).1
        omega
       ·obtain⟨ok,hok,_⟩:=hek
        have:=(Array.getElem?_eq_some_iff.1 hok).1
        omega
     ·-- an allocation that comes early
      have hln:lt=none:=by
       cases lt with
       |none=>rfl
       |some j=>
        obtain⟨_,hLj,oc,oj,l,_,hoj,hlo,_⟩:=hlate
        have hij:i≠j:=fun q=>by rw[q,hLj] at hL;cases hL
        have:=(hlo.effs i o ho heo (by omega) hij).1
        omega
      subst hln
      have hlate:M=bF tr s'.m c:=hlate
      subst hlate
      obtain⟨hT,hgn,_⟩:=hal
      obtain⟨us,T,val,hr,had⟩:=Dy (gl:=C.gl) hT hopA hρX
      obtain⟨n1,n2,n3⟩:=hsr.newLoose (.cells us T)
      have had':AK C.P C.gl o.op (opd C.gl (ik ops.toList tr s.tm i)) w.heap.size us T val:=fun w0 w g m m' a k1 k2 k3 k4 k5=>had w0 w g m m' a k1 k2 k3 k4 (by rw[jP hagree] at k5;exact k5)
      refine fb ho hwant (ly hopA) (by rw[hr];intro _ _ _ e;cases e) ?_
      rw[hr]
      show wpOpsIn (Fz ro) 0 C.P ops Q r (a.put o.dst val) (w.alloc (.cells us T))
      have hsz0:w1.heap.size≤w.heap.size:=I.ext.sz
      have hlast:(w.alloc (.cells us T)).heap[w.heap.size]? =some (.cells us T):=jR _ _
      refine rec_ _ g _ _ htop (I.next D ho hL hnp hpre n2.toExtB (I.ext.trans n2) ⟨c,none,_,hc1,fun k hk hek=> ?_, ?_,n1,mQ.next D hnew I.size ho he hd n2.toExtB (fun q=>by have:=q hei;omega), ?_,fun j=>if j=i then w.heap.size else B j,fun j hj hej hLj=> ?_,fun j k hj hej hLj hk hek hLk hjk=> ?_⟩)
      ·show(if k=i then true else L k)=true
       split
       ·rfl
       ·exact hc2 k hk hek
      ·rcases hc3 with q|⟨q1,q2⟩
       ·exact .inl q
       ·exact .inr ⟨q1,by show(if c=i then true else L c)=false;rw[if_neg (by omega)];exact q2⟩
      ·rfl
      ·refine .inr ?_
       by_cases hji:j=i
       ·subst hji
        simp only[if_true]
        refine⟨hsr.szB,hsz0,by simp,n3,o,us,T,val,ho,hT,hgn,fun t ht=> ?_,hlast,had'⟩
        rw[ht] at hd⊢
        simp only[Option.all_some,decide_eq_true_eq] at hd
        exact mJ (by rw[I.size];exact hd)
       ·simp only[hji,if_false]
        exact(hpd g _ _ n2 j hj hej hLj hji).resolve_left (by intro h;cases h)
      ·have hlt:∀j,c<j→da ops j→(if j=i then true else L j)=true→j≠i→B j<w.heap.size:=fun j q1 q2 q3 q4=>by
        rw[if_neg q4] at q3
        exact((hB1 j q1 q2 q3).resolve_left (by intro h;cases h)).lt
       by_cases hji:j=i
       ·by_cases hki:k=i
        ·rw[hji,hki]
        ·simp only[hji,hki,if_true,if_false] at hjk
         have:=hlt k hk hek hLk hki
         omega
       ·by_cases hki:k=i
        ·simp only[hji,hki,if_true,if_false] at hjk
         have:=hlt j hj hej hLj hji
         omega
        ·simp only[hji,hki,if_false] at hjk
         have hLj:(if j=i then true else L j)=true:=hLj
         have hLk:(if k=i then true else L k)=true:=hLk
         rw[if_neg hji] at hLj
         rw[if_neg hki] at hLk
         exact hB2 j k hj hej hLj hk hek hLk hjk
     ·-- a store that comes early
      have hei':i<ops.size:=hi
      have hln:lt=none:=by
       cases lt with
       |none=>rfl
       |some j=>
        obtain⟨_,hLj,oc,oj,l,_,hoj,hlo2,_⟩:=hlate
        have hij:i≠j:=fun q=>by rw[q,hLj] at hL;cases hL
        have:=(hlo2.effs i o ho heo (by omega) hij).1
        omega
      subst hln
      have hlate:M=bF tr s'.m c:=hlate
      subst hlate
      have hpo:po=none:=by
       cases hq:po with
       |none=>rfl
       |some z=>
        exfalso
        obtain⟨p,b,m⟩:=z
        have hLp:=I.np p b m hq
        have hpl:p<ops.size:=hpl p b m hq
        obtain⟨op_,hop_,hpe⟩:=D.pan_eff hq hpl
        by_cases hpc:p=c
        ·obtain⟨e2,_,_,_,hs2⟩:=D.step p op_ hop_
         rcases hs2 with⟨_,hne⟩|⟨p',b',m',hpo',hin,_⟩|⟨b',m',_,_,_,gop,args,tys,hh,caps,hop,_⟩
         ·exact absurd hq (hne b m)
         ·rw[hq] at hpo'
          simp only[Option.some.injEq,Prod.mk.injEq] at hpo'
          obtain⟨rfl,_,_⟩:=hpo'
          have:=D.pre_lt p _ hop_ hin
          omega
         ·rw[hpc,hoc] at hop_
          cases hop_
          obtain⟨x,q5⟩:=hlo.st
          rw[hop] at q5;cases q5
        ·have:=hpre p (hlo.effs p op_ hop_ hpe hpc (hnp p b m hq)).2.2
         rw[hLp] at this;cases this
      have hnoe:∀k,da ops k→k≠c→k≠i→k<c:=fun k ⟨ok,hok,hke⟩ h1 h2=>(hlo.effs k ok hok hke h1 h2).1
      have hmi:bF tr s'.m i=bF tr s'.m (c+1):=by
       have:=D.same (c+1) (i-(c+1)) (by omega) fun k h1 h2 hk=>by
        have:=hnoe k hk (by omega) (by omega)
        omega
       rwa [show c+1+(i-(c+1))=i by omega] at this
      have hme:bF tr s'.m (i+1)=s'.m:=by
       have:=D.same (i+1) (ops.size-(i+1)) (by omega) fun k h1 h2 hk=>by
        have:=hnoe k hk (by omega) (by omega)
        omega
       rw[show i+1+(ops.size-(i+1))=ops.size by omega] at this
       rw[←this]
       unfold bF
       rw[List.getElem?_eq_none (by rw[D.valid.length];simp)]
       rfl
      obtain⟨ec,hec,hecm,_,hsc⟩:=D.step c oc hoc
      obtain⟨x,hst⟩:=hlo.st
      obtain⟨y,hst'⟩:=hlo.st'
      have hcrun:opA C.P oc.op (opd C.gl (ik ops.toList tr s.tm c)) (bF tr s'.m c)=some (ec.v,bF tr s'.m (c+1)):=by
       rcases hsc with⟨⟨q,_⟩|⟨_,⟨gop,args,tys,hh,caps,hop,_⟩|⟨_,q,_⟩⟩,_⟩|⟨p,b,m,hp,_⟩|⟨b,m,hp,_⟩
       ·unfold cW at q
        rw[hlo.gd] at q
        cases q
       ·rw[hst] at hop;cases hop
       ·exact q
       ·rw[hpo] at hp;cases hp
       ·rw[hpo] at hp;cases hp
      have hirun:=hopA
      rw[←jP hagree,hst'] at hirun
      rw[hst] at hcrun
      simp only[opA] at hirun hcrun
      obtain⟨mc,hsc1,hsc2⟩:=Option.map_eq_some_iff.1 hcrun
      obtain⟨mi,hsi1,hsi2⟩:=Option.map_eq_some_iff.1 hirun
      simp only[Prod.mk.injEq] at hsc2 hsi2
      rw[hsc2.2] at hsc1
      rw[hsi2.2,hmi,hme] at hsi1
      have hdis:n8 (ao C.P l.t) (ao C.P l.u) (opd C.gl (ik ops.toList tr s.tm c) (.tmp l.sa)) (opd C.gl (ik ops.toList tr s.tm i) (.tmp l.sb)):=by
       have hln:=D.late hpo
       have:∀(L:List LateAnn),iR C.P tr s'.tm L→l∈L→n8 (ao C.P l.t) (ao C.P l.u) (gr tr s'.tm l.ka l.sa) (gr tr s'.tm l.kb l.sb):=by
        intro L
        induction L with
        |nil=>intro _ h;cases h
        |cons q r ih=>
         intro h hm
         rcases List.mem_cons.1 hm with rfl|hm
         ·exact h.1
         ·exact ih h.2 hm
       have:=this _ hln hlo.mem
       rw[D.addr hoc hlo.sl,D.addr ho hlo.sl'] at this
       exact this
      obtain⟨m3,hm3,hm4⟩:=Al hdis hsc1 hsi1
      have hrun3:opA C.P o.op ρX (bF tr s'.m c)=some (e.v,m3):=by
       rw[←jP hagree,hst']
       simp only[opA,hm3,Option.map_some,←hsi2.1]
      refine upon _ _ rfl (fM hsr o hrun3 hρX) (fun g' w' v hx hv hs2=> ?_) (ly hrun3)
      refine rec_ _ g' _ w' htop (I.next D ho hL hnp hpre hx.toExtB (I.ext.trans hx) ⟨c,some i,m3,hc1,fun k hk hek=> ?_, ?_,hs2,mQ.next D hnew I.size ho he hd hx.toExtB (fun _=>hv), ?_,B,fun k hk hek hLk=> .inl ?_,fun k q hk hek hLk hq heq hLq _=> ?_⟩)
      ·show(if k=i then true else L k)=true
       split
       ·rfl
       ·exact hc2 k hk hek
      ·rcases hc3 with q|⟨q1,q2⟩
       ·omega
       ·exact .inr ⟨q1,by show(if c=i then true else L c)=false;rw[if_neg (by omega)];exact q2⟩
      ·refine⟨hcc, ?_,oc,o,l,hoc,ho,hlo, ?_⟩
       ·show(if i=i then true else L i)=true
        rw[if_pos rfl]
       ·rw[hst]
        simp only[opA]
        have:dY C.P l.t (opd C.gl (ik ops.toList tr s.tm c) (.tmp l.sa)) (opd C.gl (ik ops.toList tr s.tm c) x) m3=some s'.m:=hm4
        rw[this]
        rfl
      ·by_cases hki:k=i
       ·rw[hki]
       ·have:=hnoe k hek (by omega) hki
        omega
      ·have h1:k=i:=by
        by_cases hki:k=i
        ·exact hki
        ·have:=hnoe k hek (by omega) hki
         omega
       have h2:q=i:=by
        by_cases hki:q=i
        ·exact hki
        ·have:=hnoe q heq (by omega) hki
         omega
       rw[h1,h2]
    ·have hei:¬da ops i:=fun⟨o2,ho2,he2⟩=>by rw[ho] at ho2;cases ho2;exact heo he2
     have heo':eE o.op=false:=by simpa using heo
     by_cases hl:∃t x,o.op= .load t x
     ·obtain⟨t,x,hl⟩:=hl
      have hln:lt=none:=by
       cases lt with
       |none=>rfl
       |some j=>
        obtain⟨_,hLj,oc,oj,l,_,hoj,hlo,_⟩:=hlate
        have:=I.clo j hLj i (hlo.lds i o t x ho hl)
        rw[hL] at this;cases this
      subst hln
      have hlate:M=bF tr s'.m c:=hlate
      subst hlate
      have hload:iw C.P t (ρX x) (bF tr s'.m c)=some e.v:=by
       have hent:tr[i]? =some ⟨.load t (opd C.gl (ik ops.toList tr s.tm i) x),e.v,e.m⟩:=by
        rw[he]
        obtain⟨kd,v,m⟩:=e
        simp only at hkd⊢
        rw[hkd,hl]
        rfl
       have hchk:=qE D.need (D.facts.need i o t x ho hl) _ _ _ _ hent
       have hxa:=hagree x (by rw[hl];simp[Op.operands])
       rw[hxa] at hchk
       have hreq:=uy (pre:=d.pre) (p:=i) (c:=c) (n:=ops.size) I.clo hL hpre (kt ops) (fun k hk hkc=>hc2 k hkc (kO.1 hk)) (List.Pairwise.filter _ (List.pairwise_lt_range))
       rcases hc3 with q|⟨q1,q2⟩
       ·have:=hchk.2 (hreq.2 fun k hk=>hc2 k (by
         have:=kO.1 hk
         obtain⟨ok,hok,_⟩:=this
         have:=(Array.getElem?_eq_some_iff.1 hok).1
         omega) (kO.1 hk))
        have hm:bF tr s'.m c=s'.m:=by
         unfold bF
         rw[List.getElem?_eq_none (by rw[D.valid.length];simp;omega)]
         rfl
        rw[hm]
        exact this
       ·have q1':=q1
        obtain⟨oc,hoc,_⟩:=q1'
        obtain⟨ec,hec,hecm,_⟩:=D.step c oc hoc
        have:=hchk.1 c (hreq.1 ⟨kO.2 q1,q2⟩) ec hec
        rw[←hecm]
        exact this
      have hop':opA C.P o.op ρX (bF tr s'.m c)=some (e.v,bF tr s'.m c):=by
       rw[hl]
       simp only[opA,hload,Option.map_some]
      exact upon _ _ rfl (fM hsr o hop' hρX) (finN hei) (ly hop')
     ·have:=(Be (m':=M) heo' (fun t x q=>hl ⟨t,x,q⟩) hopA).2
      exact upon _ _ rfl (fM hsr o this hρX) (finN hei) (ly this)
theorem zN {ro:Option Nat} (hm:C.P.follows .mixedOrders=true) {id:Nat} {k:Option (List Nat)} {w:World} {g:Gh} {a:Act} {x:Ex×St} {ok:Bool} {tr0:List Ent} {y:Option (A×Mem)×St} (hok:ok=true→sE ops d=true) (hr:iu C nt ops.toList ops.toList s tr0 y) (he:hS C.P C.gl nt ok d ops.toList tr0 k y=some x)
  (hsz:a.tmps.size=nt) (hs:SR C.P C.gl w0 g s.m w) (ht:TmR w g s.tm a.tmps):(Code.region id ops true).wpIn (Fz ro) 0 C.P (hZ C w0 w g nt a.defers x) a w:=by
 have main:∀(po:Option (Nat×A×Mem)) (s':St) (tr:List Ent),iV C nt d po ops.toList 0 ops.toList s tr s'→ok=true→iz C.P tr s'.m d.need→(po=none→iR C.P tr s'.tm d.late)→(∀p b m,po=some (p,b,m)→p<ops.size)→
   (∀L g' a' w',po=none→(∀i,i<ops.size→L i=true)→Inv C nt ops d po s s' tr w0 a.defers w g L g' a' w'→Drawn C nt ops d po s s' tr→SR C.P C.gl w0 g' s'.m w'→(∀(i:Nat) (o:Oper) (t:Nat) (e:Ent),ops[i]? =some o→o.dst=some t→tr[i]? =some e→VR w' g' e.v (a'.tmps.getD t undef))→hZ C w0 w g nt a.defers x .normal a' w')→
   (∀p b m L g1 a' w1 g' w' ch,po=some (p,b,m)→Inv C nt ops d po s s' tr w0 a.defers w g L g1 a' w1→Drawn C nt ops d po s s' tr→SR C.P C.gl w0 g' m w'→Ext w1 g1 w' g'→oL w' g' (.pan b) (.panicked ch)→hZ C w0 w g nt a.defers x (.panic ch) a' w')→
   (Code.region id ops true).wpIn (Fz ro) 0 C.P (hZ C w0 w g nt a.defers x) a w:=by
  intro po s' tr hv c1 c2 c3 hlt hN hPn
  replace c1:=hok c1
  have F:=wS c1
  have D:Drawn C nt ops d po s s' tr:=⟨hv,F,c2,c3⟩
  obtain⟨hsd,hed⟩:=hs.drew
  refine wpIn_region_draw fun t=> ?_
  refine pY (ro:=ro) D hlt (w0:=w0) (w1:=w) (g1:=g) (df:=a.defers) ?_ ?_ _ (fun _=>false) g a w.drew (tK ops F.lt _ hm t) ?_
  ·intro L g' a' w' hall I
   obtain⟨c,lt,M,h1,h2,h3,h4,h5,h6,_⟩:=I.mem
   have hcs:c=ops.size:=by
    rcases h3 with q|⟨⟨oc,hoc,_⟩,q⟩
    ·exact q
    ·rw[hall c (Array.getElem?_eq_some_iff.1 hoc).1] at q
     cases q
   have hM:M=bF tr s'.m c:=by
    cases lt with
    |none=>exact h6
    |some j=>
     obtain⟨_,_,oc,oj,l,hoc,_⟩:=h6
     have:=(Array.getElem?_eq_some_iff.1 hoc).1
     omega
   subst hM
   have hmem:bF tr s'.m c=s'.m:=by
    unfold bF
    rw[List.getElem?_eq_none (by rw[hv.length];simp;omega)]
    rfl
   rw[hmem] at h4
   have hpo:po=none:=by
    cases hq:po with
    |none=>rfl
    |some z=>
     obtain⟨p,b,m⟩:=z
     have h5:=I.np p b m hq
     rw[hall p (hlt p b m hq)] at h5;cases h5
   refine hN L g' a' w' hpo hall I D h4 fun i o t e q1 q2 q3=>h5 i o t e q1 (hall i (Array.getElem?_eq_some_iff.1 q1).1) q2 q3 fun _=> ?_
   rcases h3 with q|⟨⟨oc,hoc,_⟩,q⟩
   ·have:=(Array.getElem?_eq_some_iff.1 q1).1
    omega
   ·rw[hall c (Array.getElem?_eq_some_iff.1 hoc).1] at q
    cases q
  ·intro p b m L g1 a' w1 g' w' ch hpo _ I h1 h2 h3
   exact hPn p b m L g1 a' w1 g' w' ch hpo I D h1 h2 h3
  ·refine⟨hsz,rfl,(fun i hi=>by cases hi),fun t _=>VR.mono hed _ _ (ht t), ?_,hed,fun _ _ _ _=>rfl⟩
   obtain⟨c,h1,h2,h3,h4⟩:=EZ (da ops) ops.size ops.size 0 (by omega)
   refine⟨c,none,_,h2,fun k hk hek=>absurd hek (h3 k (Nat.zero_le _) hk), ?_, ?_,(fun i o t e _ hi=>by cases hi),rfl,fun _=>0,(fun i _ _ hi=>by cases hi),fun i j _ _ hi=>by cases hi⟩
   ·rcases h4 with q|q
    ·exact .inl q
    ·exact .inr ⟨q,rfl⟩
   ·have:=D.same 0 c (by omega) fun k _ hk hek=>h3 k (Nat.zero_le _) (by omega) hek
    rw[Nat.zero_add] at this
    rw[this,hv.head]
    exact hsd
 obtain⟨po,s1⟩:=y
 cases po with
 |none=>
  unfold hS at he
  simp only at he
  split at he
  ·rename_i hc
   simp only[Option.some.injEq] at he
   subst he
   have hv:=hr.valid (d:=d) (i:=0)
   refine main none s1 tr0 hv hc.1 hc.2.1 (fun _=>hc.2.2) (fun p b m e=>by cases e) ?_ (fun p b m L g1 a' w1 g' w' ch e=>by cases e)
   intro L g' a' w' _ hall I D h4 hfin
   have F:=D.facts
   refine⟨g',h4,I.ext,TmR.prune _ fun t=> ?_,I.size,I.dfr,trivial⟩
   rw[hv.last]
   by_cases hex:∃(j:Nat) (o':Oper),ops[j]? =some o'∧o'.dst=some t
   ·obtain⟨j,o',ho',hd'⟩:=hex
    obtain⟨e',he',_⟩:=D.step j o' ho'
    have hj:=(Array.getElem?_eq_some_iff.1 ho').1
    rw[oC ops.toList tr0 s.tm ops.toList.length j t o' e' (by simpa using hj) (by simpa using ho') he' hd' fun k o'' hk hk' hdk=>F.dst k j o'' o' t (by simpa using hk') ho' hk hdk hd']
    exact hfin j o' t e' ho' hd' he'
   ·rw[i8 ops.toList tr0 s.tm _ t fun k o'' hk hk' hdk=>hex ⟨k,o'',by simpa using hk',hdk⟩]
    exact I.old t fun k o'' hk' hdk=>absurd ⟨k,o'',hk',hdk⟩ hex
  ·cases he
 |some z=>
  obtain⟨b,mp⟩:=z
  unfold hS at he
  simp only at he
  obtain⟨⟨tr2,s'⟩,h1,h2⟩:=Option.bind_eq_some_iff.1 he
  simp only at h2
  split at h2
  ·rename_i hc
   simp only[Option.some.injEq] at h2
   subst h2
   have hpos:=hr.pan_pos
   have hv:=hr.valid_pan (d:=d) (i:=0) (p:=tr0.length-1) (tr2:=tr2) (s':=s') (by omega) (by rw[Nat.zero_add];exact h1)
   have hvl:=hv.length
   refine main _ s' _ hv hc.1 hc.2 (fun e=>by cases e) (fun p b m e=>by simp only[Option.some.injEq,Prod.mk.injEq] at e;simp at hvl;omega) (fun L g' a' w' e=>by cases e) ?_
   intro p b' m' L g1 a' w1 g' w' ch hpo I D h3 h4 h5
   simp only[Option.some.injEq,Prod.mk.injEq] at hpo
   obtain⟨rfl,rfl,rfl⟩:=hpo
   refine⟨g',h3,I.ext.trans h4,fun t=> ?_,I.size,I.dfr,h5⟩
   have hmask:∀(l:List Oper) (tm:List (Nat×A)),(∃o∈l,o.dst=some t)→lk t ((l.filterMap fun o=>o.dst.map fun t=>(t,A.undef))++tm)= .undef:=by
    intro l tm
    induction l with
    |nil=>rintro⟨o,ho,_⟩;cases ho
    |cons o r ih=>
     intro hex
     cases hd:o.dst with
     |none=>
      simp only[List.filterMap_cons,hd,Option.map_none]
      refine ih ?_
      obtain⟨o',ho',hd'⟩:=hex
      rcases List.mem_cons.1 ho' with rfl|h
      ·rw[hd] at hd';cases hd'
      ·exact⟨o',h,hd'⟩
     |some u=>
      simp only[List.filterMap_cons,hd,Option.map_some,List.cons_append,lk]
      split
      ·rfl
      ·rename_i hut
       refine ih ?_
       obtain⟨o',ho',hd'⟩:=hex
       rcases List.mem_cons.1 ho' with rfl|h
       ·rw[hd] at hd';exact absurd (Option.some.inj hd') hut
       ·exact⟨o',h,hd'⟩
   have hmask2:∀(l:List Oper) (tm:List (Nat×A)),(∀o∈l,o.dst≠some t)→lk t ((l.filterMap fun o=>o.dst.map fun t=>(t,A.undef))++tm)=lk t tm:=by
    intro l tm
    induction l with
    |nil=>intro _;rfl
    |cons o r ih=>
     intro hne
     cases hd:o.dst with
     |none=>
      simp only[List.filterMap_cons,hd,Option.map_none]
      exact ih fun o' ho'=>hne o' (by simp[ho'])
     |some u=>
      have hut:¬u=t:=fun e=>hne o (by simp) (by rw[hd,e])
      simp only[List.filterMap_cons,hd,Option.map_some,List.cons_append,lk,if_neg hut]
      exact ih fun o' ho'=>hne o' (by simp[ho'])
   by_cases hex:∃o∈ops.toList,o.dst=some t
   ·show VR _ _ (lk t (eH ops.toList s1.tm)) _
    rw[eH,hmask _ _ hex,VR]
    trivial
   ·have hno:∀o∈ops.toList,o.dst≠some t:=fun o ho e=>hex ⟨o,ho,e⟩
    show VR _ _ (lk t (eH ops.toList s1.tm)) _
    rw[eH,hmask2 _ _ hno,hr.slots hno]
    refine VR.mono h4 _ _ (I.old t fun k o'' hk' hdk=>absurd hdk (hno o'' ?_))
    have:=(Array.getElem?_eq_some_iff.1 hk')
    rw[←this.2]
    exact Array.getElem_mem_toList this.1
  ·cases h2
end
end AE
end Go.Proofs.YtmfdpijmholedaaGreatDoor
/- THE EVALUATOR IS SOUND: functions that defer a call that recovers. -/
set_option linter.unusedVariables false
set_option linter.unusedSimpArgs false
set_option linter.unusedSectionVars false
set_option maxHeartbeats 1600000
namespace Go.Proofs.YtmfdpijmholedaaGreatDoor
namespace AE
open Go Go.RowKit
section
variable {C:Cfg}
theorem iL:∀(l:List A) (us:List Value) (w:World) (g:Gh) (n t:Nat) (rest:Array Value) (pre:List Value),pre.length=n→VRs w g l us→VR w g (lk t (bi n l)) ((pre.toArray++us.toArray++rest).getD t undef)
 |[],us,w,g,n,t,rest,pre,_,h=>by rw[bi,lk,VR];trivial
 |a::r,us,w,g,n,t,rest,pre,hp,h=>by
  rw[VRs.cons_iff] at h
  obtain⟨u,us',rfl,h1,h2⟩:=h
  rw[bi,lk]
  split
  ·rename_i ht
   subst ht
   have:(pre.toArray++(u::us').toArray++rest).getD n undef=u:=by
    rw[Array.getD_eq_getD_getElem?]
    have:(pre.toArray++(u::us').toArray++rest)[n]? =some u:=by
     rw[←Array.getElem?_toList]
     simp[List.getElem?_append_right,hp]
    rw[this]
    rfl
   rw[this]
   exact h1
  ·have:=iL r us' w g (n+1) t rest (pre++[u]) (by simp[hp]) h2
   have e:((pre++[u]).toArray++us'.toArray++rest)=(pre.toArray++(u::us').toArray++rest):=by
    apply Array.ext'
    simp
   rwa [e] at this
theorem vW{a:Code}{t:Nat}{g:FuncId}{caps:List Operand}(h:iI a=some (t,g,caps)):
  ∃id ops cs ty1 ty2 p1 p2 e1 e2 tys,a= .region id ops false∧cs.toList=caps∧
   ops.toList=[⟨some t,.makeFunc (.func g) #[] cs,ty1,p1,e1,none⟩,⟨none,.defer {callee:= .value (.tmp t),args:= #[],argTypes:=tys},ty2,p2,e2,none⟩]:=by
 unfold iI at h
 split at h
 ·rename_i id ops
  split at h
  ·rename_i heq
   split at h
   ·rename_i hc
    simp only[Option.some.injEq,Prod.mk.injEq] at h
    obtain⟨rfl,rfl,rfl⟩:=h
    obtain⟨rfl,h1,h2⟩:=hc
    rw[Array.eq_empty_of_size_eq_zero h1,Array.eq_empty_of_size_eq_zero h2] at heq
    exact⟨_,_,_,_,_,_,_,_,_,_,rfl,rfl,heq⟩
   ·cases h
  ·cases h
 ·cases h
theorem wG{P:Program}{g:FuncId}{nt d:Nat}{rest:Code}{t:Nat}(h:d9 P g=some (nt,t,d,rest)):
  ∃fn id ops ty1 ty2 p1 p2 e1 e2,P.funcs[g]? =some fn∧fn.name≠ "runtime.NumGoroutine" ∧fn.results= #[]∧fn.ntmps=nt∧fn.body=some (.seq (.region id ops false) rest)∧t<nt∧d<nt∧
   ops.toList=[⟨some t,.call {callee:= .builtin .recover,args:= #[],argTypes:= #[]},ty1,p1,e1,none⟩,⟨some d,.assign (.tmp t),ty2,p2,e2,none⟩]:=by
 unfold d9 at h
 split at h
 ·cases h
 ·rename_i fn hfn
  split at h
  ·cases h
  ·rename_i hn
   simp only[not_or,ne_eq,Decidable.not_not] at hn
   split at h
   ·rename_i id ops rest' hb
    split at h
    ·rename_i heq
     split at h
     ·rename_i hc
      simp only[Option.some.injEq,Prod.mk.injEq] at h
      obtain⟨rfl,rfl,rfl,rfl⟩:=h
      obtain⟨rfl,h1,h2,h3,h4⟩:=hc
      rw[Array.eq_empty_of_size_eq_zero h3,Array.eq_empty_of_size_eq_zero h4] at heq
      exact⟨fn,_,_,_,_,_,_,_,_,hfn,hn.1,Array.eq_empty_of_size_eq_zero hn.2,rfl,hb,h1,h2,heq⟩
     ·cases h
    ·cases h
   ·cases h
theorem D2{ops:Array Oper}{x y:Oper}(h:ops.toList=[x,y]):ops[0]? =some x∧ops[1]? =some y∧ops.size=2:=by
 have h0:ops= #[x,y]:=by apply Array.ext';rw[h]
 subst h0
 exact⟨rfl,rfl,rfl⟩
theorem xe{P:Program}{ops:Array Oper}{Q:Exit→Act→List Frame→World→Prop}{i:Nat}{rest:List Nat}{a:Act}{cs:List Frame}{w:World}{o:Oper}{v:Value}(ho:ops[i]? =some o)(hw:o.guard=none)(hr:(execOp a.eval o).run P w= .ok (.value v) w)(h:wpOpsS P ops Q rest (a.put o.dst v) cs w):wpOpsS P ops Q (i::rest) a cs w:=by
 have hw':Region.wanted o (yielded ops a.tmps)=true:=by unfold Region.wanted;rw[hw]
 simp only[wpOpsS,ho,hw',if_true,hr]
 exact h
theorem tR {P:Program} {ops:Array Oper} {Q:Exit→Act→List Frame→World→Prop} {i:Nat} {rest:List Nat} {a:Act} {cs:List Frame} {w:World} {o:Oper} {v:Value} {cs1:List Frame} (ho:ops[i]? =some o) (hw:o.guard=none) (hr:(execOp a.eval o).run P w= .ok .recover w)
  (hc:(recoverD cs=none∧v= .nilIface∧cs1=cs)∨recoverD cs=some (v,cs1)) (h:wpOpsS P ops Q rest (a.put o.dst v) cs1 w):wpOpsS P ops Q (i::rest) a cs w:=by
 have hw':Region.wanted o (yielded ops a.tmps)=true:=by unfold Region.wanted;rw[hw]
 simp only[wpOpsS,ho,hw',if_true,hr]
 rcases hc with⟨h1,rfl,rfl⟩|h1
 ·rw[h1];exact h
 ·rw[h1];exact h
theorem oU (hC:CfgOk C) {evR:FuncId→Nat→Code→St→Option (Ex×St)} {evK:FuncId→Nat→Code→St→Option (Ex×St)}
  (hrk:∀f nt c s x,evR f nt c s=some x→uz C f nt c s x) (hk:∀f nt c s x,evK f nt c s=some x→iP C f nt c s x)
  (f:FuncId) (nt:Nat) (c:Code) (s:St) (x:Ex×St)
  (h:(match c with
   | .seq a b=>
     match iI a with
     |some d=>
      if d.1<nt then(do
       let x ←evK f nt b ⟨put (some d.1) (.fn d.2.1 (d.2.2.map (opd C.gl s.tm))) s.tm,s.m⟩
       match iT x.1,d9 C.P d.2.1 with
        |some v,some r=>
         if d.2.2.length≤r.1 then(do
          let y ←evK d.2.1 r.1 r.2.2.2 ⟨put (some r.2.2.1) v (put (some r.2.1) v (bi 0 (d.2.2.map (opd C.gl s.tm)))),x.2.m⟩
          match y.1 with
           | .normal=>some (.ret,⟨x.2.tm,y.2.m⟩)
           | .ret=>some (.ret,⟨x.2.tm,y.2.m⟩)
           |_=>none)
         else none
        |_,_=>none)
      else none
     |none=>(do
      let x ←evK f nt a s
      match x.1 with
       | .normal=>evR f nt b x.2
       |e=>some (e,x.2))
   |c=>evK f nt c s)=some x):uz C f nt c s x:=by
 intro hpart fn R w0 g w a hsz hdf hs ht hfin
 have plain:∀c',cJ C f c'→evK f nt c' s=some x→c'.wp C.P (bodyPostD C.P fn R) a w:=by
  intro c' hp h
  refine wp_mono (xc (hk _ _ _ _ _ h hp none w0 g w a hsz hs ht).1) fun ex a' w' hp=> ?_
  obtain⟨g',p1,p2,p3,p4,p5,p6⟩:=hp
  have:=hfin ex g' w' a'.tmps p1 p2 p3 p6
  obtain⟨tmps,df⟩:=a'
  rw[hdf] at p5
  simp only at p5
  subst p5
  exact this
 split at h
 case h_2=>exact plain _ hpart h
 case h_1 c1 c2=>
 cases hd:iI c1 with
 |none=>
  simp only[hd] at h
  refine wp_seq ?_
  obtain⟨⟨e,s'⟩,h1,h2⟩:=Option.bind_eq_some_iff.1 h
  refine wp_mono (xc (hk _ _ _ _ _ h1 (hpart.sub (by simp[Sub,Sub.refl])) none w0 g w a hsz hs ht).1) fun ex a' w' hp=> ?_
  obtain⟨g',p1,p2,p3,p4,p5,p6⟩:=hp
  by_cases hne:e= .normal
  ·subst hne
   simp only at h2
   cases ex<;>first|exact p6.elim|skip
   exact hrk _ _ _ _ _ h2 (hpart.sub (by simp[Sub,Sub.refl])) fn R w0 g' w' a' p4 (by rw[p5,hdf]) p1 p3 fun e2 g2 w2 tm2 q1 q2 q3 q4=>hfin e2 g2 w2 tm2 q1 (p2.trans q2) q3 q4
  ·have:x=(e,s'):=by cases e<;>first|exact absurd rfl hne|(simp only[Option.some.injEq] at h2;exact h2.symm)
   subst this
   have:=hfin ex g' w' a'.tmps p1 p2 p3 p6
   have hb:bodyPostD C.P fn R ex a' w':=by
    obtain⟨tmps,df⟩:=a'
    rw[hdf] at p5
    simp only at p5
    subst p5
    exact this
   cases ex with
   |normal=>cases e<;>first|exact absurd rfl hne|exact p6.elim
   |_=>exact hb
 |some d=>
  obtain⟨t,gf,caps⟩:=d
  simp only[hd] at h
  split at h
  case isFalse=>cases h
  case isTrue htn=>
  obtain⟨⟨e,s'⟩,h1,h2⟩:=Option.bind_eq_some_iff.1 h
  simp only at h2
  cases hv:iT e with
  |none=>simp only[hv] at h2;cases h2
  |some rv=>
  cases hrb:d9 C.P gf with
  |none=>simp only[hv,hrb] at h2;cases h2
  |some r=>
  obtain⟨gnt,gt,gd,rest⟩:=r
  simp only[hv,hrb] at h2
  split at h2
  case isFalse=>cases h2
  case isTrue hcl=>
  obtain⟨⟨ey,sy⟩,h3,h4⟩:=Option.bind_eq_some_iff.1 h2
  obtain⟨id,ops,cs,ty1,ty2,p1,p2,e1,e2,tys,rfl,rfl,hops⟩:=vW hd
  obtain⟨hop0,hop1,hops2⟩:=D2 hops
  obtain⟨gfn,gid,gops,gty1,gty2,gp1,gp2,ge1,ge2,hgf,hgn,hgr,rfl,hgb,hgt,hgdn,hgops⟩:=wG hrb
  obtain⟨hg0,hg1,hgsz⟩:=D2 hgops
  have hopd:=ht.opd (C:=C) hs.gl
  have hcaps:VRs w g (cs.toList.map (opd C.gl s.tm)) (cs.toList.map a.eval):=mg hopd
  refine wp_seq (wp_region ?_)
  rw[hops2]
  show wpOps C.P ops _ [0,1] a w
  have hw0:Region.wanted (⟨some t,.makeFunc (.func gf) #[] cs,ty1,p1,e1,none⟩:Oper) (yielded ops a.tmps)=true:=rfl
  simp only[wpOps,hop0,hw0,if_true]
  refine .inl ?_
  unfold Oper.wp
  have hr0:(execOp a.eval (⟨some t,.makeFunc (.func gf) #[] cs,ty1,p1,e1,none⟩:Oper)).run C.P w= .ok (.value (.func (.func gf) #[] (cs.map a.eval))) w:=by
   simp only[execOp,Instr.makeFunc,Sem.run_bind,Sem.run_pure,Result.andThen_ok,Array.map_empty]
  rw[hr0,Oper.upon_value]
  simp only[wpOps,hop1]
  have hfnv:VR w g (.fn gf (cs.toList.map (opd C.gl s.tm))) (.func (.func gf) #[] (cs.map a.eval)):=by
   rw[VR]
   exact⟨cs.toList.map a.eval,by rw[←Array.toList_map,Array.toArray_toList],hcaps⟩
  have htn':(some t).all (· <a.tmps.size)=true:=by simp[hsz,htn]
  have ht1:=ht.put htn' hfnv
  generalize ha1:a.put (some t) (.func (.func gf) #[] (cs.map a.eval))=a1 at ht1
  have hsz1:a1.tmps.size=nt:=by rw[←ha1,eL,hsz]
  have hdf1:a1.defers=[]:=by rw[←ha1,bZ,hdf]
  have hev1:a1.eval (.tmp t)= .func (.func gf) #[] (cs.map a.eval):=by
   rw[←ha1]
   simp only[Act.eval,Act.put,Array.getD_eq_getD_getElem?,Array.getElem?_setIfInBounds,if_true,hsz,htn,Option.getD_some]
  refine .inl ?_
  have hr1:(execOp a1.eval (⟨none,.defer {callee:= .value (.tmp t),args:= #[],argTypes:=tys},ty2,p2,e2,none⟩:Oper)).run C.P w= .ok (.defer {target:= .fn (.func gf) (cs.map a.eval),args:= #[]}) w:=by
   simp only[execOp,resolve,hev1,Deferred.ofValue,Sem.run_bind,Sem.run_pure,Result.andThen_ok,Array.map_empty,Array.empty_append]
  show Oper.upon C.P _ a1 _ _ ((execOp a1.eval _).run C.P w)
  rw[hr1,Oper.upon_defer]
  show Exit.then _ _ .normal _ w
  simp only[Exit.then]
  refine wp_mono (xc (hk _ _ _ _ _ h1 (hpart.sub (by simp[Sub,Sub.refl])) none w0 g w {a1 with defers:={target:= .fn (.func gf) (cs.map a.eval),args:= #[]}::a1.defers} hsz1 hs ht1).1) fun ex a' w' hp=> ?_
  obtain⟨g',p1,p2,p3,p4,p5,p6⟩:=hp
  rw[hdf1] at p5
  have hcaps':=hcaps.mono p2
  have henter:(invoke (.fn (.func gf) (cs.map a.eval)) #[]).run C.P w'= .ok (.enter gf (cs.map a.eval)) w':=by
   have h3':(gfn.name== "runtime.NumGoroutine")=false:=by simpa using hgn
   simp only[invoke,callFunc,Sem.run_bind,run_program,Result.andThen_ok,hgf,h3',Bool.false_eq_true,if_false,hgb,Option.isNone_some,Array.empty_append,Sem.run_pure]
  have hvl:(cs.map a.eval).size≤gfn.ntmps:=by simpa using hcl
  /- the rest of the function that was deferred -/
  have hrest:∀(v:Value) (K:Exit→Act→World→Prop),VR w' g' rv v→
    (∀g2 w2 (a2:Act),SR C.P C.gl w0 g2 sy.m w2→Ext w' g' w2 g2→a2.defers=[]→x=(.ret,⟨s'.tm,sy.m⟩)→K .normal a2 w2∧K .ret a2 w2)→
    ∀b:Act,b.defers=[]→b.tmps=((cs.map a.eval++Array.replicate (gfn.ntmps-(cs.map a.eval).size) undef).setIfInBounds gt v).setIfInBounds gd v→
    rest.wp C.P K b w':=by
   intro v K hvv hK b hbd hbt
   have hbs:b.tmps.size=gfn.ntmps:=by rw[hbt];simp;simp at hvl;omega
   have hargs:TmR w' g' (bi 0 (cs.toList.map (opd C.gl s.tm))) (cs.map a.eval++Array.replicate (gfn.ntmps-(cs.map a.eval).size) undef):=fun u=>by
    have:=iL _ _ w' g' 0 u (Array.replicate (gfn.ntmps-(cs.map a.eval).size) undef) [] rfl hcaps'
    rw[show([]:List Value).toArray++(cs.toList.map a.eval).toArray=cs.map a.eval from by apply Array.ext';simp] at this
    exact this
   have hall:TmR w' g' (put (some gd) rv (put (some gt) rv (bi 0 (cs.toList.map (opd C.gl s.tm))))) b.tmps:=by
    have hz:(cs.map a.eval++Array.replicate (gfn.ntmps-(cs.map a.eval).size) undef).size=gfn.ntmps:=by simp;simp at hvl;omega
    have h1:=TmR.put (a:={tmps:=cs.map a.eval++Array.replicate (gfn.ntmps-(cs.map a.eval).size) undef,defers:=[]}) (d:=some gt) hargs (by simp only[Option.all_some,decide_eq_true_eq,hz];exact hgt) hvv
    have h2:=TmR.put (d:=some gd) h1 (by simp only[Option.all_some,decide_eq_true_eq,eL,hz];exact hgdn) hvv
    rw[hbt]
    exact h2
   refine wp_mono (xc (hk _ _ _ _ _ h3 ⟨gfn,_,hgf,hgb,by simp[Sub,Sub.refl]⟩ none w0 g' w' b hbs p1 hall).1) fun ex2 a2 w2 hp2=> ?_
   obtain⟨g2,q1,q2,q3,q4,q5,q6⟩:=hp2
   cases ey with
   |exit i=>cases h4
   |pan b=>cases h4
   |normal=>
    simp only[Option.some.injEq] at h4
    cases ex2<;>first|exact q6.elim|skip
    exact(hK g2 w2 a2 q1 q2 (by rw[q5,hbd]) h4.symm).1
   |ret=>
    simp only[Option.some.injEq] at h4
    cases ex2<;>first|exact q6.elim|skip
    exact(hK g2 w2 a2 q1 q2 (by rw[q5,hbd]) h4.symm).2
  have hcall:∀(u u2:FrameMode) (v:Value),u≠ .run→VR w' g' rv v→settle u2= .returning→
    (∀(c0:Frame) (cs0:List Frame),c0.mode=u→(recoverD (c0::cs0)=none∧v= .nilIface∧u2=u)∨recoverD (c0::cs0)=some (v,{c0 with mode:=u2}::cs0))→
    Leaves C.P fn a'.tmps R [{target:= .fn (.func gf) (cs.map a.eval),args:= #[]}] u w':=by
   intro u u2 v hu hvv hset hrec
   refine leaves_cons hu henter (callsD_of_wpS hgf hgb fun c0 cs0 hc0=>wpS_seq (wpS_region ?_))
   rw[hgsz]
   show wpOpsS C.P gops _ [0,1] _ _ w'
   refine tR (v:=v) (cs1:={c0 with mode:=u2}::cs0) hg0 rfl rfl ?_ ?_
   ·rcases hrec c0 cs0 hc0 with⟨h1,h2,h3⟩|h1
    ·exact .inl ⟨h1,h2,by rw[h3,←hc0]⟩
    ·exact .inr h1
   have hz:(cs.map a.eval++Array.replicate (gfn.ntmps-(cs.map a.eval).size) undef).size=gfn.ntmps:=by simp;simp at hvl;omega
   have hev:(Act.put {tmps:=cs.map a.eval++Array.replicate (gfn.ntmps-(cs.map a.eval).size) undef,defers:=[]} (some gt) v).eval (.tmp gt)=v:=by
    simp only[Act.eval,Act.put,Array.getD_eq_getD_getElem?,Array.getElem?_setIfInBounds,if_true,hz,hgt,Option.getD_some]
   refine xe (v:=v) hg1 rfl ?_ ?_
   ·show Result.ok (Next.value (Act.eval _ (.tmp gt))) w'=_
    rw[hev]
   show rest.wpS C.P _ _ _ w'
   refine wpS_of_wp (hrest v _ hvv ?_ _ rfl rfl)
   intro g2 w2 a2 q1 q2 q3 hx
   subst hx
   have hl:Leaves C.P fn a'.tmps R [] (settle u2) w2:=by
    rw[hset]
    exact hfin .ret g2 w2 a'.tmps q1 (p2.trans q2) (p3.mono q2) trivial
   have hres:(results gfn a2.tmps).run C.P w2= .ok (.tuple #[]) w2:=by
    unfold results
    rw[hgr,Sem.run_bind,Array.mapM_eq_mapM_toList,Sem.run_map]
    rfl
   exact⟨⟨q3,u2,rfl,_,hres,hl⟩,⟨q3,u2,rfl,_,hres,hl⟩⟩
  have hret:iT e=some .nili→Leaves C.P fn a'.tmps R a'.defers .returning w':=by
   intro he
   rw[he] at hv
   simp only[Option.some.injEq] at hv
   subst hv
   rw[p5]
   refine hcall .returning .returning .nilIface (by simp) (by rw[VR]) rfl fun c0 cs0 hc0=> .inl ⟨?_,rfl,rfl⟩
   simp only[recoverD,hc0]
  cases e with
  |exit i=>cases hv
  |normal=>
   cases ex<;>first|exact p6.elim|skip
   exact hret rfl
  |ret=>
   cases ex<;>first|exact p6.elim|skip
   exact hret rfl
  |pan b=>
   cases ex<;>first|exact p6.elim|skip
   rename_i chain
   obtain⟨v,rfl,hvb⟩:=p6
   simp only[iT,Option.some.injEq] at hv
   subst hv
   show Leaves C.P fn a'.tmps R a'.defers (.panicking [{v,recovered:=false}]) w'
   rw[p5]
   refine hcall _ (.panicking [{v,recovered:=true}]) v (by simp) hvb rfl fun c0 cs0 hc0=> .inr ?_
   simp only[recoverD,hc0]
end
end AE
end Go.Proofs.YtmfdpijmholedaaGreatDoor
/- THE EVALUATOR IS SOUND: codes, calls. -/
set_option linter.unusedVariables false
set_option linter.unusedSimpArgs false
set_option linter.unusedSectionVars false
set_option maxHeartbeats 1600000
namespace Go.Proofs.YtmfdpijmholedaaGreatDoor
namespace AE
open Go Go.RowKit
section
variable {C:Cfg}
theorem hZ.exit_ne{w0 w:World}{g:Gh}{nt:Nat}{df:List Deferred}{e:Ex}{s:St}{ex:Exit}{a:Act}{W:World}(hne:e≠ .normal)(h:hZ C w0 w g nt df (e,s) ex a W)(N:Act→World→Prop)(Q:Exit→Act→World→Prop)(hQ:Q ex a W):Exit.then N Q ex a W:=by
 obtain⟨g',h1,h2,h3,h4,h5,h6⟩:=h
 cases ex with
 |normal=>
  cases e<;>first|exact absurd rfl hne|exact h6.elim
 |exit i=>exact hQ
 |goto l=>exact hQ
 |ret=>exact hQ
 |panic ch=>exact hQ
 |outgrown=>exact hQ
theorem nC (hC:CfgOk C) {evK:FuncId→Nat→Code→St→Option (Ex×St)} {evO:FuncId→Nat→List Oper→List Oper→St→Option (Ex×St)}
  (hk:∀f nt c s x,evK f nt c s=some x→iP C f nt c s x) (hoo:∀f nt all l s x,evO f nt all l s=some x→tp C f nt all l s x)
  {evD:FuncId→Nat→List Oper→List Oper→St→Option (List Ent×Option (A×Mem)×St)} (hdd:∀f nt all l s x,evD f nt all l s=some x→iu C nt all l s x.1 x.2)
  (f nt:Nat) (c:Code) (s:St) (x:Ex×St)
  (h:(match c with
   | .skip=>some (Ex.normal,s)
   | .region id ops draw=>
     if draw then(do
      let y ←evD f nt ops.toList ops.toList s
      hS C.P C.gl nt (C.ann.dok f id) (C.ann.draw f id) ops.toList y.1 (C.ann.reg f id) y.2)
     else(do
     let x ←evO f nt ops.toList ops.toList s
     match x.1 with
      | .normal=>some (Ex.normal,⟨prune (C.ann.reg f id) x.2.tm,x.2.m⟩)
      |e=>some (e,x.2))
   | .seq a b=>(do
     let x ←evK f nt a s
     match x.1 with
      | .normal=>evK f nt b x.2
      |e=>some (e,x.2))
   | .cond c a b=>
     match opd C.gl s.tm c with
     | .bool t=>if t then evK f nt a s else evK f nt b s
     |_=>none
   | .block id b=>(do
     let x ←evK f nt b s
     match x.1 with
      | .exit i=>if i=id then some (.normal,x.2) else some (.exit i,x.2)
      |e=>some (e,x.2))
   | .loop b=>(do
     let x ←evK f nt b ⟨prune (C.ann.loop f (cu b)) s.tm,s.m⟩
     match x.1 with
      | .normal=>(do
        let s1 ←endRound (C.ann.loop f (cu b)) s.m x.2
        evK f nt (.loop b) s1)
      |e=>some (e,x.2))
   | .exit id=>some (.exit id,s)
   | .ret=>some (.ret,s)
   | .label _=>some (.normal,s)
   | .scope b=>evK f nt b s
   |_=>none)=some x):iP C f nt c s x:=by
 intro hpart ro w0 g w a hsz hs ht
 have done:∀e:Ex,∀ex:Exit,ExR w g e ex→hZ C w0 w g nt a.defers (e,s) ex a w:=fun e ex he=>⟨g,hs,Ext.refl _ _,ht,hsz,rfl,he⟩
 cases c<;>simp only[reduceCtorEq] at h
 case skip=>
  simp only[Option.some.injEq] at h
  subst h
  exact⟨wpIn_skip (done _ _ trivial),fun b e=>by cases e⟩
 case exit id=>
  simp only[Option.some.injEq] at h
  subst h
  exact⟨wpIn_exit (done _ _ rfl),fun b e=>by cases e⟩
 case ret=>
  simp only[Option.some.injEq] at h
  subst h
  exact⟨wpIn_ret (done _ _ trivial),fun b e=>by cases e⟩
 case label l=>
  simp only[Option.some.injEq] at h
  subst h
  exact⟨wpIn_label (done _ _ trivial),fun b e=>by cases e⟩
 case scope b=>
  refine⟨AF (wpIn_mono (hk _ _ _ _ _ h (hpart.sub (by simp[Sub,Sub.refl])) ro w0 g w a hsz hs ht).1 fun ex a' w' hp=>⟨fun l e=> ?_,hp⟩),fun b e=>by cases e⟩
  subst e
  obtain⟨g',p1,p2,p3,p4,p5,p6⟩:=hp
  obtain⟨e,s'⟩:=x
  cases e<;>exact p6.elim
 case region id ops draw=>
  refine⟨?_,fun b e=>by cases e⟩
  cases draw with
  |true=>
   simp only[if_true] at h
   obtain⟨y,h1,h2⟩:=Option.bind_eq_some_iff.1 h
   exact zN hC.mixed (hC.dok f id ops hpart) (hdd _ _ _ _ _ _ h1) h2 hsz hs ht
  |false=>
   simp only[Bool.false_eq_true,if_false] at h
   obtain⟨⟨e,s'⟩,h1,h2⟩:=Option.bind_eq_some_iff.1 h
   refine wpIn_region ?_
   have:=hoo _ _ _ _ _ _ h1 ro w0 g w a ops 0 (hZ C w0 w g nt a.defers x) rfl rfl hsz hs ht ?_
   ·rw[show List.range ops.size=List.range' 0 ops.toList.length from by rw[List.range_eq_range',Array.length_toList]]
    exact this
   ·rintro ex a' w' ⟨g',p1,p2,p3,p4,p5,p6⟩
    cases e with
    |normal=>
     simp only[Option.some.injEq] at h2
     subst h2
     exact⟨g',p1,p2,p3.prune _,p4,p5,p6⟩
    |exit i=>simp only[Option.some.injEq] at h2;subst h2;exact⟨g',p1,p2,p3,p4,p5,p6⟩
    |ret=>simp only[Option.some.injEq] at h2;subst h2;exact⟨g',p1,p2,p3,p4,p5,p6⟩
    |pan b=>simp only[Option.some.injEq] at h2;subst h2;exact⟨g',p1,p2,p3,p4,p5,p6⟩
 case seq c1 c2=>
  refine⟨wpIn_seq ?_,fun b e=>by cases e⟩
  obtain⟨⟨e,s'⟩,h1,h2⟩:=Option.bind_eq_some_iff.1 h
  refine wpIn_mono (hk _ _ _ _ _ h1 (hpart.sub (by simp[Sub,Sub.refl])) ro w0 g w a hsz hs ht).1 fun ex a' w' hp=> ?_
  by_cases hne:e= .normal
  ·subst hne
   simp only at h2
   obtain⟨g',p1,p2,p3,p4,p5,p6⟩:=hp
   cases ex<;>first|exact p6.elim|skip
   refine wpIn_mono (hk _ _ _ _ _ h2 (hpart.sub (by simp[Sub,Sub.refl])) ro w0 g' w' a' p4 p1 p3).1 fun ex a'' w'' hp=> ?_
   rw[p5] at hp
   exact hZ.ext p2 hp
  ·have:x=(e,s'):=by cases e<;>first|exact absurd rfl hne|(simp only[Option.some.injEq] at h2;exact h2.symm)
   subst this
   exact hZ.exit_ne hne hp _ _ hp
 case cond c c1 c2=>
  refine⟨?_,fun b e=>by cases e⟩
  have hopd:=ht.opd (C:=C) hs.gl c
  cases hc:opd C.gl s.tm c<;>simp only[hc,reduceCtorEq] at h
  rename_i t
  rw[hc,VR] at hopd
  cases t with
  |true=>exact wpIn_cond hopd (hk _ _ _ _ _ (by simpa using h) (hpart.sub (by simp[Sub,Sub.refl])) ro w0 g w a hsz hs ht).1
  |false=>exact wpIn_cond hopd (hk _ _ _ _ _ (by simpa using h) (hpart.sub (by simp[Sub,Sub.refl])) ro w0 g w a hsz hs ht).1
 case block id b=>
  refine⟨wpIn_block ?_,fun b e=>by cases e⟩
  obtain⟨⟨e,s'⟩,h1,h2⟩:=Option.bind_eq_some_iff.1 h
  refine wpIn_mono (hk _ _ _ _ _ h1 (hpart.sub (by simp[Sub,Sub.refl])) ro w0 g w a hsz hs ht).1 fun ex a' w' hp=> ?_
  obtain⟨g',p1,p2,p3,p4,p5,p6⟩:=hp
  cases e with
  |normal=>
   simp only[Option.some.injEq] at h2
   subst h2
   cases ex<;>first|exact p6.elim|skip
   exact⟨g',p1,p2,p3,p4,p5,trivial⟩
  |ret=>
   simp only[Option.some.injEq] at h2
   subst h2
   cases ex<;>first|exact p6.elim|skip
   exact⟨g',p1,p2,p3,p4,p5,trivial⟩
  |pan b=>
   simp only[Option.some.injEq] at h2
   subst h2
   cases ex<;>first|exact p6.elim|skip
   exact⟨g',p1,p2,p3,p4,p5,p6⟩
  |exit i=>
   cases ex<;>first|exact p6.elim|skip
   rename_i j
   have hij:i=j:=p6
   subst hij
   simp only at h2
   by_cases hi:i=id
   ·rw[if_pos hi] at h2
    simp only[Option.some.injEq] at h2
    subst h2
    simp only[Exit.inBlock]
    rw[if_pos hi]
    exact⟨g',p1,p2,p3,p4,p5,trivial⟩
   ·rw[if_neg hi] at h2
    simp only[Option.some.injEq] at h2
    subst h2
    simp only[Exit.inBlock]
    rw[if_neg hi]
    exact⟨g',p1,p2,p3,p4,p5,rfl⟩
 case loop b=>
  have key:b.wpIn (Fz ro) 0 C.P (Exit.then (dT ro C.P b (hZ C w0 w g nt a.defers x)) (hZ C w0 w g nt a.defers x)) a w:=by
   obtain⟨⟨e,s'⟩,h1,h2⟩:=Option.bind_eq_some_iff.1 h
   refine wpIn_mono (hk _ _ _ _ _ h1 (hpart.sub (by simp[Sub,Sub.refl])) ro w0 g w a hsz hs (ht.prune _)).1 fun ex a' w' hp=> ?_
   by_cases hne:e= .normal
   ·subst hne
    obtain⟨s1,h3,h4⟩:=Option.bind_eq_some_iff.1 h2
    obtain⟨g',p1,p2,p3,p4,p5,p6⟩:=hp
    cases ex<;>first|exact p6.elim|skip
    obtain⟨g'',q1,q2,q3⟩:=rG hC h3 hs p1 p2 p3
    refine((hk _ _ _ _ _ h4 hpart ro w0 g'' w' a' p4 q1 q3).2 b rfl).mono fun ex a'' w'' hp=> ?_
    rw[p5] at hp
    exact hZ.ext q2 hp
   ·have:x=(e,s'):=by cases e<;>first|exact absurd rfl hne|(simp only[Option.some.injEq] at h2;exact h2.symm)
    subst this
    exact hZ.exit_ne hne hp _ _ hp
  exact⟨A6 key,fun b' e=>by cases e;exact xg key⟩
theorem jC{fn:Func}{tm:List (Nat×A)}{m:Mem}{b:A}{w0 w:World}{g:Gh}{tmps:Array Value}(hs:SR C.P C.gl w0 g m w)(h:bl C.P fn.results.toList tm m=some b)(ht:TmR w g tm tmps):∃v,(results fn tmps).run C.P w= .ok v w∧VR w g b v:=by
 have one:∀(r:ResultVar) (b:A),Ad C.P tm m r=some b→∃u,(match r with| .tmp t=>pure (tmps.getD t undef)| .cell a t=>do loadVar t (←asAddr (tmps.getD a undef)):Sem Value).run C.P w= .ok u w∧VR w g b u:=by
  intro r b h
  cases r with
  |tmp t=>
   simp only[Ad,Option.some.injEq] at h
   subst h
   exact⟨_,rfl,ht t⟩
  |cell a t=>
   simp only[Ad] at h
   obtain⟨u,hu,hv⟩:=p8 hs h (ht a)
   refine⟨u, ?_,hv⟩
   rw[←hu]
   unfold Instr.loadAt
   rw[Sem.run_bind,Sem.run_bind] at*
   cases hp:tmps.getD a undef with
   |pointer p=>
    cases p with
    |some p=>rfl
    |none=>rw[hp] at hu;cases hu
   |_=>rw[hp] at hu;cases hu
 have hm:∀(l:List ResultVar) (vs:List A),wW C.P tm m l=some vs→
   ∃us,(l.mapM (m:=Sem) fun| .tmp t=>pure (tmps.getD t undef)| .cell a t=>do loadVar t (←asAddr (tmps.getD a undef))).run C.P w= .ok us w∧VRs w g vs us∧vs.length=l.length:=by
  intro l
  induction l with
  |nil=>
   intro vs h
   simp only[wW,Option.some.injEq] at h
   cases h
   exact⟨[],rfl,VRs.mk_nil,rfl⟩
  |cons r l ih=>
   intro vs h
   simp only[wW] at h
   obtain⟨a,h1,h2⟩:=Option.bind_eq_some_iff.1 h
   obtain⟨as_,h3,rfl⟩:=Option.map_eq_some_iff.1 h2
   obtain⟨u,hu1,hu2⟩:=one r a h1
   obtain⟨us,hu,hv,hl⟩:=ih as_ h3
   refine⟨u::us, ?_,.mk_cons hu2 hv,by simp[hl]⟩
   rw[List.mapM_cons,Sem.run_bind]
   erw[hu1]
   rw[Result.andThen_ok,Sem.run_bind]
   erw[hu]
   rfl
 have hrun:∀us:List Value,(fn.results.toList.mapM (m:=Sem) fun| .tmp t=>pure (tmps.getD t undef)| .cell a t=>do loadVar t (←asAddr (tmps.getD a undef))).run C.P w= .ok us w→
   (results fn tmps).run C.P w= .ok (if h:us.toArray.size=1 then us.toArray[0] else .tuple us.toArray) w:=by
  intro us hu
  unfold results
  rw[Sem.run_bind,Array.mapM_eq_mapM_toList,Sem.run_map]
  erw[hu]
  rfl
 unfold bl at h
 split at h
 ·rename_i r heq
  obtain⟨us,hu,hv,hl⟩:=hm [r] [b] (by simp[wW,h])
  match us,hv.length with
  |[u],_=>
   refine⟨u, ?_, ?_⟩
   ·have:=hrun [u] (by rw[heq];exact hu)
    simpa using this
   ·rw[VRs.cons_iff] at hv
    obtain⟨u',us',he,h1,_⟩:=hv
    simp only[List.cons.injEq] at he
    rw[he.1]
    exact h1
 ·rename_i rs hn1
  obtain⟨vs,hvs,rfl⟩:=Option.map_eq_some_iff.1 h
  obtain⟨us,hu,hv,hl⟩:=hm _ _ hvs
  have:=hrun us hu
  have hlen:¬us.toArray.size=1:=by
   intro hl1
   have h1:fn.results.toList.length=1:=by have:=hv.length;simp at hl1;omega
   match hr:fn.results.toList,h1 with
   |[r],_=>exact hn1 r hr
  rw[dif_neg hlen] at this
  exact⟨_,this,by rw[VR];exact⟨us,rfl,hv⟩⟩
theorem vt{f:FuncId}{m0 m:Mem}{r:Res}{x:Res×Mem}(h:jE C f m0 r m=some x):(∃k,bC C.P k m0 r m=some x)∨x=(r,m):=by
 unfold jE at h
 split at h
 ·exact .inr (Option.some.inj h).symm
 ·exact .inl ⟨_,h⟩
theorem iB(hC:CfgOk C){m0 m:Mem}{r:Res}{x:Res×Mem}{w0 w w':World}{g g':Gh}{e:Ending}(h:(∃k,bC C.P k m0 r m=some x)∨x=(r,m))(hs0:SR C.P C.gl w0 g m0 w)(hs:SR C.P C.gl w0 g' m w')(he:Ext w g w' g')(hr:oL w' g' r e):
  ∃g'',SR C.P C.gl w0 g'' x.2 w'∧Ext w g w' g''∧oL w' g'' x.1 e:=by
 rcases h with⟨k,h⟩|rfl
 ·exact xd hC h hs0 hs he hr
 ·exact⟨g',hs,he,hr⟩
theorem nL (hC:CfgOk C) {evK:FuncId→Nat→Code→St→Option (Ex×St)} {evR:FuncId→Nat→Code→St→Option (Ex×St)}
  (hrk:∀f nt c s x,evR f nt c s=some x→uz C f nt c s x) (hk:∀f nt c s x,evK f nt c s=some x→iP C f nt c s x)
  {lv:FuncId→Mem→Res→Mem→Option (Res×Mem)} (hlv:∀f m0 r m x,lv f m0 r m=some x→(∃k,bC C.P k m0 r m=some x)∨x=(r,m))
  (f:FuncId) (args:List A) (m:Mem) (r:Res×Mem)
  (h:(match C.ext f with
   |some g=>g args m
   |none=>
    match C.P.funcs[f]? with
    |none=>none
    |some fn=>
     match fn.body with
     |none=>none
     |some c=>
      if fn.name= "runtime.NumGoroutine" ∨fn.ntmps<args.length then none else((if C.ann.recov f=true then evR f fn.ntmps c ⟨bi 0 args,m⟩ else evK f fn.ntmps c ⟨bi 0 args,m⟩)>>=fun x=>
      match x.1 with
       | .normal=>(do
         let a ←bl C.P fn.results.toList x.2.tm x.2.m
         lv f m (.ret a) x.2.m)
       | .ret=>(do
         let a ←bl C.P fn.results.toList x.2.tm x.2.m
         lv f m (.ret a) x.2.m)
       | .pan a=>lv f m (.pan a) x.2.m
       | .exit _=>none))=some r):aV C f args m r:=by
 cases hx:C.ext f with
 |some gx=>
  simp only[hx] at h
  exact hC.ext f gx hx args m r h
 |none=>
 simp only[hx] at h
 cases hf:C.P.funcs[f]? with
 |none=>simp[hf] at h
 |some fn=>
 simp only[hf] at h
 cases hb:fn.body with
 |none=>simp[hb] at h
 |some c=>
 simp only[hb] at h
 split at h
 ·cases h
 ·rename_i hne
  simp only[not_or,Nat.not_lt] at hne
  obtain⟨hn,hlen⟩:=hne
  refine⟨⟨fn,c,hf,hb,hn⟩,fun w0 g w vals hs hv=> ?_⟩
  obtain⟨⟨e,s'⟩,h1,h2⟩:=Option.bind_eq_some_iff.1 h
  have hvl:=hv.length
  have htm:TmR w g (bi 0 args) (vals.toArray++Array.replicate (fn.ntmps-vals.toArray.size) undef):=fun t=>by
   have:=iL args vals w g 0 t (Array.replicate (fn.ntmps-vals.toArray.size) undef) [] rfl hv
   simpa using this
  have hsz:(vals.toArray++Array.replicate (fn.ntmps-vals.toArray.size) undef).size=fn.ntmps:=by
   simp
   omega
  have hend:∀ex g' w' tmps,SR C.P C.gl w0 g' s'.m w'→Ext w g w' g'→TmR w' g' s'.tm tmps→ExR w' g' e ex→
    (match ex with
    | .normal| .ret=>∃v,(results fn tmps).run C.P w'= .ok v w'∧∃g',SR C.P C.gl w0 g' r.2 w'∧Ext w g w' g'∧oL w' g' r.1 (.returned v)
    | .panic chain=>∃g',SR C.P C.gl w0 g' r.2 w'∧Ext w g w' g'∧oL w' g' r.1 (.panicked chain)
    |_=>False):=by
   intro ex g' w' tmps p1 p2 p3 p6
   cases e with
   |exit i=>cases h2
   |normal=>
    obtain⟨b,h3,h4⟩:=Option.bind_eq_some_iff.1 h2
    cases ex<;>first|exact p6.elim|skip
    obtain⟨v,hr,hv⟩:=jC (C:=C) p1 h3 p3
    obtain⟨g'',q1,q2,q3⟩:=iB hC (e:= .returned v) (hlv _ _ _ _ _ h4) hs p1 p2 hv
    exact⟨v,hr,g'',q1,q2,q3⟩
   |ret=>
    obtain⟨b,h3,h4⟩:=Option.bind_eq_some_iff.1 h2
    cases ex<;>first|exact p6.elim|skip
    obtain⟨v,hr,hv⟩:=jC (C:=C) p1 h3 p3
    obtain⟨g'',q1,q2,q3⟩:=iB hC (e:= .returned v) (hlv _ _ _ _ _ h4) hs p1 p2 hv
    exact⟨v,hr,g'',q1,q2,q3⟩
   |pan b=>
    cases ex<;>first|exact p6.elim|skip
    rename_i chain
    obtain⟨g'',q1,q2,q3⟩:=iB hC (e:= .panicked chain) (hlv _ _ _ _ _ h2) hs p1 p2 p6
    exact⟨g'',q1,q2,q3⟩
  cases hrec:C.ann.recov f with
  |false=>
   simp only[hrec,Bool.false_eq_true,if_false] at h1
   refine calls_of_wp hf hb ?_
   refine wp_mono (xc (hk _ _ _ _ _ h1 ⟨fn,c,hf,hb,Sub.refl c⟩ none w0 g w {tmps:=_,defers:=[]} hsz hs htm).1) fun ex a' w' hp=> ?_
   obtain⟨g',p1,p2,p3,p4,p5,p6⟩:=hp
   have:=hend ex g' w' a'.tmps p1 p2 p3 p6
   cases ex<;>first|exact this.elim|exact⟨p5,this⟩
  |true=>
   simp only[hrec,if_true] at h1
   refine calls_of_wp_defers hf hb ?_
   refine hrk _ _ _ _ _ h1 ⟨fn,c,hf,hb,Sub.refl c⟩ fn _ w0 g w {tmps:=_,defers:=[]} hsz rfl hs htm fun ex g' w' tmps p1 p2 p3 p6=> ?_
   have:=hend ex g' w' tmps p1 p2 p3 p6
   cases ex<;>first|exact this.elim|exact this
theorem u6(hC:CfgOk C):∀f args m r,ai C f args m=some r→aV C f args m r:=
 (ai.mutual_partial_correctness C (aV C) (iP C) (tp C) (fun f nt all l s x=>iu C nt all l s x.1 x.2) (uz C)
  (fun evK evR hk hr=>nL hC hr hk (lv:=jE C) (fun f m0 r m x h=>vt h))
  (fun evK evO evD hk hoo hdd=>nC hC hk hoo hdd)
  (fun evC evO hc hoo=>pt hc hoo)
  (fun evC evD hc hd=>nq hc hd)
  (fun evK evR hk hr=>oU hC hr hk)).1
end
end AE
end Go.Proofs.YtmfdpijmholedaaGreatDoor
/- A range over a function, in the evaluator's world: the loop's record and the block for its deferred calls are blocks that stand for nothing. -/
set_option linter.unusedVariables false
set_option linter.unusedSimpArgs false
set_option linter.unusedSectionVars false
namespace Go.Proofs.YtmfdpijmholedaaGreatDoor
namespace AE
open Go Go.RowKit
theorem ExtB.trans{w w1 w2:World}{g g1 g2:Gh}(h:ExtB w g w1 g1)(k:ExtB w1 g1 w2 g2):ExtB w g w2 g2:=by
 refine⟨fun b o hF=> ?_,Nat.le_trans h.nb k.nb,fun i hi=> ?_,fun i L hL=> ?_⟩
 ·obtain⟨h1,h2⟩:=h.fx b o hF
  obtain⟨k1,k2⟩:=k.fx b o h1
  exact⟨k1,k2.trans h2⟩
 ·rw[k.bb i (Nat.lt_of_lt_of_le hi h.nb),h.bb i hi]
 ·obtain⟨L1,h1,h2,h3,h4⟩:=h.rl i L hL
  obtain⟨L2,k1,k2,k3,k4⟩:=k.rl i L1 h1
  refine⟨L2,k1,Nat.le_trans h2 k2,fun e=> ?_,k4.trans h4⟩
  have e1:L1=L:=by omega
  have e2:L2=L1:=by omega
  exact⟨(k3 e2).1.trans (h3 e1).1,(k3 e2).2.1.trans (h3 e1).2.1,(k3 e2).2.2.trans (h3 e1).2.2⟩
structure ExtX (X:Nat→Prop) (w:World) (g:Gh) (w':World) (g':Gh):Prop extends ExtB w g w' g' where
 fr:∀b,b<w.heap.size→X b→dj g b→w'.heap[b]? =w.heap[b]? ∧dj g' b
 sz:w.heap.size≤w'.heap.size
theorem Ext.toX{X:Nat→Prop}{w w':World}{g g':Gh}(h:Ext w g w' g'):ExtX X w g w' g':=⟨h.toExtB,fun b hb _ hl=>h.fr b hb hl,h.sz⟩
theorem ExtX.toExt{X:Nat→Prop}{w w':World}{g g':Gh}(h:ExtX X w g w' g')(hX:∀b,b<w.heap.size→X b):Ext w g w' g':=⟨h.toExtB,fun b hb hl=>h.fr b hb (hX b hb) hl,h.sz⟩
theorem ExtX.mono{X Y:Nat→Prop}{w w':World}{g g':Gh}(h:ExtX X w g w' g')(hX:∀b,Y b→X b):ExtX Y w g w' g':=⟨h.toExtB,fun b hb hy hl=>h.fr b hb (hX b hy) hl,h.sz⟩
theorem ExtX.refl(X:Nat→Prop)(w:World)(g:Gh):ExtX X w g w g:=⟨ExtB.refl w g,fun b _ _ h=>⟨rfl,h⟩,Nat.le_refl _⟩
theorem ExtX.trans{X:Nat→Prop}{w w1 w2:World}{g g1 g2:Gh}(h:ExtX X w g w1 g1)(k:ExtX X w1 g1 w2 g2):ExtX X w g w2 g2:=
 ⟨h.toExtB.trans k.toExtB,fun b hb hx hl=>by
  obtain⟨h1,h2⟩:=h.fr b hb hx hl
  obtain⟨k1,k2⟩:=k.fr b (Nat.lt_of_lt_of_le hb h.sz) hx h2
  exact⟨k1.trans h1,k2⟩,Nat.le_trans h.sz k.sz⟩
section
variable {P:Program} {gl:Nat→A} {w0 w:World} {g:Gh} {m:Mem}
theorem SR.turnF(hs:SR P gl w0 g m w){l:Nat}{w':World}(hLb:∀i,i<g.nb→g.bb i≠l)(hLr:∀i,i<g.rl.length→g.br i≠l)(hLF:∀o,g.F l o→w'.cell? ⟨l,o,none⟩=w.cell? ⟨l,o,none⟩)(h0:w0.heap.size≤l)(hos:w'.os=w.os)(htp:w'.tape=w.tape)(hout:w'.output=w.output)(hsz:w'.heap.size=w.heap.size)(hdr:w.drawn≤w'.drawn)(hoth:∀k,k≠l→w'.heap[k]? =w.heap[k]?):
  SR P gl w0 g m w'∧ExtX (· ≠l) w g w' g:=by
 have hcell:∀b k,g.F b k→w'.cell? ⟨b,k,none⟩=w.cell? ⟨b,k,none⟩:=fun b k hF=>by
  by_cases hbl:b=l
  ·subst hbl;exact hLF k hF
  ·exact World.cell?_of_block (w:=w) (hoth _ hbl)
 have hext:ExtX (· ≠l) w g w' g:=⟨⟨fun b k hF=>⟨hF,hcell b k hF⟩,Nat.le_refl _,fun _ _=>rfl,fun i L h=>⟨L,h,Nat.le_refl _,fun _=>⟨rfl,rfl,rfl⟩,rfl⟩⟩,fun b _ hb hl=>⟨hoth _ hb,hl⟩,by omega⟩
 refine⟨?_,hext⟩
 exact {
  below:=hs.below.trans ⟨hos,htp,hout,by omega,fun k hk=>hoth _ (by omega)⟩
  nb:=hs.nb
  rl:=hs.rl
  es:=hs.es
  bx:=fun i cs hi=>by
   obtain⟨us,t,h1,h2⟩:=hs.bx i cs hi
   refine⟨us,t, ?_,VRs.monoB hext.toExtB _ _ h2⟩
   rw[hoth _ (hLb i (by rw[hs.nb];exact(List.getElem?_eq_some_iff.1 hi).1))]
   exact h1
  rw:=fun i r hi=>by
   obtain⟨us,ss,rest,h1,h2,h3,h4⟩:=hs.rw i r hi
   refine⟨us,ss,rest, ?_,h2,h3,VRs.monoB hext.toExtB _ _ h4⟩
   rw[hoth _ (hLr i (by rw[hs.rlen];exact(List.getElem?_eq_some_iff.1 hi).1))]
   exact h1
  ownb:=hs.ownb
  ownr:=hs.ownr
  injb:=hs.injb
  injr:=hs.injr
  dis:=hs.dis
  lim:=fun b k hF=>by have:=hs.lim b k hF;omega
  gl:=fun n=>VR.monoB hext.toExtB _ _ (hs.gl n)
  dr:=fun h=>Nat.le_trans (hs.dr h) hdr
  tb:=hs.tb}
theorem SR.turnW(hs:SR P gl w0 g m w){l:Nat}{w':World}(hL:dj g l)(h0:w0.heap.size≤l)(hos:w'.os=w.os)(htp:w'.tape=w.tape)(hout:w'.output=w.output)(hsz:w'.heap.size=w.heap.size)(hdr:w.drawn≤w'.drawn)(hoth:∀k,k≠l→w'.heap[k]? =w.heap[k]?):
  SR P gl w0 g m w'∧ExtX (· ≠l) w g w' g:=hs.turnF hL.1 hL.2.1 (fun o hF=>absurd hF (hL.2.2 o)) h0 hos htp hout hsz hdr hoth
theorem SR.turn(hs:SR P gl w0 g m w){l:Nat}(o:Obj)(hL:dj g l)(h0:w0.heap.size≤l):SR P gl w0 g m (w.putObj l o)∧ExtX (· ≠l) w g (w.putObj l o) g:=
 hs.turnW hL h0 rfl rfl rfl (by simp) (Nat.le_refl _) fun k hk=>World.putObj_heap_other hk
theorem TmR.monoB{w':World}{g':Gh}{tm:List (Nat×A)}{tmps:Array Value}(h:TmR w g tm tmps)(e:ExtB w g w' g'):TmR w' g' tm tmps:=fun t=>VR.monoB e _ _ (h t)
end
section
variable (C:Cfg)
def sU:List Nat→List A→List (Nat×A)→List (Nat×A)
 |p::ps,x::xs,tm=>sU ps xs ((p,x)::tm)
 |_,_,tm=>tm
def fo(K:Code→St→Option (Ex×St))(ps:List Nat)(assign body:Code)(tm:List (Nat×A))(xs:List A)(m:Mem):Option (Ex×Mem):=
 match K assign ⟨sU ps xs tm,m⟩ with
 |some (.normal,s1)=>
  match K body s1 with
  |some (.normal,s2)=>some (.normal,s2.m)
  |some (.ret,s2)=>some (.ret,s2.m)
  |some (.exit i,s2)=>some (.exit i,s2.m)
  |_=>none
 |_=>none
def eS:Ex→Option Code
 | .ret=>some .ret
 | .exit i=>some (.exit i)
 |_=>none
def fU(f:FuncId)(tmps:Array Value)(ps:Array Tmp)(assign body:Code)(D:Nat)(st:LoopState)(pe:Option Code):Obj:= .loop {state:=st,pending:=pe,fn:=f,tmps:=tmps,params:=ps,assign:=assign,body:=body,defers:=D}
end
section
variable {C:Cfg}
theorem TmR.fold{w:World}{g:Gh}:∀(ps:List Nat) (xs:List A) (vs:List Value) (tm:List (Nat×A)) (tmps:Array Value),TmR w g tm tmps→VRs w g xs vs→ps.all (· <tmps.size)=true→
  TmR w g (sU ps xs tm) ((ps.zip vs).foldl (fun t p=>t.setIfInBounds p.1 p.2) tmps)∧((ps.zip vs).foldl (fun t p=>t.setIfInBounds p.1 p.2) tmps).size=tmps.size
 |[],xs,vs,tm,tmps,h,hv,hp=>by cases xs<;>exact⟨h,rfl⟩
 |p::ps,[],vs,tm,tmps,h,hv,hp=>by
  rw[VRs.nil_iff] at hv
  subst hv
  exact⟨h,rfl⟩
 |p::ps,x::xs,vs,tm,tmps,h,hv,hp=>by
  rw[VRs.cons_iff] at hv
  obtain⟨u,t,rfl,h1,h2⟩:=hv
  rw[List.all_cons,Bool.and_eq_true,decide_eq_true_eq] at hp
  have h3:=TmR.put (a:={tmps:=tmps,defers:=[]}) (d:=some p) h (by simp[hp.1]) h1
  have:=TmR.fold ps xs t ((p,x)::tm) (tmps.setIfInBounds p u) h3 h2 (by simpa using hp.2)
  exact⟨this.1,by rw[List.zip_cons_cons,List.foldl_cons,this.2];simp⟩
theorem xF {f nt:Nat} {fr:FuncId} {K:Code→St→Option (Ex×St)} (hK:∀c s x,K c s=some x→iP C f nt c s x) {ps:Array Tmp} {assign body:Code} (ha:cJ C f assign) (hb:cJ C f body)
  {tm:List (Nat×A)} {tmps:Array Value} {xs:List A} {m:Mem} {x:Ex×Mem} (h:fo K ps.toList assign body tm xs m=some x) (hps:ps.toList.all (· <nt)=true) (hsz:tmps.size=nt)
  {w0 w:World} {g:Gh} {D l:Nat} (hs:SR C.P C.gl w0 g m w) (ht:TmR w g tm tmps) {vs:List Value} (hv:VRs w g xs vs) (hl:w.heap[l]? =some (fU fr tmps ps assign body D .ready none)) (hL:dj g l) (h0:w0.heap.size≤l):
  RoundIn (Fz none) 0 C.P l fr (((ps.zip vs.toArray).foldl (fun t (p,a)=>t.setIfInBounds p a) tmps)) assign body w fun e w'=>
   e= .returned (.bool (eS x.1).isNone)∧∃g',SR C.P C.gl w0 g' x.2 w'∧ExtX (· ≠l) w g w' g'∧dj g' l∧w'.heap[l]? =some (fU fr tmps ps assign body D (if(eS x.1).isNone then .ready else .done) (eS x.1)):=by
 unfold fo at h
 obtain⟨ht1,hsz1⟩:=TmR.fold ps.toList xs vs tm tmps ht hv (by rw[hsz];exact hps)
 have hfold:(ps.zip vs.toArray).foldl (fun t (p,a)=>t.setIfInBounds p a) tmps=(ps.toList.zip vs).foldl (fun t p=>t.setIfInBounds p.1 p.2) tmps:=by
  rw[←Array.foldl_toList]
  simp
 rw[hfold]
 cases hk1:K assign ⟨sU ps.toList xs tm,m⟩ with
 |none=>simp[hk1] at h
 |some y1=>
 obtain⟨e1,s1⟩:=y1
 cases e1<;>simp only[hk1,reduceCtorEq] at h
 cases hk2:K body s1 with
 |none=>simp[hk2] at h
 |some y2=>
 obtain⟨e2,s2⟩:=y2
 have hlt:l<w.heap.size:=(Array.getElem?_eq_some_iff.1 hl).1
 refine roundIn_of_wpIn (F:=Fz none) trivial ?_
 refine wpIn_mono ((hK _ _ _ hk1 ha (some l) w0 g w {tmps:=_,defers:=[]} (by rw[hsz1,hsz]) hs ht1).1) fun ex a1 w1 hp=> ?_
 obtain⟨g1,p1,p2,p3,p4,p5,p6⟩:=hp
 cases ex<;>first|exact p6.elim|skip
 obtain⟨q1,q2⟩:=p2.fr l hlt hL
 have hl1:w1.heap[l]? =some (fU fr tmps ps assign body D .ready none):=q1.trans hl
 have hl1':=run_beginRound (P:=C.P) hl1 rfl
 refine⟨_,hl1', ?_⟩
 obtain⟨r1,r2⟩:=p1.turn (fU fr tmps ps assign body D .busy none) q2 h0
 have hl2:(w1.putObj l (fU fr tmps ps assign body D .busy none)).heap[l]? =some (fU fr tmps ps assign body D .busy none):=World.putObj_heap_same (Array.getElem?_eq_some_iff.1 hl1).1
 refine wpIn_mono ((hK _ _ _ hk2 hb (some l) w0 g1 _ a1 p4 r1 (p3.monoB r2.toExtB)).1) fun ex a2 w2 hp=> ?_
 obtain⟨g2,t1,t2,t3,t4,t5,t6⟩:=hp
 obtain⟨u1,u2⟩:=t2.fr l (Array.getElem?_eq_some_iff.1 hl2).1 q2
 have hl3:w2.heap[l]? =some (fU fr tmps ps assign body D .busy none):=u1.trans hl2
 have hx1:ExtX (· ≠l) w g w2 g2:=(p2.toX.trans r2).trans t2.toX
 have fin:∀j:Option Code,∃v w',(Instr.endRound l j).run C.P w2= .ok v w'∧(Ending.returned v= .returned (.bool j.isNone)∧∃g',SR C.P C.gl w0 g' s2.m w'∧ExtX (· ≠l) w g w' g'∧dj g' l∧w'.heap[l]? =some (fU fr tmps ps assign body D (if j.isNone then .ready else .done) j)):=fun j=>by
  obtain⟨v1,v2⟩:=t1.turn (fU fr tmps ps assign body D (if j.isNone then .ready else .done) j) u2 h0
  exact⟨_,_,run_endRound (P:=C.P) j hl3,rfl,g2,v1,hx1.trans v2,u2,World.putObj_heap_same (Array.getElem?_eq_some_iff.1 hl3).1⟩
 cases e2<;>simp only[hk2,reduceCtorEq,Option.some.injEq] at h
 case normal=>
  subst h
  cases ex<;>first|exact t6.elim|skip
  exact fin none
 case ret=>
  subst h
  cases ex<;>first|exact t6.elim|skip
  exact fin (some .ret)
 case exit i=>
  subst h
  cases ex<;>first|exact t6.elim|skip
  have hij:=t6
  simp only[ExR] at hij
  subst hij
  exact fin (some (.exit _))
end
end AE
end Go.Proofs.YtmfdpijmholedaaGreatDoor
/- The shelf's contract for slices.Clone over numbers at this dump: its numbers. Printed by lay-plain.mjs. -/
namespace Go.Proofs
open Go.Shelf
def Tryz.laysNm215_ren:Go.Shelf.Ren:=⟨fun|15=>118|n=>n,fun|22=>28|3=>3|4=>4|n=>n,fun|n=>n⟩
theorem Tryz.laysNm215:Go.Proofs.Lays2.n15 Tryz.prog Tryz.laysNm215_ren:={
 mixed:=by kernel_rfl
 f15:=Tryz.func118.trans (congrArg some (by kernel_rfl))
 t3:=Tryz.underlying3
 a3:=Tryz.isAgg3
 z3:=Tryz.sizeOf3
 v3:=Tryz.zeroValue3
 t4:=Tryz.underlying4
 a4:=Tryz.isAgg4
 z4:=Tryz.sizeOf4
 v4:=Tryz.zeroValue4
 t22:=Tryz.underlying28
 a22:=Tryz.isAgg28
 z22:=Tryz.sizeOf28
 v22:=Tryz.zeroValue28
 i3:=by kernel_rfl}
open Go.RowKit Go.Lib in
theorem Tryz.slices_Clone_int(b off n c:Nat)(zs:List Int)(w:World)(hz:n≤zs.length)(hbig:n*8≤140737488355328)(hc:∀j,j<zs.length→w.cell? ⟨b,off+j,none⟩=some (.int .i64 (zs.getD j 0))):
  Calls Tryz.prog 118 #[.slice (some ⟨b,off,none⟩) n c] w fun e w'=>∃v',e= .returned v'∧w'.ownsRow w.heap.size 3 1 v' n ((zs.take n).map (Value.int .i64))∧v'≠ .slice none 0 0∧Below w.heap.size w w':=Any.slices_Clone_int Tryz.laysNm215 b off n c zs w hz hbig hc
open Go.RowKit Go.Lib in
theorem Tryz.slices_Clone_int_nil(n c:Nat)(w:World):
  Calls Tryz.prog 118 #[.slice none n c] w fun e w'=>e= .returned (.slice none 0 0)∧w'=w:=Any.slices_Clone_int_nil Tryz.laysNm215 n c w
open Go.RowKit Go.Lib in
theorem Tryz.slices_Clone_int_zero(a:Addr)(c:Nat)(w:World):
  Calls Tryz.prog 118 #[.slice (some a) 0 c] w fun e w'=>∃v',e= .returned v'∧w'.ownsRow w.heap.size 3 1 v' 0 []∧v'≠ .slice none 0 0∧Below w.heap.size w w':=Any.slices_Clone_int_zero Tryz.laysNm215 a c w
end Go.Proofs
/- A function that ranges over another's iterator: the iterator's rounds, the statement, the call. -/
set_option linter.unusedVariables false
set_option linter.unusedSimpArgs false
set_option linter.unusedSectionVars false
set_option maxHeartbeats 1000000
namespace Go.Proofs.YtmfdpijmholedaaGreatDoor
namespace AE
open Go Go.RowKit
section
variable {C:Cfg}
theorem nK(hC:CfgOk C):∀f nt c s x,ak C f nt c s=some x→iP C f nt c s x:=
 (ai.mutual_partial_correctness C (aV C) (iP C) (tp C) (fun f nt all l s x=>iu C nt all l s x.1 x.2) (uz C)
  (fun evK evR hk hr=>nL hC hr hk (lv:=jE C) (fun f m0 r m x h=>vt h))
  (fun evK evO evD hk hoo hdd=>nC hC hk hoo hdd)
  (fun evC evO hc hoo=>pt hc hoo)
  (fun evC evD hc hd=>nq hc hd)
  (fun evK evR hk hr=>oU hC hr hk)).2.1
abbrev EvK:=Code→St→Option (Ex×St)
def KOk(C:Cfg)(f nt:Nat)(K:EvK):Prop:=∀c s x,K c s=some x→iP C f nt c s x
theorem eng {f nt:Nat} {K:EvK} (hK:KOk C f nt K) {ro:Option Nat} {c:Code} {s:St} {x:Ex×St} (h:K c s=some x) (hp:cJ C f c) {w0 w:World} {g:Gh} {a:Act} (hsz:a.tmps.size=nt) (hs:SR C.P C.gl w0 g s.m w) (ht:TmR w g s.tm a.tmps)
  {Q:Exit→Act→World→Prop} (hQ:∀e a' w',hZ C w0 w g nt a.defers x e a' w'→Q e a' w'):c.wpIn (Fz ro) 0 C.P Q a w:=wpIn_mono (hK _ _ _ h hp ro w0 g w a hsz hs ht).1 hQ
theorem jZ {f nt:Nat} {K:EvK} (hK:KOk C f nt K) {ro:Option Nat} {c:Code} {s s':St} (h:K c s=some (.normal,s')) (hp:cJ C f c) {w0 w:World} {g:Gh} {a:Act} (hsz:a.tmps.size=nt) (hs:SR C.P C.gl w0 g s.m w) (ht:TmR w g s.tm a.tmps)
  {Q:Exit→Act→World→Prop} (hQ:∀g' w' a',SR C.P C.gl w0 g' s'.m w'→Ext w g w' g'→TmR w' g' s'.tm a'.tmps→a'.tmps.size=nt→a'.defers=a.defers→Q .normal a' w'):c.wpIn (Fz ro) 0 C.P Q a w:=
 eng hK h hp hsz hs ht fun e a' w' ⟨g',p1,p2,p3,p4,p5,p6⟩=>by
  cases e<;>first|exact p6.elim|exact hQ g' w' a' p1 p2 p3 p4 p5
def jU(ops:Array Oper):Prop:=∃t1 p1 e1 t2 p2 e2 t3 p3 e3 ty t4 p4 e4 t5 p5 e5 u,ops.toList=[⟨some 21,.move (.tmp 0),t1,p1,e1,none⟩,⟨some 22,.move (.tmp 3),t2,p2,e2,none⟩,⟨some 23,.move (.tmp 4),t3,p3,e3,none⟩,
 ⟨some 24,.call {callee:= .value (.tmp 21),args:= #[.tmp 22,.tmp 23],argTypes:=ty},t4,p4,e4,none⟩,⟨some 25,.unOp .not u (.tmp 24),t5,p5,e5,none⟩]
def tm4(b:Bool)(tm:List (Nat×A)):List (Nat×A):=(25,.bool (!b))::(24,.bool b)::(23,lk 4 tm)::(22,lk 3 tm)::(21,lk 0 tm)::tm
def jg(K Kh:EvK)(ps:List Nat)(assign body:Code)(tm:List (Nat×A))(hd R3 R5 R2:Code):Nat→List (Nat×A)→Mem→Option (List Nat×Ex×Mem)
 |0,_,_=>none
 |n+1,tml,m=>
  match Kh hd ⟨tml,m⟩ with
  |some (.exit 0,s)=>some ([],.normal,s.m)
  |some (.normal,s1)=>
   match Kh R3 s1 with
   |some (.normal,s3)=>
    match lk 0 s3.tm with
    | .yld l=>
      match fo K ps assign body tm [lk 3 s3.tm,lk 4 s3.tm] s3.m with
      |some (.normal,m4)=>
       match Kh R5 ⟨tm4 true s3.tm,m4⟩ with
       |some (.normal,s5)=>
        match Kh R2 s5 with
        |some (.normal,s2)=>
         match jg K Kh ps assign body tm hd R3 R5 R2 n (prune (some [0,1,3]) s2.tm) s2.m with
         |some (ls,x)=>some (l::ls,x)
         |none=>none
        |_=>none
       |_=>none
      |some (.ret,m4)=>some ([l],.ret,m4)
      |some (.exit i,m4)=>some ([l],.exit i,m4)
      |_=>none
    |_=>none
   |_=>none
  |_=>none
theorem sS{P:Program}{o:Oper}{gop:Operand}{args:Array Operand}{argTypes:Array TypeId}(ho:o.op= .call {callee:= .value gop,args,argTypes}){ρ:Operand→Value}{l:Nat}(hg:ρ gop= .func (.yield l) #[] #[]){w:World}:(execOp ρ o).run P w=(Instr.yield l (args.map ρ)).run P w:=by
 simp only[execOp,ho,resolve,hg,Deferred.ofValue,Sem.run_bind,Sem.run_pure,Result.andThen_ok,invoke,Array.empty_append]
theorem BX {ro:Option Nat} {P:Program} {ops:Array Oper} {Q:Exit→Act→World→Prop} {i:Nat} {rest:List Nat} {a:Act} {w w1:World} {o:Oper} {l:Nat} {fn:FuncId} {tmps:Array Value} {assign body:Code} (ho:ops[i]? =some o) (hw:Region.wanted o (yielded ops a.tmps)=true) (hd:∀c,o.op≠ .defer c)
  (hr:(execOp a.eval o).run P w= .ok (.round l fn tmps assign body) w1) (h:RoundIn (Fz ro) 0 P l fn tmps assign body w1 fun e w''=>∃v,e= .returned v∧wpOpsIn (Fz ro) 0 P ops Q rest (a.put o.dst v) w''):wpOpsIn (Fz ro) 0 P ops Q (i::rest) a w:=by
 simp only[wpOpsIn,ho,hw,if_true]
 refine⟨fun _ _=>trivial, ?_⟩
 rw[Oper.semAt_eq _ _ _ hd,hr,Oper.uponIn_round]
 refine⟨fun hd=>by simp[Fz,Fence.wide] at hd,h.mono ?_⟩
 rintro e w'' ⟨v,rfl,h⟩
 exact h
structure RunJ (C:Cfg) (w0 W1:World) (g1:Gh) (l:Nat) (rc:Obj) (m:Mem) (w:World) (g:Gh):Prop where
 sr:SR C.P C.gl w0 g m w
 ext:ExtX (· ≠l) W1 g1 w g
 loose:dj g l
 rec_:w.heap[l]? =some rc
theorem Gj{ops:Array Oper}{x0 x1 x2 x3 x4:Oper}(h:ops.toList=[x0,x1,x2,x3,x4]):ops[0]? =some x0∧ops[1]? =some x1∧ops[2]? =some x2∧ops[3]? =some x3∧ops[4]? =some x4∧ops.size=5:=by
 have h0:ops= #[x0,x1,x2,x3,x4]:=by apply Array.ext';rw[h]
 subst h0
 exact⟨rfl,rfl,rfl,rfl,rfl,rfl⟩
theorem u7 {f nt h nth:Nat} {fr:FuncId} {K Kh:EvK} (hK:KOk C f nt K) (hKh:KOk C h nth Kh) {ps:Array Tmp} {assign body hd R3 R5 R2:Code} {ops:Array Oper} {id4:Nat} (hn:26≤nth)
  (ha:cJ C f assign) (hb:cJ C f body) (phd:cJ C h hd) (p3:cJ C h R3) (p5:cJ C h R5) (p2:cJ C h R2) (hops:jU ops)
  {tm:List (Nat×A)} {tmps:Array Value} (hps:ps.toList.all (· <nt)=true) (hps2:ps.size=2) (hsz:tmps.size=nt) {w0 W1:World} {g1:Gh} {D l:Nat} (h0:w0.heap.size≤l) (htm:TmR W1 g1 tm tmps) {df:List Deferred}
  {Q:Exit→Act→World→Prop} {x:Ex×Mem} (hQ:∀e a' w' g',(e= .exit 0∨e= .ret)→a'.tmps.size=nth→a'.defers=df→RunJ C w0 W1 g1 l (fU fr tmps ps assign body D (if(eS x.1).isNone then .ready else .done) (eS x.1)) x.2 w' g'→Q e a' w'):
  ∀(n:Nat) (tml:List (Nat×A)) (m:Mem) (ls:List Nat),jg K Kh ps.toList assign body tm hd R3 R5 R2 n tml m=some (ls,x)→(∀y∈ls,y=l)→
   ∀(W:World) (g:Gh) (a:Act),a.tmps.size=nth→a.defers=df→RunJ C w0 W1 g1 l (fU fr tmps ps assign body D .ready none) m W g→TmR W g tml a.tmps→
   (Code.seq hd (.seq (.block 1 (.seq R3 (.seq (.seq (.region id4 ops false) (.cond (.tmp 25) .ret .skip)) R5))) R2)).wpIn (Fz none) 0 C.P
    (Exit.then (dT none C.P (Code.seq hd (.seq (.block 1 (.seq R3 (.seq (.seq (.region id4 ops false) (.cond (.tmp 25) .ret .skip)) R5))) R2)) Q) Q) a W
 |0,tml,m,ls,h,hls,W,g,a,hz,hdf,hj,ht=>by simp[jg] at h
 |n+1,tml,m,ls,h,hls,W,g,a,hz,hdf,hj,ht=>by
  rw[jg] at h
  cases hk1:Kh hd ⟨tml,m⟩ with
  |none=>simp[hk1] at h
  |some y1=>
  obtain⟨e1,s1⟩:=y1
  refine wpIn_seq (eng hKh hk1 phd hz hj.sr ht fun e a' w' hp=> ?_)
  obtain⟨g',q1,q2,q3,q4,q5,q6⟩:=hp
  have hlt:l<W.heap.size:=(Array.getElem?_eq_some_iff.1 hj.rec_).1
  obtain⟨r1,r2⟩:=q2.fr l hlt hj.loose
  have hj1:RunJ C w0 W1 g1 l (fU fr tmps ps assign body D .ready none) s1.m w' g':=⟨q1,hj.ext.trans q2.toX,r2,r1.trans hj.rec_⟩
  cases e1 with
  |ret=>simp[hk1] at h
  |pan b=>simp[hk1] at h
  |exit i=>
   simp only[hk1] at h
   cases i with
   |succ i=>cases h
   |zero=>
   simp only[Option.some.injEq,Prod.mk.injEq] at h
   obtain⟨_,rfl⟩:=h
   cases e<;>first|exact q6.elim|skip
   have:(0:Nat)=_:=q6
   subst this
   exact hQ _ a' w' g' (.inl rfl) q4 (q5.trans hdf) hj1
  |normal=>
  cases e<;>first|exact q6.elim|skip
  clear q6
  simp only[hk1] at h
  cases hk3:Kh R3 s1 with
  |none=>simp[hk3] at h
  |some y3=>
  obtain⟨e3,s3⟩:=y3
  cases e3<;>simp only[hk3,reduceCtorEq] at h
  cases hy:lk 0 s3.tm<;>simp only[hy,reduceCtorEq] at h
  rename_i l'
  refine wpIn_seq (wpIn_block (wpIn_seq (jZ hKh hk3 p3 q4 q1 q3 fun g3 w3 a3 t1 t2 t3 t4 t5=> ?_)))
  obtain⟨u1,u2⟩:=t2.fr l (Array.getElem?_eq_some_iff.1 hj1.rec_).1 hj1.loose
  have hj3:RunJ C w0 W1 g1 l (fU fr tmps ps assign body D .ready none) s3.m w3 g3:=⟨t1,hj1.ext.trans t2.toX,u2,u1.trans hj1.rec_⟩
  have hl':l'=l:=by
   refine hls l' ?_
   cases hr:fo K ps.toList assign body tm [lk 3 s3.tm,lk 4 s3.tm] s3.m with
   |none=>simp[hr] at h
   |some yr=>
    obtain⟨er,mr⟩:=yr
    cases er with
    |pan b=>simp[hr] at h
    |ret=>simp only[hr,Option.some.injEq,Prod.mk.injEq] at h;rw[←h.1];simp
    |exit i=>simp only[hr,Option.some.injEq,Prod.mk.injEq] at h;rw[←h.1];simp
    |normal=>
     simp only[hr] at h
     split at h
     ·split at h
      ·split at h
       ·simp only[Option.some.injEq,Prod.mk.injEq] at h
        rw[←h.1];simp
       ·cases h
      ·cases h
     ·cases h
  subst hl'
  obtain⟨ty1,p1,ed1,ty2,pp2,ed2,ty3,pp3,ed3,tys,ty4,p4,ed4,ty5,pp5,ed5,u,hops'⟩:=hops
  obtain⟨o0,o1,o2,o3,o4,osz⟩:=Gj hops'
  refine wpIn_seq (wpIn_seq (wpIn_region ?_))
  rw[osz]
  show wpOpsIn (Fz none) 0 C.P ops _ [0,1,2,3,4] a3 w3
  have mv:∀{i d:Nat} {y:Nat} {ty:TypeId} {p:String} {ed:Array Edge} {aa:Act} {tt:List (Nat×A)} {rest:List Nat} {QQ:Exit→Act→World→Prop},ops[i]? =some ⟨some d,.move (.tmp y),ty,p,ed,none⟩→d<nth→aa.tmps.size=nth→aa.defers=a3.defers→TmR w3 g3 tt aa.tmps→
    (∀aa':Act,aa'.tmps.size=nth→aa'.defers=a3.defers→TmR w3 g3 ((d,lk y tt)::tt) aa'.tmps→wpOpsIn (Fz none) 0 C.P ops QQ rest aa' w3)→wpOpsIn (Fz none) 0 C.P ops QQ (i::rest) aa w3:=by
   intro i d y ty p ed aa tt rest QQ ho hd hz' hdf' ht' hn'
   refine fb ho rfl (fun c e=>by cases e) (fun r ar w' e=>by cases e) ?_
   show wpOpsIn _ _ _ _ _ _ (aa.put (some d) (aa.eval (.tmp y))) w3
   exact hn' _ (by rw[eL];exact hz') (by rw[bZ];exact hdf') (TmR.put (d:=some d) (b:=lk y tt) ht' (by simp[hz',hd]) (ht' y))
  refine mv o0 (by omega) t4 rfl t3 fun b0 z0 d0 m0=>mv o1 (by omega) z0 d0 m0 fun b1 z1 d1 m1=>mv o2 (by omega) z1 d1 m1 fun b2 z2 d2 m2=> ?_
  have hv21:b2.eval (.tmp 21)= .func (.yield l') #[] #[]:=by
   have:=m2 21
   simp only[lk,if_true,show ¬(23:Nat)=21 by decide,show ¬(22:Nat)=21 by decide,if_false] at this
   rw[hy,VR] at this
   exact this
  have hv:VRs w3 g3 [lk 3 s3.tm,lk 4 s3.tm] [b2.eval (.tmp 22),b2.eval (.tmp 23)]:=by
   refine .mk_cons ?_ (.mk_cons ?_ .mk_nil)
   ·have:=m2 22
    simp only[lk,if_true,show ¬(23:Nat)=22 by decide,if_false,show ¬(21:Nat)=3 by decide] at this
    exact this
   ·have:=m2 23
    simp only[lk,if_true,show ¬(22:Nat)=4 by decide,if_false,show ¬(21:Nat)=4 by decide] at this
    exact this
  have hrec3:w3.heap[l']? =some (.loop {state:= .ready,pending:=none,fn:=fr,tmps:=tmps,params:=ps,assign:=assign,body:=body,defers:=D}):=hj3.rec_
  refine BX o3 rfl (fun c e=>by cases e) ((sS rfl hv21).trans (run_yield hrec3 (by simp[hps2]))) ?_
  have htm3:TmR w3 g3 tm tmps:=htm.monoB hj3.ext.toExtB
  cases hr:fo K ps.toList assign body tm [lk 3 s3.tm,lk 4 s3.tm] s3.m with
  |none=>simp[hr] at h
  |some yr=>
  have hround:=xF hK ha hb hr hps hsz hj3.sr htm3 hv hj3.rec_ hj3.loose h0
  have harr:(#[Operand.tmp 22,Operand.tmp 23].map b2.eval)=[b2.eval (.tmp 22),b2.eval (.tmp 23)].toArray:=by simp
  rw[←harr] at hround
  refine hround.mono fun e4 w4 hp=> ?_
  obtain⟨rfl,g4,v1,v2,v3,v4⟩:=hp
  refine⟨_,rfl, ?_⟩
  have hm2:TmR w4 g4 ((23,lk 4 s3.tm)::(22,lk 3 s3.tm)::(21,lk 0 s3.tm)::s3.tm) b2.tmps:=by
   have:TmR w3 g3 ((23,lk 4 s3.tm)::(22,lk 3 s3.tm)::(21,lk 0 s3.tm)::s3.tm) b2.tmps:=by
    have e4:lk 4 ((22,lk 3 ((21,lk 0 s3.tm)::s3.tm))::(21,lk 0 s3.tm)::s3.tm)=lk 4 s3.tm:=by simp[lk]
    have e3:lk 3 ((21,lk 0 s3.tm)::s3.tm)=lk 3 s3.tm:=by simp[lk]
    rw[e4,e3] at m2
    exact m2
   exact this.monoB v2.toExtB
  have hm4:∀b:Bool,TmR w4 g4 ((24,.bool b)::(23,lk 4 s3.tm)::(22,lk 3 s3.tm)::(21,lk 0 s3.tm)::s3.tm) (b2.put (some 24) (.bool b)).tmps:=fun b=>TmR.put (d:=some 24) hm2 (by simp[z2];omega) (by rw[VR])
  have last:∀b:Bool,∀QQ:Exit→Act→World→Prop,(∀g5 w5 (a5:Act),Ext w4 g4 w5 g5→SR C.P C.gl w0 g5 yr.2 w5→a5.tmps.size=nth→a5.defers=a3.defers→TmR w5 g5 (tm4 b s3.tm) a5.tmps→QQ .normal a5 w5)→wpOpsIn (Fz none) 0 C.P ops QQ [4] (b2.put (some 24) (.bool b)) w4:=by
   intro b QQ hq
   have hz4:(b2.put (some 24) (.bool b)).tmps.size=nth:=by rw[eL];exact z2
   have hg:jI C.P C.gl w0 w4 g4 yr.2 (.bool (!b)) ((execOp (b2.put (some 24) (.bool b)).eval (⟨some 25,.unOp .not u (.tmp 24),ty5,pp5,ed5,none⟩:Oper)).run C.P w4):=
    fM (ρA:=AE.opd C.gl ((24,.bool b)::(23,lk 4 s3.tm)::(22,lk 3 s3.tm)::(21,lk 0 s3.tm)::s3.tm)) v1 _ (by simp[opA,unA,lk,AE.opd]) (TmR.opd (C:=C) (hm4 b) v1.gl)
   refine rh (s:=⟨(24,.bool b)::(23,lk 4 s3.tm)::(22,lk 3 s3.tm)::(21,lk 0 s3.tm)::s3.tm,yr.2⟩) (n:=0) o4 (fun c e=>by cases e) (by simp;omega) rfl hz4 (hm4 b) hg ?_
   intro g5 w5 a5 x1 x2 x3 x4 x5
   exact hq g5 w5 a5 x1 x4 x2 (by rw[x3,bZ];exact d2) x5
  have hjr:∀g5 w5,Ext w4 g4 w5 g5→SR C.P C.gl w0 g5 yr.2 w5→RunJ C w0 W1 g1 l' (fU fr tmps ps assign body D (if(eS yr.1).isNone then .ready else .done) (eS yr.1)) yr.2 w5 g5:=fun g5 w5 x1 x2=>by
   obtain⟨y1,y2⟩:=x1.fr l' (Array.getElem?_eq_some_iff.1 v4).1 v3
   exact⟨x2,(hj3.ext.trans v2).trans x1.toX,y2,y1.trans v4⟩
  have hdf3:a3.defers=df:=by rw[t5,q5,hdf]
  obtain⟨er,mr⟩:=yr
  show wpOpsIn (Fz none) 0 C.P ops _ [4] (b2.put (some 24) (.bool (eS er).isNone)) w4
  refine last (eS er).isNone _ fun g5 w5 a5 x1 x2 x3 x4 x5=> ?_
  have hev:a5.eval (.tmp 25)= .bool (!(eS er).isNone):=by
   have:=x5 25
   simp only[tm4,lk,if_true] at this
   rw[VR] at this
   exact this
  have hjj:=hjr g5 w5 x1 x2
  have stop:er≠ .normal→x=(er,mr)→(eS er).isNone=false→(Code.cond (.tmp 25) .ret .skip).wpIn (Fz none) 0 C.P (Exit.then (fun a w=>R5.wpIn (Fz none) 0 C.P (Exit.inBlock 1 (Exit.then (R2.wpIn (Fz none) 0 C.P (Exit.then (dT none C.P (Code.seq hd (.seq (.block 1 (.seq R3 (.seq (.seq (.region id4 ops false) (.cond (.tmp 25) .ret .skip)) R5))) R2)) Q) Q)) (Exit.then (dT none C.P (Code.seq hd (.seq (.block 1 (.seq R3 (.seq (.seq (.region id4 ops false) (.cond (.tmp 25) .ret .skip)) R5))) R2)) Q) Q))) a w) (Exit.inBlock 1 (Exit.then (R2.wpIn (Fz none) 0 C.P (Exit.then (dT none C.P (Code.seq hd (.seq (.block 1 (.seq R3 (.seq (.seq (.region id4 ops false) (.cond (.tmp 25) .ret .skip)) R5))) R2)) Q) Q)) (Exit.then (dT none C.P (Code.seq hd (.seq (.block 1 (.seq R3 (.seq (.seq (.region id4 ops false) (.cond (.tmp 25) .ret .skip)) R5))) R2)) Q) Q)))) a5 w5:=by
   intro hne hx hjn
   subst hx
   rw[hjn] at hev
   refine wpIn_cond_true hev (wpIn_ret ?_)
   exact hQ .ret a5 w5 g5 (.inr rfl) x3 (x4.trans hdf3) hjj
  cases er with
  |pan b=>simp[hr] at h
  |ret=>
   simp only[hr,Option.some.injEq,Prod.mk.injEq] at h
   exact stop (by simp) h.2.symm rfl
  |exit i=>
   simp only[hr,Option.some.injEq,Prod.mk.injEq] at h
   exact stop (by simp) h.2.symm rfl
  |normal=>
   simp only[hr] at h
   cases hk5:Kh R5 ⟨tm4 true s3.tm,mr⟩ with
   |none=>simp[hk5] at h
   |some y5=>
   obtain⟨e5,s5⟩:=y5
   cases e5<;>simp only[hk5,reduceCtorEq] at h
   cases hk2:Kh R2 s5 with
   |none=>simp[hk2] at h
   |some y2=>
   obtain⟨e2,s2⟩:=y2
   cases e2<;>simp only[hk2,reduceCtorEq] at h
   cases hit:jg K Kh ps.toList assign body tm hd R3 R5 R2 n (prune (some [0,1,3]) s2.tm) s2.m with
   |none=>simp[hit] at h
   |some yi=>
   obtain⟨ls',x'⟩:=yi
   simp only[hit,Option.some.injEq,Prod.mk.injEq] at h
   obtain⟨rfl,rfl⟩:=h
   refine wpIn_cond_false hev (wpIn_skip ?_)
   show R5.wpIn _ _ _ _ a5 w5
   refine jZ hKh hk5 p5 x3 x2 x5 fun g6 w6 a6 r1 r2 r3 r4 r5=> ?_
   show R2.wpIn _ _ _ _ a6 w6
   refine jZ hKh hk2 p2 r4 r1 r3 fun g7 w7 a7 k1 k2 k3 k4 k5=> ?_
   show dT none C.P _ Q a7 w7
   obtain⟨y1,y2⟩:=r2.fr l' (Array.getElem?_eq_some_iff.1 hjj.rec_).1 hjj.loose
   have hr6:=y1.trans hjj.rec_
   obtain⟨y3,y4⟩:=k2.fr l' (Array.getElem?_eq_some_iff.1 hr6).1 y2
   refine xg (u7 hK hKh hn ha hb phd p3 p5 p2 ⟨ty1,p1,ed1,ty2,pp2,ed2,ty3,pp3,ed3,tys,ty4,p4,ed4,ty5,pp5,ed5,u,hops'⟩ hps hps2 hsz h0 htm hQ n _ _ ls' hit (fun y hy=>hls y (List.mem_cons_of_mem _ hy)) w7 g7 a7 k4 (by rw[k5,r5,x4,hdf3])
    ⟨k1,(hjj.ext.trans r2.toX).trans k2.toX,y4,y3.trans hr6⟩ (k3.prune _))
theorem B2 {f nt h nth:Nat} {fr:FuncId} {K Kh:EvK} (hK:KOk C f nt K) (hKh:KOk C h nth Kh) {ps:Array Tmp} {assign body hd R0 R3 R5 R2:Code} {ops:Array Oper} {id4:Nat} (hn:26≤nth)
  (ha:cJ C f assign) (hb:cJ C f body) {fnh:Func} (hfh:C.P.funcs[h]? =some fnh) (hbh:fnh.body=some (.seq R0 (.block 0 (.loop (.seq hd (.seq (.block 1 (.seq R3 (.seq (.seq (.region id4 ops false) (.cond (.tmp 25) .ret .skip)) R5))) R2)))))) (hnh:fnh.ntmps=nth) (hrh:fnh.results= #[]) (hops:jU ops)
  {tm:List (Nat×A)} {tmps:Array Value} (hps:ps.toList.all (· <nt)=true) (hps2:ps.size=2) (hsz:tmps.size=nt) {w0 W1:World} {g1:Gh} {D l:Nat} (h0:w0.heap.size≤l) (htm:TmR W1 g1 tm tmps) {tb n:Nat} {m:Mem} {s0:St} {ls:List Nat} {x:Ex×Mem} {pv:Value}
  (hk0:Kh R0 ⟨bi 0 [.yld l,.ptr tb 0],m⟩=some (.normal,s0)) (hit:jg K Kh ps.toList assign body tm hd R3 R5 R2 n s0.tm s0.m=some (ls,x)) (hls:∀y∈ls,y=l)
  (hs:SR C.P C.gl w0 g1 m W1) (hL:dj g1 l) (hrec:W1.heap[l]? =some (fU fr tmps ps assign body D .ready none)) (hpv:VR W1 g1 (.ptr tb 0) pv):
  CallsIn (Fz none) 0 C.P h #[.func (.yield l) #[] #[],pv] W1 fun e w'=>e= .returned (.tuple #[])∧∃g',RunJ C w0 W1 g1 l (fU fr tmps ps assign body D (if(eS x.1).isNone then .ready else .done) (eS x.1)) x.2 w' g':=by
 refine callsIn_of_wp hfh hbh trivial ?_
 have hres:∀(tm':Array Value) (w':World),(results fnh tm').run C.P w'= .ok (.tuple #[]) w':=fun tm' w'=>by
  unfold results
  rw[hrh,Sem.run_bind,Array.mapM_eq_mapM_toList,Sem.run_map]
  rfl
 have htm0:TmR W1 g1 (bi 0 [.yld l,.ptr tb 0]) (#[.func (.yield l) #[] #[],pv]++Array.replicate (fnh.ntmps-(#[.func (.yield l) #[] #[],pv]:Array Value).size) undef):=fun t=>by
  have:=iL [.yld l,.ptr tb 0] [.func (.yield l) #[] #[],pv] W1 g1 0 t (Array.replicate (fnh.ntmps-2) undef) [] rfl (.mk_cons (by rw[VR]) (.mk_cons hpv .mk_nil))
  simpa using this
 have part:∀c,Sub (.seq R0 (.block 0 (.loop (.seq hd (.seq (.block 1 (.seq R3 (.seq (.seq (.region id4 ops false) (.cond (.tmp 25) .ret .skip)) R5))) R2))))) c→cJ C h c:=fun c hc=>⟨fnh,_,hfh,hbh,hc⟩
 refine wpIn_seq (jZ hKh hk0 (part _ (by simp[Sub,Sub.refl])) (by simp[hnh];omega) hs htm0 fun g2 w2 a2 q1 q2 q3 q4 q5=> ?_)
 obtain⟨r1,r2⟩:=q2.fr l (Array.getElem?_eq_some_iff.1 hrec).1 hL
 refine wpIn_block (A6 (u7 (Q:=_) hK hKh hn ha hb (part _ (by simp[Sub,Sub.refl])) (part _ (by simp[Sub,Sub.refl])) (part _ (by simp[Sub,Sub.refl])) (part _ (by simp[Sub,Sub.refl])) hops hps hps2 hsz h0 htm (df:=[]) ?_ n s0.tm s0.m ls hit hls w2 g2 a2 q4 q5 ⟨q1,q2.toX,r2,r1.trans hrec⟩ q3))
 rintro e a' w' g' (rfl|rfl) z1 z2 hj
 ·simp only[Exit.inBlock,if_true]
  exact⟨z2,_,hres _ _,rfl,g',hj⟩
 ·exact⟨z2,_,hres _ _,rfl,g',hj⟩
theorem zH {f nt h nth:Nat} {K Kh:EvK} (hK:KOk C f nt K) (hKh:KOk C h nth Kh) {gop:Operand} {ps:Array Tmp} {assign body hd R0 R3 R5 R2:Code} {ops:Array Oper} {id4:Nat} (hn:26≤nth)
  (ha:cJ C f assign) (hb:cJ C f body) {fnh:Func} (hfh:C.P.funcs[h]? =some fnh) (hbh:fnh.body=some (.seq R0 (.block 0 (.loop (.seq hd (.seq (.block 1 (.seq R3 (.seq (.seq (.region id4 ops false) (.cond (.tmp 25) .ret .skip)) R5))) R2)))))) (hnh:fnh.ntmps=nth) (hrh:fnh.results= #[]) (hnm:fnh.name≠ "runtime.NumGoroutine") (hops:jU ops)
  {tm:List (Nat×A)} (hps:ps.toList.all (· <nt)=true) (hps2:ps.size=2) {tb n:Nat} {m:Mem} {s0:Nat→St} {ls:Nat→List Nat} {x:Nat→Ex×Mem}
  (hk0:∀l,Kh R0 ⟨bi 0 [.yld l,.ptr tb 0],m⟩=some (.normal,s0 l)) (hit:∀l,jg K Kh ps.toList assign body tm hd R3 R5 R2 n (s0 l).tm (s0 l).m=some (ls l,x l)) (hls:∀l,∀y∈ls l,y=l)
  {w0 w:World} {g:Gh} {a:Act} (hsz:a.tmps.size=nt) (hs:SR C.P C.gl w0 g m w) (ht:TmR w g tm a.tmps) (hgop:AE.opd C.gl tm gop= .fn h [.ptr tb 0]) {Q:Exit→Act→World→Prop}
  (hQ:∀l g' w',SR C.P C.gl w0 g' (x l).2 w'→Ext w g w' g'→dj g' w.heap.size→w'.heap[w.heap.size]? =some (.deferred (some []))→
   (match eS (x l).1 with|none=>Q .normal|some c=>c.wpIn (Fz none) 0 C.P Q) {a with defers:={target:= .collected w.heap.size,args:= #[]}::a.defers} w'):
  (Code.rangeFunc gop ps assign body).wpIn (Fz none) 0 C.P Q a w:=by
 refine wpIn_rangeFunc fun fr _=> ?_
 obtain⟨n1,n2,n3⟩:=hs.newLoose (.deferred (some []))
 obtain⟨k1,k2,k3⟩:=n1.newLoose (fU fr a.tmps ps assign body w.heap.size .ready none)
 have hsz1:(w.alloc (.deferred (some []))).heap.size=w.heap.size+1:=by simp
 rw[hsz1] at k3
 have hgv:=ht.opd (C:=C) hs.gl gop
 rw[hgop,VR] at hgv
 obtain⟨us,hgv,hus⟩:=hgv
 obtain⟨pv,hus1,hpv⟩:∃pv,us=[pv]∧VR w g (.ptr tb 0) pv:=by
  rw[VRs.cons_iff] at hus
  obtain⟨u,t,rfl,h1,h2⟩:=hus
  rw[VRs.nil_iff] at h2
  subst h2
  exact⟨u,rfl,h1⟩
 subst hus1
 obtain⟨W1,hW1⟩:∃W1,(w.alloc (.deferred (some []))).alloc (fU fr a.tmps ps assign body w.heap.size .ready none)=W1:=⟨_,rfl⟩
 rw[hW1] at k1 k2
 have hext:Ext w g W1 g:=n2.trans k2
 have hL1:W1.heap[w.heap.size+1]? =some (fU fr a.tmps ps assign body w.heap.size .ready none):=by
  rw[←hW1,←hsz1];exact World.alloc_heap_new _ _
 have hD1:W1.heap[w.heap.size]? =some (.deferred (some [])):=by
  rw[←hW1];exact(Below.heap_alloc _ _ _ (by simp)).trans (World.alloc_heap_new w _)
 have hcb:(fnh.name== "runtime.NumGoroutine")=false:=by simpa using hnm
 have hent:(invoke (.fn (.func h) #[pv]) #[.func (.yield (w.heap.size+1)) #[] #[]]).run C.P W1= .ok (.enter h #[.func (.yield (w.heap.size+1)) #[] #[],pv]) W1:=by
  simp only[invoke,callFunc,Sem.run_bind,run_program,Result.andThen_ok,hfh,hcb,Bool.false_eq_true,if_false,hbh,Option.isNone_some,Sem.run_pure]
  rfl
 refine⟨w.heap.size+1,[{target:= .collected w.heap.size,args:= #[]}],W1,{target:= .fn (.func h) #[pv],args:= #[.func (.yield (w.heap.size+1)) #[] #[]]},W1,h,_,W1, ?_, ?_,fun _ _=>trivial,hent,fun hd=>by simp[Fz,Fence.wide] at hd, ?_⟩
 ·rw[←hW1];exact run_enterLoop_outer _ _ _ _ _
 ·simp only[resolve,hgv,Deferred.ofValue,List.map_toArray,List.map,Sem.run_pure]
  rfl
 ·refine(B2 (fr:=fr) hK hKh hn ha hb hfh hbh hnh hrh hops hps hps2 hsz (by have:=hs.szB;omega) (ht.mono hext) (hk0 _) (hit _) (hls _) k1 k3 hL1 (VR.mono hext _ _ hpv)).mono ?_
  rintro e w' ⟨rfl,g',hj⟩
  have hst:(if(eS (x (w.heap.size+1)).1).isNone then LoopState.ready else LoopState.done)≠ .busy:=by split<;>simp
  refine⟨_,_,run_endLoop (P:=C.P) hj.rec_ hst, ?_⟩
  obtain⟨t1,t2⟩:=hj.sr.turn (fU fr a.tmps ps assign body w.heap.size .exhausted (eS (x (w.heap.size+1)).1)) hj.loose (by have:=hs.szB;omega)
  obtain⟨d1,d2⟩:=hj.ext.fr w.heap.size (Array.getElem?_eq_some_iff.1 hD1).1 (by simp) ⟨fun i hi=>n3.1 i hi,fun i hi=>n3.2.1 i hi,n3.2.2⟩
  have:=hQ (w.heap.size+1) g' _ t1 ((hext.toX.trans (hj.ext.trans t2)).toExt fun b hb=>by omega) d2 (by rw[World.putObj_heap_other (by omega)];exact d1.trans hD1)
  cases hjx:eS (x (w.heap.size+1)).1 with
  |none=>rw[hjx] at this;exact this
  |some c=>rw[hjx] at this;exact this
structure RF where
 (R0 c1 R3 R4 R5 post assign body:Code)
 (id6:Nat) (ops6:Array Oper) (ps:Array Tmp)
 (gf h:FuncId)
 (hd I0 I3 I5 I2:Code)
 (id4:Nat) (ops4:Array Oper)
def RF.code(p:RF):Code:= .seq p.R0 (.seq p.c1 (.seq p.R3 (.seq p.R4 (.seq p.R5 (.seq (.seq (.region p.id6 p.ops6 false) (.block 0 (.rangeFunc (.tmp 28) p.ps p.assign p.body))) p.post)))))
def ops6(gf:FuncId)(ops:Array Oper):Prop:=∃t1 p1 e1 ty t2 p2 e2,ops.toList=[⟨some 27,.move (.tmp 0),t1,p1,e1,none⟩,⟨some 28,.call {callee:= .value (.func gf),args:= #[.tmp 27],argTypes:=ty},t2,p2,e2,none⟩]
theorem FP{ops:Array Oper}{x y:Oper}(h:ops.toList=[x,y]):ops[0]? =some x∧ops[1]? =some y∧ops.size=2:=by
 have h0:ops= #[x,y]:=by apply Array.ext';rw[h]
 subst h0
 exact⟨rfl,rfl,rfl⟩
theorem AL (hC:CfgOk C) {f nt nth:Nat} {K Kh:EvK} (hK:KOk C f nt K) {p:RF} (hKh:KOk C p.h nth Kh) {fn fnh:Func} (hf:C.P.funcs[f]? =some fn) (hb:fn.body=some p.code) (hnt:fn.ntmps=nt) (hfn:fn.name≠ "runtime.NumGoroutine") (h29:29≤nt)
  (hfh:C.P.funcs[p.h]? =some fnh) (hbh:fnh.body=some (.seq p.I0 (.block 0 (.loop (.seq p.hd (.seq (.block 1 (.seq p.I3 (.seq (.seq (.region p.id4 p.ops4 false) (.cond (.tmp 25) .ret .skip)) p.I5))) p.I2)))))) (hnh:fnh.ntmps=nth) (hn:26≤nth) (hrh:fnh.results= #[]) (hnm:fnh.name≠ "runtime.NumGoroutine")
  (h4:jU p.ops4) (h6:ops6 p.gf p.ops6) (hps:p.ps.toList.all (· <nt)=true) (hps2:p.ps.size=2)
  {args:List A} {m:Mem} (hlen:args.length≤nt) {s0 s1 s3 s4 s5:St} {tb n:Nat} {m6:Mem} {i0:Nat→St} {ls:Nat→List Nat} {x:Nat→Ex×Mem} {y:Nat→Ex×St} {b:Nat→A} {r:Res×Mem}
  (k0:K p.R0 ⟨bi 0 args,m⟩=some (.normal,s0)) (k1:K p.c1 s0=some (.normal,s1)) (k3:K p.R3 s1=some (.normal,s3)) (k4:K p.R4 s3=some (.normal,s4)) (k5:K p.R5 s4=some (.normal,s5))
  (k6:aV C p.gf [lk 0 s5.tm] s5.m (.ret (.fn p.h [.ptr tb 0]),m6))
  (ki:∀l,Kh p.I0 ⟨bi 0 [.yld l,.ptr tb 0],m6⟩=some (.normal,i0 l))
  (hit:∀l,jg K Kh p.ps.toList p.assign p.body ((28,.fn p.h [.ptr tb 0])::(27,lk 0 s5.tm)::s5.tm) p.hd p.I3 p.I5 p.I2 n (i0 l).tm (i0 l).m=some (ls l,x l)) (hls:∀l,∀z∈ls l,z=l)
  (hy:∀l,((x l).1= .normal∧K p.post ⟨(28,.fn p.h [.ptr tb 0])::(27,lk 0 s5.tm)::s5.tm,(x l).2⟩=some (y l))∨((x l).1= .ret∧y l=(.ret,⟨(28,.fn p.h [.ptr tb 0])::(27,lk 0 s5.tm)::s5.tm,(x l).2⟩)))
  (hye:∀l,(y l).1= .normal∨(y l).1= .ret) (hres:∀l,bl C.P fn.results.toList (y l).2.tm (y l).2.m=some (b l)) (hlv:∀l,(∃k,bC C.P k m (.ret (b l)) (y l).2.m=some r)∨r=(.ret (b l),(y l).2.m)):aV C f args m r:=by
 refine⟨⟨fn,_,hf,hb,hfn⟩,fun w0 g w vals hs hv=> ?_⟩
 have hvl:=hv.length
 have htm:TmR w g (bi 0 args) (vals.toArray++Array.replicate (fn.ntmps-vals.toArray.size) undef):=fun t=>by
  have:=iL args vals w g 0 t (Array.replicate (fn.ntmps-vals.toArray.size) undef) [] rfl hv
  simpa using this
 have hsz:(vals.toArray++Array.replicate (fn.ntmps-vals.toArray.size) undef).size=nt:=by
  simp
  omega
 refine(callsIn_wide (n:=0)).1 (callsIn_of_wp_marks hf hb trivial ?_)
 have part:∀c,Sub p.code c→cJ C f c:=fun c hc=>⟨fn,_,hf,hb,hc⟩
 show Code.wpIn (Fz none) 0 C.P p.code _ _ _
 unfold RF.code at part⊢
 refine wpIn_seq (jZ hK k0 (part _ (by simp[Sub,Sub.refl])) hsz hs htm fun g0 w1 a0 q1 q2 q3 q4 q5=> ?_)
 refine wpIn_seq (jZ hK k1 (part _ (by simp[Sub,Sub.refl])) q4 q1 q3 fun g1 w2 a1 r1 r2 r3 r4 r5=> ?_)
 refine wpIn_seq (jZ hK k3 (part _ (by simp[Sub,Sub.refl])) r4 r1 r3 fun g3 w3 a3 t1 t2 t3 t4 t5=> ?_)
 refine wpIn_seq (jZ hK k4 (part _ (by simp[Sub,Sub.refl])) t4 t1 t3 fun g4 w4 a4 u1 u2 u3 u4 u5=> ?_)
 refine wpIn_seq (jZ hK k5 (part _ (by simp[Sub,Sub.refl])) u4 u1 u3 fun g5 w5 a5 v1 v2 v3 v4 v5=> ?_)
 have hdf:a5.defers=[]:=by rw[v5,u5,t5,r5,q5]
 have hx5:Ext w g w5 g5:=(((q2.trans r2).trans t2).trans u2).trans v2
 clear q1 q2 q3 q4 q5 r1 r2 r3 r4 r5 t1 t2 t3 t4 t5 u1 u2 u3 u4 u5 v2 v5
 obtain⟨t1,p1,e1,ty,t2,p2,e2,hops⟩:=h6
 obtain⟨o0,o1,osz⟩:=FP hops
 refine wpIn_seq (wpIn_seq (wpIn_region ?_))
 rw[osz]
 show wpOpsIn (Fz none) 0 C.P p.ops6 _ [0,1] a5 w5
 refine fb o0 rfl (fun c e=>by cases e) (fun r ar w' e=>by cases e) ?_
 show wpOpsIn _ _ _ _ _ _ (a5.put (some 27) (a5.eval (.tmp 0))) w5
 have m1:TmR w5 g5 ((27,lk 0 s5.tm)::s5.tm) (a5.put (some 27) (a5.eval (.tmp 0))).tmps:=TmR.put (d:=some 27) (b:=lk 0 s5.tm) v3 (by simp[v4];omega) (v3 0)
 have z1:(a5.put (some 27) (a5.eval (.tmp 0))).tmps.size=nt:=by rw[eL];exact v4
 have d1:(a5.put (some 27) (a5.eval (.tmp 0))).defers=[]:=by rw[bZ];exact hdf
 generalize a5.put (some 27) (a5.eval (.tmp 0))=b1 at m1 z1 d1
 obtain⟨hcb,hcall⟩:=k6
 have hrun:=hY (ρ:=b1.eval) (w:=w5) (o:=⟨some 28,.call {callee:= .value (.func p.gf),args:= #[.tmp 27],argTypes:=ty},t2,p2,e2,none⟩) rfl (h:=p.gf) (us:=[]) rfl hcb
 refine fb o1 rfl (fun c e=>by cases e) (by rw[hrun];intro _ _ _ e;cases e) ?_
 rw[hrun,Oper.upon_enter]
 have hv27:VR w5 g5 (lk 0 s5.tm) (b1.eval (.tmp 27)):=by
  have:=m1 27
  simp only[lk,if_true] at this
  exact this
 have hc:=hcall w0 g5 w5 [b1.eval (.tmp 27)] v1 (.one hv27)
 have harr:(#[Operand.tmp 27].map b1.eval++([]:List Value).toArray)=[b1.eval (.tmp 27)].toArray:=by simp
 rw[harr]
 refine hc.mono fun en w6 hR=> ?_
 obtain⟨g6,hs6,he6,hres6⟩:=hR
 cases en with
 |panicked ch=>exact hres6.elim
 |outgrown=>exact hres6.elim
 |returned v=>
 have m2:TmR w6 g6 ((28,.fn p.h [.ptr tb 0])::(27,lk 0 s5.tm)::s5.tm) (b1.put (some 28) v).tmps:=TmR.put (d:=some 28) (m1.mono he6) (by simp[z1];omega) hres6
 have z2:(b1.put (some 28) v).tmps.size=nt:=by rw[eL];exact z1
 have d2:(b1.put (some 28) v).defers=[]:=by rw[bZ];exact d1
 show Code.wpIn (Fz none) 0 C.P (.block 0 _) _ (b1.put (some 28) v) w6
 generalize b1.put (some 28) v=b2 at m2 z2 d2
 have hx6:Ext w g w6 g6:=hx5.trans he6
 /- the end of the call -/
 have fin:∀(l:Nat) (g7:Gh) (w7:World) (a7:Act) (ex:Exit),SR C.P C.gl w0 g7 (y l).2.m w7→Ext w g w7 g7→TmR w7 g7 (y l).2.tm a7.tmps→a7.defers=[{target:= .collected w6.heap.size,args:= #[]}]→dj g7 w6.heap.size→w7.heap[w6.heap.size]? =some (.deferred (some []))→(ex= .normal∨ex= .ret)→
   bodyPostM (Fz none) 0 C.P fn (fun e w'=>∃g',SR C.P C.gl w0 g' r.2 w'∧Ext w g w' g'∧oL w' g' r.1 e) ex a7 w7:=by
  intro l g7 w7 a7 ex f1 f2 f3 f4 f5 f6 f7
  have hsz6:w.heap.size≤w6.heap.size:=hx6.sz
  obtain⟨f8,f9⟩:=f1.turn (.deferred none) f5 (by have:=hs.szB;omega)
  have f10:Ext w g (w7.putObj w6.heap.size (.deferred none)) g7:=(f2.toX.trans f9).toExt fun b hb=>by omega
  have key:LeavesInM (Fz none) 0 C.P fn a7.tmps (fun e w'=>∃g',SR C.P C.gl w0 g' r.2 w'∧Ext w g w' g'∧oL w' g' r.1 e) a7.defers .returning w7:=by
   rw[f4]
   refine⟨by simp,.inl ⟨w6.heap.size,_,rfl,run_takeDeferred f6, ?_⟩⟩
   obtain⟨v,hr,hv⟩:=jC (C:=C) f8 (hres l) (f3.monoB f9.toExtB)
   obtain⟨g'',x1,x2,x3⟩:=iB hC (e:= .returned v) (hlv l) hs f8 f10 hv
   exact⟨v,hr,g'',x1,x2,x3⟩
  rcases f7 with rfl|rfl
  ·exact key
  ·exact key
 refine wpIn_block (zH hK hKh hn (part _ (by simp[Sub,Sub.refl])) (part _ (by simp[Sub,Sub.refl])) hfh hbh hnh hrh hnm h4 hps hps2 ki hit hls z2 hs6 m2 (by rfl) ?_)
 intro l g7 w7 x1 x2 x3 x4
 rcases hy l with⟨hxe,hkp⟩|⟨hxe,hyl⟩
 ·rw[hxe]
  show Code.wpIn (Fz none) 0 C.P p.post _ _ w7
  refine eng (a:={tmps:=b2.tmps,defers:={target:= .collected w6.heap.size,args:= #[]}::b2.defers}) hK hkp (part _ (by simp[Sub,Sub.refl])) z2 x1 (m2.mono x2) fun ex a8 w8 hp=> ?_
  obtain⟨g8,y1,y2,y3,y4,y5,y6⟩:=hp
  obtain⟨l1,l2⟩:=y2.fr _ (Array.getElem?_eq_some_iff.1 x4).1 x3
  refine fin l g8 w8 a8 ex y1 ((hx6.trans x2).trans y2) y3 (by rw[y5];show _::b2.defers=_;rw[d2]) l2 (l1.trans x4) ?_
  rcases hye l with q|q
  ·rw[q] at y6;cases ex<;>first|exact y6.elim|exact .inl rfl
  ·rw[q] at y6;cases ex<;>first|exact y6.elim|exact .inr rfl
 ·rw[hxe]
  show Code.wpIn (Fz none) 0 C.P .ret _ _ w7
  refine wpIn_ret ?_
  exact fin l g7 w7 _ .ret (by rw[hyl];exact x1) (hx6.trans x2) (by rw[hyl];exact m2.mono x2) (by rw[d2]) x3 x4 (.inr rfl)
def nrm(x:Option (Ex×St)):Option St:=match x with|some (.normal,s)=>some s|_=>none
theorem fk{x:Option (Ex×St)}{s:St}(h:nrm x=some s):x=some (.normal,s):=by
 unfold nrm at h
 split at h
 ·rw[Option.some.inj h]
 ·cases h
def Fa(y:Option (Ex×St)):Option St:=match y with|some (.normal,s)=>some s|some (.ret,s)=>some s|_=>none
theorem Gl{y:Option (Ex×St)}{s:St}(h:Fa y=some s):∃e,y=some (e,s)∧(e= .normal∨e= .ret):=by
 unfold Fa at h
 split at h
 ·rw[←Option.some.inj h];exact⟨_,rfl,.inl rfl⟩
 ·rw[←Option.some.inj h];exact⟨_,rfl,.inr rfl⟩
 ·cases h
def l4(P:Program)(K Kh:EvK)(call:List A→Mem→Option (Res×Mem))(rs:List ResultVar)(p:RF)(n:Nat)(args:List A)(m:Mem)(l:Nat):Option (List Nat×(Ex×Mem)×A×Mem):=
 (nrm (K p.R0 ⟨bi 0 args,m⟩)).bind fun s0=>(nrm (K p.c1 s0)).bind fun s1=>(nrm (K p.R3 s1)).bind fun s3=>(nrm (K p.R4 s3)).bind fun s4=>(nrm (K p.R5 s4)).bind fun s5=>
  (call [lk 0 s5.tm] s5.m).bind fun r6=>
   match r6 with
   |(.ret (.fn h [.ptr tb 0]),m6)=>
    if h=p.h then
     (nrm (Kh p.I0 ⟨bi 0 [.yld l,.ptr tb 0],m6⟩)).bind fun i0=>
      (jg K Kh p.ps.toList p.assign p.body ((28,.fn p.h [.ptr tb 0])::(27,lk 0 s5.tm)::s5.tm) p.hd p.I3 p.I5 p.I2 n i0.tm i0.m).bind fun it=>
       match it with
       |(ls,.normal,m7)=>(Fa (K p.post ⟨(28,.fn p.h [.ptr tb 0])::(27,lk 0 s5.tm)::s5.tm,m7⟩)).bind fun y=>(bl P rs y.tm y.m).map fun b=>(ls,(.normal,m7),b,y.m)
       |(ls,.ret,m7)=>(bl P rs ((28,.fn p.h [.ptr tb 0])::(27,lk 0 s5.tm)::s5.tm) m7).map fun b=>(ls,(.ret,m7),b,m7)
       |_=>none
    else none
   |_=>none
theorem vj (hC:CfgOk C) {f nt nth:Nat} {K Kh:EvK} (hK:KOk C f nt K) {p:RF} (hKh:KOk C p.h nth Kh) {call:List A→Mem→Option (Res×Mem)} (hcall:∀args m r,call args m=some r→aV C p.gf args m r) {fn fnh:Func} (hf:C.P.funcs[f]? =some fn) (hb:fn.body=some p.code) (hnt:fn.ntmps=nt) (hfn:fn.name≠ "runtime.NumGoroutine") (h29:29≤nt)
  (hfh:C.P.funcs[p.h]? =some fnh) (hbh:fnh.body=some (.seq p.I0 (.block 0 (.loop (.seq p.hd (.seq (.block 1 (.seq p.I3 (.seq (.seq (.region p.id4 p.ops4 false) (.cond (.tmp 25) .ret .skip)) p.I5))) p.I2)))))) (hnh:fnh.ntmps=nth) (hn:26≤nth) (hrh:fnh.results= #[]) (hnm:fnh.name≠ "runtime.NumGoroutine")
  (h4:jU p.ops4) (h6:ops6 p.gf p.ops6) (hps:p.ps.toList.all (· <nt)=true) (hps2:p.ps.size=2)
  {args:List A} {m:Mem} (hlen:args.length≤nt) {n:Nat} {ls:Nat→List Nat} {x:Nat→Ex×Mem} {b:Nat→A} {m8:Nat→Mem} {r:Res×Mem}
  (h:∀l,l4 C.P K Kh call fn.results.toList p n args m l=some (ls l,x l,b l,m8 l)) (hls:∀l,∀z∈ls l,z=l) (hlv:∀l,(∃k,bC C.P k m (.ret (b l)) (m8 l)=some r)∨r=(.ret (b l),m8 l)):aV C f args m r:=by
 have inv:∀l,∃s0 s1 s3 s4 s5 tb m6 i0 y,K p.R0 ⟨bi 0 args,m⟩=some (.normal,s0)∧K p.c1 s0=some (.normal,s1)∧K p.R3 s1=some (.normal,s3)∧K p.R4 s3=some (.normal,s4)∧K p.R5 s4=some (.normal,s5)∧
   call [lk 0 s5.tm] s5.m=some (.ret (.fn p.h [.ptr tb 0]),m6)∧Kh p.I0 ⟨bi 0 [.yld l,.ptr tb 0],m6⟩=some (.normal,i0)∧
   jg K Kh p.ps.toList p.assign p.body ((28,.fn p.h [.ptr tb 0])::(27,lk 0 s5.tm)::s5.tm) p.hd p.I3 p.I5 p.I2 n i0.tm i0.m=some (ls l,x l)∧
   (((x l).1= .normal∧K p.post ⟨(28,.fn p.h [.ptr tb 0])::(27,lk 0 s5.tm)::s5.tm,(x l).2⟩=some y)∨((x l).1= .ret∧y=(.ret,⟨(28,.fn p.h [.ptr tb 0])::(27,lk 0 s5.tm)::s5.tm,(x l).2⟩)))∧
   (y.1= .normal∨y.1= .ret)∧bl C.P fn.results.toList y.2.tm y.2.m=some (b l)∧y.2.m=m8 l:=by
  intro l
  have h:=h l
  unfold l4 at h
  obtain⟨s0,k0,h⟩:=Option.bind_eq_some_iff.1 h
  obtain⟨s1,k1,h⟩:=Option.bind_eq_some_iff.1 h
  obtain⟨s3,k3,h⟩:=Option.bind_eq_some_iff.1 h
  obtain⟨s4,k4,h⟩:=Option.bind_eq_some_iff.1 h
  obtain⟨s5,k5,h⟩:=Option.bind_eq_some_iff.1 h
  obtain⟨r6,k6,h⟩:=Option.bind_eq_some_iff.1 h
  split at h
  case h_2=>cases h
  case h_1 hh tb m6=>
  split at h
  case isFalse=>cases h
  case isTrue hhe=>
  subst hhe
  obtain⟨i0,k7,h⟩:=Option.bind_eq_some_iff.1 h
  obtain⟨it,k8,h⟩:=Option.bind_eq_some_iff.1 h
  split at h
  ·rename_i ls' m7
   obtain⟨y,k9,h⟩:=Option.bind_eq_some_iff.1 h
   obtain⟨b',k10,h⟩:=Option.map_eq_some_iff.1 h
   simp only[Prod.mk.injEq] at h
   obtain⟨h1,h2,h3,h4⟩:=h
   obtain⟨e,k11,k12⟩:=Gl k9
   rw[←h1,←h2,←h3,←h4]
   exact⟨s0,s1,s3,s4,s5,tb,m6,i0,(e,y),fk k0,fk k1,fk k3,fk k4,fk k5,k6,fk k7,k8,.inl ⟨rfl,k11⟩,k12,k10,rfl⟩
  ·rename_i ls' m7
   obtain⟨b',k10,h⟩:=Option.map_eq_some_iff.1 h
   simp only[Prod.mk.injEq] at h
   obtain⟨h1,h2,h3,h4⟩:=h
   rw[←h1,←h2,←h3,←h4]
   exact⟨s0,s1,s3,s4,s5,tb,m6,i0,(.ret,⟨_,m7⟩),fk k0,fk k1,fk k3,fk k4,fk k5,k6,fk k7,k8,.inr ⟨rfl,rfl⟩,.inr rfl,k10,rfl⟩
  ·cases h
 obtain⟨s0,s1,s3,s4,s5,tb,m6,_,_,k0,k1,k3,k4,k5,k6,_⟩:=inv 0
 have inv2:∀l,∃iy:St×(Ex×St),Kh p.I0 ⟨bi 0 [.yld l,.ptr tb 0],m6⟩=some (.normal,iy.1)∧jg K Kh p.ps.toList p.assign p.body ((28,.fn p.h [.ptr tb 0])::(27,lk 0 s5.tm)::s5.tm) p.hd p.I3 p.I5 p.I2 n iy.1.tm iy.1.m=some (ls l,x l)∧
   (((x l).1= .normal∧K p.post ⟨(28,.fn p.h [.ptr tb 0])::(27,lk 0 s5.tm)::s5.tm,(x l).2⟩=some iy.2)∨((x l).1= .ret∧iy.2=(.ret,⟨(28,.fn p.h [.ptr tb 0])::(27,lk 0 s5.tm)::s5.tm,(x l).2⟩)))∧
   (iy.2.1= .normal∨iy.2.1= .ret)∧bl C.P fn.results.toList iy.2.2.tm iy.2.2.m=some (b l)∧iy.2.2.m=m8 l:=by
  intro l
  obtain⟨s0',s1',s3',s4',s5',tb',m6',i0',y',j0,j1,j3,j4,j5,j6,j7,j8,j9⟩:=inv l
  rw[k0] at j0
  obtain rfl:s0=s0':=by simpa using j0
  rw[k1] at j1
  obtain rfl:s1=s1':=by simpa using j1
  rw[k3] at j3
  obtain rfl:s3=s3':=by simpa using j3
  rw[k4] at j4
  obtain rfl:s4=s4':=by simpa using j4
  rw[k5] at j5
  obtain rfl:s5=s5':=by simpa using j5
  rw[k6] at j6
  simp only[Option.some.injEq,Prod.mk.injEq,Res.ret.injEq,A.fn.injEq,true_and,List.cons.injEq,A.ptr.injEq,and_true] at j6
  obtain⟨rfl,rfl⟩:=j6
  exact⟨(i0',y'),j7,j8,j9⟩
 obtain⟨iy,hiy⟩:=Classical.axiomOfChoice inv2
 exact AL hC hK hKh hf hb hnt hfn h29 hfh hbh hnh hn hrh hnm h4 h6 hps hps2 hlen k0 k1 k3 k4 k5 (hcall _ _ _ k6) (fun l=>(hiy l).1) (fun l=>(hiy l).2.1) hls (y:=fun l=>(iy l).2) (fun l=>(hiy l).2.2.1) (fun l=>(hiy l).2.2.2.1) (fun l=>(hiy l).2.2.2.2.1) (fun l=>by rw[(hiy l).2.2.2.2.2];exact hlv l)
end
end AE
end Go.Proofs.YtmfdpijmholedaaGreatDoor
/- The shelf's contracts for strings.Builder and IndexByte at this dump: their numbers. Printed by lay-plain.mjs. -/
namespace Go.Proofs
open Go.Shelf
def Tryz.lays217_ren:Go.Shelf.Ren:=⟨fun|217=>200|266=>222|n=>n,fun|9=>9|5=>5|3=>3|n=>n,fun|n=>n⟩
theorem Tryz.lays217:Go.Proofs.Lays.n217 Tryz.prog Tryz.lays217_ren:={
 mixed:=by kernel_rfl
 f217:=Tryz.func200.trans (congrArg some (by kernel_rfl))
 f266:=Tryz.func222.trans (congrArg some (by kernel_rfl))
 t3:=Tryz.underlying3
 a3:=Tryz.isAgg3
 z3:=Tryz.sizeOf3
 v3:=Tryz.zeroValue3
 t5:=Tryz.underlying5
 a5:=Tryz.isAgg5
 z5:=Tryz.sizeOf5
 v5:=Tryz.zeroValue5
 t9:=Tryz.underlying9
 a9:=Tryz.isAgg9
 z9:=Tryz.sizeOf9
 v9:=Tryz.zeroValue9}
end Go.Proofs
