/- Texts of systems by the reference: Parse. -/
import Derived.Test.YtmfdpijmholedaaGreatDoorGL
import Derived.Test.YtmfdpijmholedaaGreatDoorGK
import Derived.Test.YtmfdpijmholedaaGreatDoorGF
import Derived.Test.YtmfdpijmholedaaGreatDoorGH
import Derived.Lay
import Derived.Stop.Joined
import Derived.Carry
import Derived.ChangeMaps5
import Derived.Test.YtmfdpijmholedaaGreatDoorCards
import Derived.Test.YtmfdpijmholedaaGreatDoorTie
import Derived.SevenTiedAt
set_option linter.unusedVariables false
set_option linter.unusedSimpArgs false
namespace Go.Proofs.YtmfdpijmholedaaGreatDoor
namespace AE
open Go
theorem AQ(q:List UInt8)(hq:q.length≤1000000):∀l,aQ q=some l→(dH (l.length+1) (l,false)).1.nodes≤1000000000:=fun l h=>Cv q hq l h
theorem tZ{F:Fun}{n:Int}{s:List UInt8}(hf:au F=true)(hs:Sm s):(jc F n s).1.nodes≤s.length+1∧aP (jc F n s).1:=by
 have hz:bO.nodes≤s.length+1∧aP bO:=by
  constructor
  ·simp[bO,Val.nodes,Val.nodesL]
  ·simp[bO,aP,bS]
 unfold jc
 split
 ·exact hz
 obtain⟨r1,r2⟩:=pq hf hs
 split
 ·rename_i h
  rw[r1] at h
  rw[r2 h]
  have hc:=kU (f:=F) hs
  have h1:=hs
  unfold Sm at h1
  have hr:=qk (f:=F) (n:=n) hc.2 (by omega)
  exact⟨by omega,hr.2⟩
 ·exact hz
def pK(k:Nat)(acc:List Val):A:=if acc.length=0 then .nils else .sl k (acc.length*3) 0 acc.length
theorem qf{F:Fun}{e:Int}{n:Nat}(h:e≠0∨100<n)(l:List (List UInt8))(x:Nat)(acc:List Val):gR F e n l x acc false=if(cF l x).isSome then(none,30) else(none,11):=by
 rw[nj h]
 cases cF l x<;>rfl
set_option maxHeartbeats 8000000 in
theorem zD(t:List UInt8)(ht:t.length≤1000000)(m:Mem):ai C0 20 [.str t] m=some (.ret (cS (Cf t)),m):=by
 rw[ab C0 (aj _ (by decide)) (by rw[ay];exact Tryz.func20) rfl (by rw[ae];rfl) (by rw[ae];rfl) (by decide) (by simp[Tryz.f20])]
 by_cases hb:40000<t.length
 ·have hb':(40000:Int)<t.length:=by omega
  have hp:Cf t=(none,2):=by unfold Cf;rw[if_pos hb]
  rw[hp]
  simp[Tryz.f20,a20,reg20,loop20,hb',cS]
 have hb':¬(40000:Int)<t.length:=by omega
 have hL:=B4 t ht
 simp[wh] at hL
 unfold Cf
 rw[if_neg hb]
 cases hlines:eI [] t with
 |nil=>
  rw[hlines] at hL
  simp at hL
  simp[Tryz.f20,a20,reg20,loop20,hb',hL,cS]
 |cons l ls=>
 rw[hlines] at hL
 simp at hL
 have hbd:l.length≤40000∧cy ls≤40000∧ls.length≤40000:=by
  have hne:¬t=[]:=by rintro rfl;rw[eI] at hlines;simp at hlines
  rw[sF t.length t (Nat.le_refl _) hne,gU] at hlines
  have e1:l=(bm t).1:=(List.cons.inj hlines).1.symm
  have e2:ls=iW (bm t).2:=(List.cons.inj hlines).2.symm
  have h1:=oh t
  have h2:=kG t
  have h3:=nV (bm t).2.length (bm t).2 (Nat.le_refl _)
  rw[e1,e2]
  omega
 obtain⟨hl1,hl2,hl3⟩:=hbd
 have htr:=sW l (by omega)
 have hd:=bf 32 l
 simp only
 have h0:¬(ls.length:Int)+1=0:=by omega
 by_cases h1:tyW.isPrefixOf (aw 32 l)=true
 case neg=>
  have hw:(aO l tyW).2=false:=by unfold aO;rw[if_neg h1]
  rw[if_pos (.inl hw)]
  by_cases h2:(aw 32 l).length<4
  ·have h2':((aw 32 l).length:Int)<4:=by omega
   simp[Tryz.f20,a20,reg20,loop20,hb',hL,htr,h0,h2',cS]
  ·have h3:¬(aw 32 l).take 4=[116,121,112,101]:=fun e=>h1 (gS.2 ⟨by simp[tyW];omega,e⟩)
   have h4:(4:Int)≤(aw 32 l).length:=by omega
   have h2':¬((aw 32 l).length:Int)<4:=by omega
   simp[Tryz.f20,a20,reg20,loop20,hb',hL,htr,h0,h2',h3,h4,cS]
   done
 obtain⟨h2,h3⟩:=gS.1 h1
 have h4n:4≤(aw 32 l).length:=h2
 have h4:(4:Int)≤(aw 32 l).length:=by omega
 have h5:¬((aw 32 l).length:Int)<4:=by omega
 have h3':(aw 32 l).take 4=[116,121,112,101]:=h3
 have hwa:aO l tyW=((aw 32 l).drop 4,true):=by unfold aO;rw[if_pos h1];rfl
 have hpf:=C7 ((aw 32 l).drop 4) (by simp;omega) (AQ _ (by simp;omega))
 rw[hwa]
 simp only
 generalize hF:dx ((aw 32 l).drop 4)=Fe at*
 obtain⟨F,e⟩:=Fe
 simp at hpf
 by_cases he:e=11
 ·subst he
  rw[if_pos (.inr rfl)]
  simp[Tryz.f20,a20,reg20,loop20,hb',hL,htr,h0,h3',h4,h5,hpf,cS]
  done
 rw[if_neg (by simp;exact he)]
 have h1l:(1:Int)≤(ls.length:Int)+1:=by omega
 have wn:IntKind.i64.wrap (ls.length:Int)=ls.length:=al _ (by omega)
 by_cases he0:e=0
 case neg=>
  have hgd:(decide (e=0)&&decide (ls.length≤100))=false:=by simp[he0]
  have hsk:e≠0∨100<ls.length:= .inl he0
  rw[hgd,qf hsk]
  simp[Tryz.f20,a20,reg20,loop20,hb',hL,htr,h0,h3',h4,h5,hpf,he,wn,h1l,he0]
  refine aC (fun x:Nat=>⟨[(2,.ptr m.bx.length 0),(4,.isl false (ls.length+1) (.str l::bv ls)),(5,.ptr (m.bx.length+1) 0),(6,.int .i64 e),(7,.ptr (m.bx.length+2) 0),(8,.bool false),(65,.isl false ls.length (bv ls)),(66,.int .i64 ls.length),(67,.int .i64 x)],⟨m.bx++[[.int .i64 0,.int .i64 0,.nils,.nils],[.int .i64 F.kind,.int .i64 F.num,.isl false F.args.length (Fun.cellsL F.args)],[.int .i64 F.kind,.int .i64 F.num,.isl false F.args.length (Fun.cellsL F.args),.nils]],m.rw⟩⟩)
   (fun x=>some (.ret (cS (if(cF (ls.drop x) x).isSome then(none,30) else(none,11))),m)) (fun x=>ls.length-x) (fun x=>x≤ls.length) 0 ?_ ?_ ?_ ?_ ?_
  ·simp
  ·simp
  ·simp
  ·intro x;simp[Tryz.f20,a20,reg20,loop20]
  ·intro x hx hrec
   by_cases hlt:x<ls.length
   ·have w2:IntKind.i64.wrap (x+1)=x+1:=al _ (by omega)
    have hnb:=kq ls[x] (by have:=gk (List.getElem_mem hlt);omega) x (by omega)
    have gx:=oN hlt
    have hx1:x+1≤ls.length:=hlt
    rw[List.drop_eq_getElem_cons hlt,cF]
    cases hn:lj ls[x] x with
    |none=>
     clear hrec
     have hb1:jl ls[x] x=([],false):=by unfold jl;rw[hn]
     rw[hb1] at hnb
     simp[round,Tryz.f20,a20,reg20,loop20,hlt,hx1,gx,hnb,cS]
     done
    |some s=>
     have hb1:jl ls[x] x=(s,true):=by unfold jl;rw[hn]
     rw[hb1] at hnb
     simp[round,Tryz.f20,a20,reg20,loop20,hlt,hx1,gx,hnb,w2,wn,he0,aZ]
     refine hrec (x+1) _ _ ?_ ?_ ?_ ?_
     ·omega
     ·omega
     ·simp
     ·simp
   ·clear hrec
    have hxe:x=ls.length:=by omega
    subst hxe
    simp[round,Tryz.f20,a20,reg20,loop20,cF,cS]
    done
 subst he0
 by_cases hn100:100<ls.length
 ·have hgd:(decide ((0:Int)=0)&&decide (ls.length≤100))=false:=by simp;omega
  have hsk:(0:Int)≠0∨100<ls.length:= .inr hn100
  rw[hgd,qf hsk]
  have hq1:¬(ls.length:Int)≤100:=by omega
  have hq2:(100:Int)<ls.length:=by omega
  simp[Tryz.f20,a20,reg20,loop20,hb',hL,htr,h0,h3',h4,h5,hpf,he,wn,h1l,hq1,hq2]
  refine aC (fun x:Nat=>⟨[(2,.ptr m.bx.length 0),(4,.isl false (ls.length+1) (.str l::bv ls)),(5,.ptr (m.bx.length+1) 0),(6,.int .i64 0),(7,.ptr (m.bx.length+2) 0),(8,.bool false),(65,.isl false ls.length (bv ls)),(66,.int .i64 ls.length),(67,.int .i64 x)],⟨m.bx++[[.int .i64 0,.int .i64 0,.nils,.nils],[.int .i64 F.kind,.int .i64 F.num,.isl false F.args.length (Fun.cellsL F.args)],[.int .i64 F.kind,.int .i64 F.num,.isl false F.args.length (Fun.cellsL F.args),.nils]],m.rw⟩⟩)
   (fun x=>some (.ret (cS (if(cF (ls.drop x) x).isSome then(none,30) else(none,11))),m)) (fun x=>ls.length-x) (fun x=>x≤ls.length) 0 ?_ ?_ ?_ ?_ ?_
  ·simp
  ·simp
  ·simp
  ·intro x;simp[Tryz.f20,a20,reg20,loop20]
  ·intro x hx hrec
   by_cases hlt:x<ls.length
   ·have w2:IntKind.i64.wrap (x+1)=x+1:=al _ (by omega)
    have hnb:=kq ls[x] (by have:=gk (List.getElem_mem hlt);omega) x (by omega)
    have gx:=oN hlt
    have hx1:x+1≤ls.length:=hlt
    rw[List.drop_eq_getElem_cons hlt,cF]
    cases hn:lj ls[x] x with
    |none=>
     clear hrec
     have hb1:jl ls[x] x=([],false):=by unfold jl;rw[hn]
     rw[hb1] at hnb
     simp[round,Tryz.f20,a20,reg20,loop20,hlt,hx1,gx,hnb,cS]
     done
    |some s=>
     have hb1:jl ls[x] x=(s,true):=by unfold jl;rw[hn]
     rw[hb1] at hnb
     simp[round,Tryz.f20,a20,reg20,loop20,hlt,hx1,gx,hnb,w2,wn,hq1,hq2,aZ]
     refine hrec (x+1) _ _ ?_ ?_ ?_ ?_
     ·omega
     ·omega
     ·simp
     ·simp
   ·clear hrec
    have hxe:x=ls.length:=by omega
    subst hxe
    simp[round,Tryz.f20,a20,reg20,loop20,cF,cS]
    done
 have hq1:(ls.length:Int)≤100:=by omega
 have hq2:¬(100:Int)<ls.length:=by omega
 have hgd:(decide ((0:Int)=0)&&decide (ls.length≤100))=true:=by simp;omega
 have hnsk:¬((0:Int)≠0∨100<ls.length):=by omega
 have hok:okF F=true:=by
  have:=rx (s:=(aw 32 l).drop 4) (by rw[hF])
  rw[hF] at this
  exact this
 obtain⟨hFn,_,hsh⟩:=(og F).1 hok
 rw[hgd]
 simp[Tryz.f20,a20,reg20,loop20,hb',hL,htr,h0,h3',h4,h5,hpf,he,wn,h1l,hq1,hq2]
 refine aC (fun q:Nat×List Val×Bool=>⟨[(2,.ptr m.bx.length 0),(4,.isl false (ls.length+1) (.str l::bv ls)),(5,.ptr (m.bx.length+1) 0),(6,.int .i64 0),(7,.ptr (m.bx.length+2) 0),(8,.bool q.2.2),(65,.isl false ls.length (bv ls)),(66,.int .i64 ls.length),(67,.int .i64 q.1)],⟨m.bx++[[.int .i64 0,.int .i64 0,.nils,.nils],[.int .i64 F.kind,.int .i64 F.num,.isl false F.args.length (Fun.cellsL F.args)],[.int .i64 F.kind,.int .i64 F.num,.isl false F.args.length (Fun.cellsL F.args),pK m.rw.length q.2.1]],m.rw++xR q.2.1⟩⟩)
  (fun q=>some (.ret (cS (gR F 0 ls.length (ls.drop q.1) q.1 q.2.1 q.2.2)),m)) (fun q=>ls.length-q.1) (fun q=>q.1≤ls.length∧q.2.1.length=q.1∧Val.nodesL q.2.1+cy (ls.drop q.1)≤40000+q.1∧∀v∈q.2.1,aP v) (0,[],true) ?_ ?_ ?_ ?_ ?_
 ·simp[pK,xR]
 ·simp
 ·simp[Val.nodesL]
  omega
 ·intro x;simp[Tryz.f20,a20,reg20,loop20]
 ·rintro⟨x,acc,good⟩ ⟨hx,hal,hnl,hsl⟩ hrec
  simp only at hx hal hnl hsl
  by_cases hlt:x<ls.length
  ·have w2:IntKind.i64.wrap (x+1)=x+1:=al _ (by omega)
   have hnb:=kq ls[x] (by have:=gk (List.getElem_mem hlt);omega) x (by omega)
   have gx:=oN hlt
   have hx1:x+1≤ls.length:=hlt
   have hsx:cy (ls.drop x)=ls[x].length+cy (ls.drop (x+1)):=by rw[List.drop_eq_getElem_cons hlt];unfold cy;rw[List.map_cons,List.sum_cons]
   simp only
   rw[List.drop_eq_getElem_cons hlt,gR]
   cases hn:lj ls[x] x with
   |none=>
    clear hrec
    have hb1:jl ls[x] x=([],false):=by unfold jl;rw[hn]
    rw[hb1] at hnb
    simp[round,Tryz.f20,a20,reg20,loop20,hlt,hx1,gx,hnb,cS]
   |some s=>
    have hb1:jl ls[x] x=(s,true):=by unfold jl;rw[hn]
    rw[hb1] at hnb
    have hsl1:=yk hn
    have hsm:Sm s:=by unfold Sm;omega
    have hpv:=zW F hsh (ls.length:Int) (by omega) (by omega) s hsm
    simp at hpv
    simp only
    rw[if_neg hnsk]
    by_cases hne:acc=[]
    ·have hA:pK m.rw.length acc= .nils:=by rw[hne];rfl
     have hR:xR acc=[]:=by rw[hne];rfl
     cases hz:decide ((jc F ls.length s).2=11) with
     |true=>
      simp at hz
      clear hrec
      simp[round,Tryz.f20,a20,reg20,loop20,hlt,hx1,gx,hnb,wn,hq1,hq2,hpv,hz,hA,hR,cS]
     |false=>
      simp at hz
      have hcost:=tZ (n:=(ls.length:Int)) hsh hsm
      rw[if_neg hz]
      have hacc:Val.nodesL (acc++[(jc F ls.length s).1])=Val.nodesL acc+(jc F ls.length s).1.nodes:=by rw[hG];simp[Val.nodesL]
      cases good with
      |false=>
       simp[round,Tryz.f20,a20,reg20,loop20,hlt,hx1,gx,hnb,wn,hq1,hq2,hpv,hz,w2,hA,hR,dQ]
       refine hrec (x+1,acc++[(jc F ls.length s).1],false) _ _ ?_ ?_ ?_ ?_
       ·simp only;omega
       ·simp only
        refine⟨by omega,by simp;omega,by omega,fun v hv=> ?_⟩
        rcases List.mem_append.1 hv with hv|hv
        ·exact hsl v hv
        ·rw[List.mem_singleton] at hv;rw[hv];exact hcost.2
       ·simp[pK,xR,hne,Val.cellsL_append,Val.cellsL]
       ·simp
      |true=>
       simp[round,Tryz.f20,a20,reg20,loop20,hlt,hx1,gx,hnb,wn,hq1,hq2,hpv,hz,w2,hA,hR,dQ]
       refine hrec (x+1,acc++[(jc F ls.length s).1],decide ((jc F ls.length s).2=0)) _ _ ?_ ?_ ?_ ?_
       ·simp only;omega
       ·simp only
        refine⟨by omega,by simp;omega,by omega,fun v hv=> ?_⟩
        rcases List.mem_append.1 hv with hv|hv
        ·exact hsl v hv
        ·rw[List.mem_singleton] at hv;rw[hv];exact hcost.2
       ·simp[pK,xR,hne,Val.cellsL_append,Val.cellsL]
       ·simp
    ·have hp0:¬acc.length=0:=fun h=>hne (List.eq_nil_of_length_eq_zero h)
     have hA:pK m.rw.length acc= .sl m.rw.length (acc.length*3) 0 acc.length:=by unfold pK;rw[if_neg hp0]
     have hR:xR acc=[⟨47,Val.cellsL acc⟩]:=by unfold xR;rw[if_neg hp0]
     have h6:(acc.length+1)*56≤70368744177664:=by omega
     have h7:acc.length+1≤70368744177664:=by omega
     cases hz:decide ((jc F ls.length s).2=11) with
     |true=>
      simp at hz
      clear hrec
      simp[round,Tryz.f20,a20,reg20,loop20,hlt,hx1,gx,hnb,wn,hq1,hq2,hpv,hz,hA,hR,h6,h7,cS]
     |false=>
      simp at hz
      have hcost:=tZ (n:=(ls.length:Int)) hsh hsm
      rw[if_neg hz]
      have hacc:Val.nodesL (acc++[(jc F ls.length s).1])=Val.nodesL acc+(jc F ls.length s).1.nodes:=by rw[hG];simp[Val.nodesL]
      cases good with
      |false=>
       simp[round,Tryz.f20,a20,reg20,loop20,hlt,hx1,gx,hnb,wn,hq1,hq2,hpv,hz,w2,hA,hR,h6,h7,du]
       refine hrec (x+1,acc++[(jc F ls.length s).1],false) _ _ ?_ ?_ ?_ ?_
       ·simp only;omega
       ·simp only
        refine⟨by omega,by simp;omega,by omega,fun v hv=> ?_⟩
        rcases List.mem_append.1 hv with hv|hv
        ·exact hsl v hv
        ·rw[List.mem_singleton] at hv;rw[hv];exact hcost.2
       ·simp[pK,xR,hne,Val.cellsL_append,Val.cellsL]
       ·simp
      |true=>
       simp[round,Tryz.f20,a20,reg20,loop20,hlt,hx1,gx,hnb,wn,hq1,hq2,hpv,hz,w2,hA,hR,h6,h7,du]
       refine hrec (x+1,acc++[(jc F ls.length s).1],decide ((jc F ls.length s).2=0)) _ _ ?_ ?_ ?_ ?_
       ·simp only;omega
       ·simp only
        refine⟨by omega,by simp;omega,by omega,fun v hv=> ?_⟩
        rcases List.mem_append.1 hv with hv|hv
        ·exact hsl v hv
        ·rw[List.mem_singleton] at hv;rw[hv];exact hcost.2
       ·simp[pK,xR,hne,Val.cellsL_append,Val.cellsL]
       ·simp
  ·clear hrec
   have hxe:x=ls.length:=by omega
   subst hxe
   simp only
   rw[List.drop_length,gR]
   have hse:cy (ls.drop ls.length)=0:=by rw[List.drop_length];rfl
   cases good with
   |false=>
    simp[round,Tryz.f20,a20,reg20,loop20,cS]
   |true=>
    by_cases hne:acc=[]
    ·subst hne
     have his:=Dh F (by omega)
     simp at his
     cases ho:okS F [] with
     |false=>
      rw[ho] at his
      simp[round,Tryz.f20,a20,reg20,loop20,cS,pK,xR,his]
     |true=>
      rw[ho] at his
      simp[round,Tryz.f20,a20,reg20,loop20,cS,pK,xR,his,Val.cellsL]
    ·have hp0:¬acc.length=0:=fun h=>hne (List.eq_nil_of_length_eq_zero h)
     have hA:pK m.rw.length acc= .sl m.rw.length (acc.length*3) 0 acc.length:=by unfold pK;rw[if_neg hp0]
     have hR:xR acc=[⟨47,Val.cellsL acc⟩]:=by unfold xR;rw[if_neg hp0]
     have his:∀B,ai C0 26 [.agg (eG F (.sl m.rw.length (acc.length*3) 0 acc.length))] ⟨B,m.rw++[⟨47,Val.cellsL acc⟩]⟩=some (.ret (.bool (okS F acc)),⟨B,m.rw++[⟨47,Val.cellsL acc⟩]⟩):=
      fun B=>D3 F acc (by omega) (by omega) hsl _ m.rw.length (by simp)
     simp at his
     cases ho:okS F acc with
     |false=>
      rw[ho] at his
      simp[round,Tryz.f20,a20,reg20,loop20,cS,hA,hR,his]
     |true=>
      rw[ho] at his
      simp[round,Tryz.f20,a20,reg20,loop20,cS,hA,hR,his]
      exact List.take_of_length_le (by simp)
theorem un{f:Fun}{vs:List Val}(h:wu f vs 1500=true):f.nodes≤1500∧vs.length≤1500∧Val.nodesL vs≤1500∧∀v∈vs,pg v 1500=true:=by
 unfold wu at h
 simp only[Bool.and_eq_true,decide_eq_true_eq] at h
 obtain⟨⟨⟨h1,h2⟩,h3⟩,h4⟩:=h
 rw[lF f _ (by omega)] at h2
 exact⟨by omega,by omega,by omega,fun v hv=>List.all_eq_true.1 h3 v hv⟩
theorem qt:∀vs:List Val,iX vs vs=true
 |[]=>rfl
 |v::r=>by rw[iX,qt r,(show aY v v=0 from(bM v v).2 rfl)];rfl
theorem r9(f:Fun)(vs:List Val):AY f f vs vs=true:=by rw[AY,sK,qt];rfl
theorem vv{vs:List Val}(h:∀v∈vs,pg v 1500=true):∀v∈vs,aP v:=fun v hv=>by
 have:=h v hv
 unfold pg at this
 rw[Bool.and_eq_true] at this
 exact ta (by omega) v this.2
theorem CF(t:List UInt8):∀F vs,(jF t).1=some (F,vs)→F.nodes≤1000000∧Val.nodesL vs≤1000000∧∀v∈vs,aP v:=by
 intro F vs h
 unfold jF at h
 split at h
 ·cases h
 rename_i hb
 rw[gU] at h
 change (kM ((bm t).1::iW (bm t).2)).1=_ at h
 have hbd:=nV (bm t).2.length (bm t).2 (Nat.le_refl _)
 have hc:=kG t
 rw[kM] at h
 split at h
 ·cases h
 split at h
 ·cases h
 rename_i rs hrs
 split at h
 ·cases h
 rename_i h2
 have h0:(dx (aO (bm t).1 tyW).1).2=0:=by omega
 have hok:=(og _).1 (rx h0)
 have hs1:=oW _ _ _ hrs
 have hs2:=gh _ _ _ hrs
 unfold nR at h
 split at h
 ·split at h
  ·simp only[Option.some.injEq,Prod.mk.injEq] at h
   obtain⟨rfl,rfl⟩:=h
   have:=Az (F:=(dx (aO (bm t).1 tyW).1).1) (rs:=rs) rfl rfl (by omega) (by omega)
   rw[List.map_map] at this
   exact⟨by omega,this⟩
  ·cases h
 ·cases h
theorem Em(t:List UInt8)(m:Mem):∃k n a b c d e,cS (jF t)= .tup [.agg [.int .i64 k,.int .i64 n,.isl false a b,.isl false c d],.int .i64 e]∧∀m,ai C0 16 [.agg [.int .i64 k,.int .i64 n,.isl false a b,.isl false c d],.agg [.int .i64 k,.int .i64 n,.isl false a b,.isl false c d]] m=some (.ret (.bool true),m):=by
 cases h:(jF t).1 with
 |none=>
  refine⟨0,0,0,[],0,[],(jF t).2,by unfold cS;rw[h],fun m=> ?_⟩
  have:=vc fi fi [] [] (by simp[fi,Fun.nodes,Fun.nodesL]) (by simp[Val.nodesL]) (by simp) m
  rw[r9] at this
  simpa [fi,Fun.cellsL,Val.cellsL] using this
 |some p=>
  obtain⟨F,vs⟩:=p
  obtain⟨h1,h2,h3⟩:=CF t F vs h
  refine⟨F.kind,F.num,F.args.length,Fun.cellsL F.args,vs.length,Val.cellsL vs,(jF t).2,by unfold cS;rw[h];simp,fun m=> ?_⟩
  have:=vc F F vs vs h1 h2 h3 m
  rw[r9] at this
  simpa using this
set_option maxHeartbeats 8000000 in
theorem qQ(f:Fun)(vs:List Val)(s:List UInt8)(long:Bool)(hfew:wu f vs 1500=true)(hs6:¬6000<s.length)(m:Mem):
  ai (C2 (if long then s++bW else s) f vs) 4 [.agg (eG f (.isl false vs.length (Val.cellsL vs))),.str s,.bool long] m=some (.ret (.bool true),m):=by
 obtain⟨q1,q2,q3,q4⟩:=un hfew
 have q5:=vv q4
 have hl':¬(6000:Int)<s.length:=by omega
 have ht:(if long then s++bW else s).length≤1000000:=by
  cases long
  ·simp;omega
  ·simp[lc];omega
 obtain⟨k,n,a,b,c,d,e,hx,hsame⟩:=Em (if long then s++bW else s) m
 have e1:=fun m=>up2 (if long then s++bW else s) f vs (xm f vs m true)
 rw[hfew] at e1
 have e2:=fun m=>up2 (if long then s++bW else s) f vs (CY f vs (by omega) (by omega) q5 m true)
 have e3:=fun m=>zI (if long then s++bW else s) f vs m
 have e4:=fun m=>CK (if long then s++bW else s) f vs m
 have e5:=fun m=>up2 (if long then s++bW else s) f vs (zD _ ht m)
 have e6:=fun m=>up2 (if long then s++bW else s) f vs (hsame m)
 have e7:=fun m=>up2 (if long then s++bW else s) f vs (rU m)
 rw[ED] at e5
 rw[hx] at e4 e5
 have hstr:okS f vs=true→∀m,ai (C2 (if long then s++bW else s) f vs) 18 [.agg (eG f (.isl false vs.length (Val.cellsL vs)))] m=some (.ret (.str (sj f vs)),m):=fun ho m=>by
  obtain⟨p1,p2,p3,p4⟩:=ug ho
  exact up2 _ f vs (xW f vs (by omega) (by omega) (by omega) (iY p1) p4 m)
 rw[ab (C2 (if long then s++bW else s) f vs) (HQ _ f vs _ (by decide) (aj _ (by decide))) (by rw[Lq];exact Tryz.func4) rfl (by rw[E7];rfl) (by rw[E7];rfl) (by decide) (by simp[Tryz.f4])]
 cases long with
 |false=>
  simp only[Bool.false_eq_true,if_false] at e1 e2 e3 e4 e5 e6 e7 hstr
  cases ho:okS f vs with
  |false=>
   simp[Co,mI,ho] at e1 e2 e3 e4 e5 e6 e7
   simp[Tryz.f4,a4,reg4,loop4,hl',e1,e2,e3,e4,e5,e6,e7]
   done
  |true=>
   have h8:=hstr ho
   simp[Co,mI,ho] at e1 e2 e3 e4 e5 e6 e7 h8
   simp[Tryz.f4,a4,reg4,loop4,hl',e1,e2,e3,e4,e5,e6,e7,h8]
   done
 |true=>
  simp only[if_true] at e1 e2 e3 e4 e5 e6 e7 hstr⊢
  have hlen:s.length+bW.length≤9223372036854775807:=by rw[lc];omega
  simp at e1
  simp[Tryz.f4,a4,reg4,loop4,hl',e1,v6]
  refine aC (fun i:Nat=>⟨[(1,.str s),(3,.ptr m.bx.length 0),(7,.sl m.rw.length 40001 0 40001),(29,.int .i64 40001),(30,.int .i64 i)],⟨m.bx++[[.int .i64 f.kind,.int .i64 f.num,.isl false f.args.length (Fun.cellsL f.args),.isl false vs.length (Val.cellsL vs)]],m.rw++[⟨5,dB i⟩]⟩⟩)
   (fun _=>some (.ret (.bool true),m)) (fun i=>40001-i) (fun i=>i≤40001) 0 ?_ ?_ ?_ ?_ ?_
  ·simp
  ·simp
  ·simp
  ·intro x;simp[Tryz.f4,a4,reg4,loop4]
  ·intro i hi hrec
   by_cases hlt:i<40001
   ·have hlt':(i:Int)<40001:=by omega
    have w2:IntKind.i64.wrap (i+1)=i+1:=al _ (by omega)
    have h1:=l0 i (by omega)
    have h2:=xy i hlt
    simp[setCells] at h2
    have h3:i+1≤40001:=by omega
    simp[round,Tryz.f4,a4,reg4,loop4,hlt',w2,h1,h2,h3,du,sY]
    refine hrec (i+1) _ _ ?_ ?_ ?_ ?_
    ·omega
    ·omega
    ·simp
    ·simp
   ·clear hrec
    obtain rfl:i=40001:=by omega
    have sb:=fun bx=>yv bx m.rw 5
    cases ho:okS f vs with
    |false=>
     simp[Co,mI,ho] at e2 e3 e4 e5 e6 e7
     simp[round,Tryz.f4,a4,reg4,loop4,sb,hlen,e2,e3,e4,e5,e6,e7]
    |true=>
     have h8:=hstr ho
     simp[Co,mI,ho] at e2 e3 e4 e5 e6 e7 h8
     simp[round,Tryz.f4,a4,reg4,loop4,sb,hlen,e2,e3,e4,e5,e6,e7,h8]
theorem pE(f:Fun)(vs:List Val)(s:List UInt8)(long:Bool)(m:Mem):aV C0 4 [.agg (eG f (.isl false vs.length (Val.cellsL vs))),.str s,.bool long] m (.ret (.bool true),m):=by
 by_cases hc:wu f vs 1500=true∧¬6000<s.length
 ·obtain⟨q1,q2,q3,q4⟩:=un hc.1
  have h:=u6 (ok2 (if long then s++bW else s) f vs (by omega) (by omega) (vv q4)) _ _ _ _ (qQ f vs s long hc.1 hc.2 m)
  unfold aV at h⊢
  rw[ay,lS]
  exact h
 ·refine u6 ok0 _ _ _ _ ?_
  have e1:=fun m=>xm f vs m true
  rw[ab C0 (aj _ (by decide)) (by rw[ay];exact Tryz.func4) rfl (by rw[ae];rfl) (by rw[ae];rfl) (by decide) (by simp[Tryz.f4])]
  cases hf:wu f vs 1500 with
  |false=>
   rw[hf] at e1
   simp at e1
   simp[Tryz.f4,a4,reg4,loop4,e1,rU]
  |true=>
   rw[hf] at e1
   have h6:(6000:Int)<s.length:=by
    rcases Nat.lt_or_ge 6000 s.length with h|h
    ·omega
    ·exact absurd ⟨hf,by omega⟩ hc
   simp at e1
   simp[Tryz.f4,a4,reg4,loop4,e1,h6,rU]
end AE
end Go.Proofs.YtmfdpijmholedaaGreatDoor
/- The row of the statement SystemTexts. Printed by mkrow.py. -/
set_option linter.unusedVariables false
set_option linter.unusedSimpArgs false
namespace Go.Proofs.YtmfdpijmholedaaGreatDoor
namespace AE
open Go Go.ChangeShapes Go.WideShapes Go.ChangeAt Go.RowKit
theorem own:ownKnob Tryz.prog.godebug=none:=by kernel_rfl
theorem vN:laidOutB Tryz.prog=true:=by kernel_rfl
theorem ma(os:Os)(args:Array Value):laidMetH Tryz.prog Rows.systemTextsRow.laid ((World.laidAll Tryz.prog os Rows.systemTextsRow.laid).forCall (fun _ _=>0) ⟨#[],args,[]⟩).memory:=by
 rw[MakeChecks.laidMetH_plain _ _ _ (by kernel_rfl)]
 exact laidMet_laidAll _ (by kernel_rfl) (by kernel_rfl)
set_option maxRecDepth 100000 in
theorem nh(os:Os)(started:os.Started)(H:Type)(enc:TypeId×Value→H):
  ReturnsInHanded {} Tryz.checked os 4 .any (fun w args=>(Rows.systemTextsSpec.pre enc Tryz.prog Tryz.f4 [] false w args∧laidMetH Tryz.prog Rows.systemTextsRow.laid w)∧sizedMet enc Tryz.prog Tryz.f4 (OpenSpec.ofChange Rows.systemTextsSpec) false w args)
   (Rows.systemTextsSpec.post enc Tryz.prog Tryz.f4 false true false false):=by
 refine returnsInHanded_of_change_and (C:=Tryz.checked) (X:=fun w _=>laidMetH Tryz.prog Rows.systemTextsRow.laid w) (fun _ _ _ hh h=>h.of_heap hh) own started (by kernel_rfl) Tryz.func4
  (ChangeSpec.witness_shaped (enc:=enc) (C:=Tryz.checked) (os:=os) (X:=fun w _=>laidMetH Tryz.prog Rows.systemTextsRow.laid w) false (World.laidAll Tryz.prog os Rows.systemTextsRow.laid) #[.agg #[.int .i64 0,.int .i64 0,.slice none 0 0,.slice none 0 0],.string ByteArray.empty,.bool false] 8 rfl (World.shaped_of_ZipB (by kernel_rfl) (by kernel_rfl)) (by kernel_rfl) (by kernel_rfl) (by kernel_rfl) (ma os _)) ?_
 intro W base args ds gs before hval0 hW _ _ hL _
 have hW':=hW
 obtain⟨p,q,hA0,hV,rfl,hfz,hnd⟩:=hW
 have hA:DataW.TrodAll enc Tryz.prog W 0 (fun _=>true) true Tryz.f4.params.toList args.toList ds p:=hA0
 rw[Tryz.params4] at hA
 obtain⟨v0,v1,v2,d0,d1,d2,p0,p1,p2,rfl,rfl,rfl,h0,h1,h2⟩:=trodAll_three hA
 obtain⟨rfl,rfl⟩:=trodVars_none hV
 have k0:=h0
 have k1:=h1
 have k2:=h2
 have lt0:∀x∈p0,x.block<W.heap.size:=by obtain⟨m,hm⟩:=k0;exact DataW.trod_lt m _ _ _ hm
 have lt1:∀x∈p1,x.block<W.heap.size:=by obtain⟨m,hm⟩:=k1;exact DataW.trod_lt m _ _ _ hm
 have lt2:∀x∈p2,x.block<W.heap.size:=by obtain⟨m,hm⟩:=k2;exact DataW.trod_lt m _ _ _ hm
 obtain⟨n0,h0⟩:=h0
 obtain⟨x0,y0,hx0⟩:=DM n0 n0 (Nat.le_refl _) _ _ h0
 obtain⟨x1,rfl,_,_,_⟩:=Go.ChangeMaps.open_string Tryz.underlying9 (hval0 1 9 v1 rfl rfl) h1
 obtain⟨x2,rfl,_,_⟩:=open_bool Tryz.underlying4 (hval0 2 4 v2 rfl rfl) h2
 have hs:=sr0 (P:=Tryz.prog) (Aa (laid:=Rows.systemTextsRow.laid) (by kernel_rfl) (by simp[Rows.systemTextsRow]) (by simp[Rows.systemTextsRow]) hL) (zQ (laid:=Rows.systemTextsRow.laid) (by kernel_rfl) (by simp[Rows.systemTextsRow]) hL)
 have hcall:=(pE x0 y0 x1.data.toList x2 ⟨[],[]⟩).2 W (g0 W) W [v0,.string x1,.bool x2] (by rw[ay,lS];exact hs) ?_
 ·rw[ay] at hcall
  refine Calls.mono hcall fun e W' hR=> ?_
  obtain⟨g',hs',_,hres⟩:=hR
  cases e with
  |panicked ch=>exact hres.elim
  |outgrown=>exact hres.elim
  |returned v=>
   have hv:v= .bool true:=hres
   subst hv
   have bel:=hs'.below
   exact⟨_,rfl,_,_,_,[],_,[],hW',trodAll_mk1 (shut_bool Tryz.underlying4 _),(trodAll_cons_mk (Below.trod vN (by kernel_rfl) (of_decide_eq_true (by kernel_rfl)) k0 bel lt0) (trodAll_cons_mk (Below.trod vN (by kernel_rfl) (of_decide_eq_true (by kernel_rfl)) k1 bel lt1) (trodAll_cons_mk (Below.trod vN (by kernel_rfl) (of_decide_eq_true (by kernel_rfl)) k2 bel lt2) trodAll_mk0))),rfl,bel.frame _,fun h=>by cases h⟩
 ·exact .mk_cons (HJ hx0 (by simp)) (.mk_cons (HV x1) (.mk_cons VR.mkBool VRs.mk_nil))
theorem said_systemTexts:Rows.SystemTextsSaid:=
 OpenClaim.holds_of_wide 4 Tryz.f4 rfl rfl rfl rfl rfl rfl rfl ⟨rfl,rfl,rfl,rfl,rfl⟩ rfl rfl rfl rfl rfl (by kernel_rfl) Tryz.func4 (by kernel_rfl)
  (of_decide_eq_true (by kernel_rfl)) (by unfold Func.isWrapper;first|(rw[if_pos (by decide+kernel)];kernel_rfl)|(rw[if_neg (by decide+kernel)];exact⟨rfl,rfl⟩))
  (fun os started H enc _=>nh os started H enc)
end AE
end Go.Proofs.YtmfdpijmholedaaGreatDoor
/- The card of the statement SystemTexts. Printed by mkrow.py. -/
set_option linter.unusedVariables false
set_option linter.unusedSimpArgs false
namespace Go.Proofs.YtmfdpijmholedaaGreatDoor
namespace AE
open Go
theorem card_systemTexts:Rows.SystemTextsCardSaid:=
 Claim7.holds_tied_plain_at .later [] [.data,.data,.data,.data,.sentinel,.sentinel,.data,.pinned] true (true,"16bfc96b6015e7c1836e6e85ac56fb9af05c80819149fea3c30a26e5d3ab28d3") true
  said_systemTexts (fun _ h=>by cases h) (by kernel_rfl) (fun _ h=>by cases h) systemTexts_row_tie rfl ⟨rfl,rfl⟩ (by kernel_rfl) rfl
  (fun f fn hf hfn=>by
   obtain rfl:f=4:=Option.some.inj ((show Tryz.prog.funcNamed "ectype/ectypelaw03.SystemTexts" =some 4 by kernel_rfl).symm.trans hf)|>.symm
   obtain rfl:fn=Tryz.f4:=(Option.some.inj (Tryz.func4.symm.trans hfn)).symm
   exact⟨by kernel_rfl,fun j t ht=>by
    rw[Tryz.params4] at ht
    have h3:t=27∨t=9∨t=4:=by
     rcases j with _|_|_|j
     ·exact .inl (by simpa using ht.symm)
     ·exact .inr (.inl (by simpa using ht.symm))
     ·exact .inr (.inr ((by simpa using ht.symm)))
     ·simp at ht
    rcases h3 with rfl|rfl|rfl
    ·exact(show Tryz.prog.wantsStandIn 27=false by kernel_rfl)
    ·exact(show Tryz.prog.wantsStandIn 9=false by kernel_rfl)
    ·exact(show Tryz.prog.wantsStandIn 4=false by kernel_rfl)
   ⟩)
  (by kernel_rfl)
#print axioms card_systemTexts
end AE
end Go.Proofs.YtmfdpijmholedaaGreatDoor
