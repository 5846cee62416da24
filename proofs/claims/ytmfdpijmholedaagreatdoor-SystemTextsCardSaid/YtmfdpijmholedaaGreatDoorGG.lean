/- The reference: kinds, numbers, weights, the order; evaluated. -/
import Derived.Test.YtmfdpijmholedaaGreatDoorGF
set_option linter.unusedVariables false
set_option linter.unusedSimpArgs false
namespace Go.Proofs.YtmfdpijmholedaaGreatDoor
namespace AE
open Go
theorem jv(k:Int)(m:Mem):ai C0 131 [.int .i64 k] m=some (.ret (.bool (wtd k)),m):=by
 rw[ab C0 (aj _ (by decide)) (by rw[ay];exact Tryz.func131) rfl (by rw[ae];rfl) (by rw[ae];rfl) (by decide) (by simp[Tryz.f131])]
 unfold wtd
 by_cases h:k=6
 ·simp[Tryz.f131,a131,reg131,h]
 ·simp[Tryz.f131,a131,reg131,h]
theorem BK(k:Int)(m:Mem):ai C0 88 [.int .i64 k] m=some (.ret (.bool (bc k)),m):=by
 rw[ab C0 (aj _ (by decide)) (by rw[ay];exact Tryz.func88) rfl (by rw[ae];rfl) (by rw[ae];rfl) (by decide) (by simp[Tryz.f88])]
 unfold bc
 have he:=jv k
 by_cases h:k=5
 ·simp[Tryz.f88,a88,reg88,h]
 ·simp[Tryz.f88,a88,reg88,h,he]
theorem F0(a b:Nat)(m:Mem):ai C0 132 [.int .i64 a,.int .i64 b] m=some (.ret (.int .i64 (Nat.gcd a b:Nat)),m):=by
 rw[ab C0 (aj _ (by decide)) (by rw[ay];exact Tryz.func132) rfl (by rw[ae];rfl) (by rw[ae];rfl) (by decide) (by simp[Tryz.f132])]
 simp[Tryz.f132,a132,reg132,loop132,draw132,dok132]
 refine aC (fun y:Nat×Nat=>⟨[(0,.int .i64 y.1),(1,.int .i64 y.2)],m⟩)
  (fun y=>some (.ret (.int .i64 (Nat.gcd y.1 y.2:Nat)),m)) (fun y=>y.2) (fun y=>True) (a,b) ?_ ?_ ?_ ?_ ?_
 ·simp
 ·simp
 ·trivial
 ·intro x;simp[Tryz.f132,a132,reg132,loop132,draw132,dok132]
 ·rintro⟨a,c⟩ _ hrec
  by_cases h0:c=0
  ·subst h0
   simp[round,Tryz.f132,a132,reg132,loop132,draw132,dok132]
  ·have ht:(a:Int).tmod (c:Int)=((a % c:Nat):Int):=sk a c
   have hm:a % c<c:=Nat.mod_lt _ (by omega)
   simp[round,Tryz.f132,a132,reg132,loop132,draw132,dok132,h0,ht,aA]
   refine hrec (c,a % c) _ _ ?_ ?_ ?_ ?_
   ·exact hm
   ·trivial
   ·simp
   ·simp only
    rw[Nat.gcd_comm c,←Nat.gcd_rec,Nat.gcd_comm]
theorem gC(a b:Int)(m:Mem):ai C0 130 [.int .i64 a,.int .i64 b] m=some (.ret (.int .i64 (cx a b)),m):=by
 rw[ab C0 (aj _ (by decide)) (by rw[ay];exact Tryz.func130) rfl (by rw[ae];rfl) (by rw[ae];rfl) (by decide) (by simp[Tryz.f130])]
 unfold cx
 by_cases h:a<b
 ·simp[Tryz.f130,a130,reg130,h]
 ·by_cases h2:b<a
  ·simp[Tryz.f130,a130,reg130,h,h2]
  ·simp[Tryz.f130,a130,reg130,h,h2]
def Dc(f:Fun)(n k:Int):Bool:=decide (0≤k∧k≤(if f.kind=0 then n-1 else if f.kind=1 then f.num-1 else if f.kind=3 then 1 else 0))
theorem zz(f:Fun)(n:Int)(v:Val)(h0: -1000000≤n)(h1:n≤1000000)(hf: -1000000≤f.num∧f.num≤1000000)(m:Mem):ai C0 190 [.agg f.cells,.int .i64 n,.agg v.cells] m=some (.ret (.bool (Dc f n v.num)),m):=by
 rw[ab C0 (aj _ (by decide)) (by rw[ay];exact Tryz.func190) rfl (by rw[ae];rfl) (by rw[ae];rfl) (by decide) (by simp[Tryz.f190])]
 have w1:IntKind.i64.wrap (n-1)=n-1:=al _ (by omega)
 have w2:IntKind.i64.wrap (f.num-1)=f.num-1:=al _ (by omega)
 unfold Dc
 by_cases c:0≤v.num
 ·by_cases k0:f.kind=0
  ·simp[Tryz.f190,a190,reg190,k0,w1,c]
  ·by_cases k1:f.kind=1
   ·simp[Tryz.f190,a190,reg190,k1,w2,c]
   ·by_cases k3:f.kind=3
    ·simp[Tryz.f190,a190,reg190,k3,c]
    ·simp[Tryz.f190,a190,reg190,k0,k1,k3,c]
 ·by_cases k0:f.kind=0
  ·simp[Tryz.f190,a190,reg190,k0,w1,c]
  ·by_cases k1:f.kind=1
   ·simp[Tryz.f190,a190,reg190,k1,w2,c]
   ·by_cases k3:f.kind=3
    ·simp[Tryz.f190,a190,reg190,k3,c]
    ·simp[Tryz.f190,a190,reg190,k0,k1,k3,c]
def DK(k:Int)(many:Nat)(w:List Int):Bool:=if wtd k then dv w 0&&decide (w.length=many)&&(decide (k=6)||decide (0<many)) else decide (w.length=0)
set_option maxHeartbeats 1000000 in
theorem ze(k:Int)(v:Val)(hb:v.nodes≤1000000000)(hs:v.ws.length≤1000000000)(m:Mem):ai C0 191 [.int .i64 k,.agg v.cells] m=some (.ret (.bool (DK k v.args.length v.ws)),m):=by
 rw[ab C0 (aj _ (by decide)) (by rw[ay];exact Tryz.func191) rfl (by rw[ae];rfl) (by rw[ae];rfl) (by decide) (by simp[Tryz.f191])]
 have he:=jv k
 have hlen:=v.length_args
 unfold DK
 cases hw:wtd k
 ·simp[hw] at he
  by_cases h0:v.ws.length=0
  ·simp[Tryz.f191,a191,reg191,loop191,he,h0]
  ·simp[Tryz.f191,a191,reg191,loop191,he,h0]
 ·simp[hw] at he
  simp[Tryz.f191,a191,reg191,loop191,he]
  refine aC (fun x:Nat×Int=>⟨[(0,.int .i64 k),(3,.ptr m.bx.length 0),(5,.int .i64 x.2),(16,.isl false v.ws.length (az v.ws)),(17,.int .i64 v.ws.length),(18,.int .i64 x.1)],⟨m.bx++[v.cells],m.rw⟩⟩)
   (fun x=>some (.ret (.bool (dv (v.ws.drop x.1) x.2&&decide (v.ws.length=v.args.length)&&(decide (k=6)||decide (0<v.args.length)))),m)) (fun x=>v.ws.length-x.1) (fun x=>x.1≤v.ws.length∧0≤x.2∧x.2≤1048576) (0,0) ?_ ?_ ?_ ?_ ?_
  ·simp
  ·simp
  ·simp
  ·intro x;simp[Tryz.f191,a191,reg191,loop191]
  ·rintro⟨i,q⟩ hI hrec
   simp only at hI
   obtain⟨hi,hq0,hq⟩:=hI
   by_cases hlt:i<v.ws.length
   ·have w2:IntKind.i64.wrap (i+1)=i+1:=al _ (by omega)
    have w4:IntKind.i64.wrap (1048576-q)=1048576-q:=al _ (by omega)
    have hat:=bq hlt
    have h5:i+1≤v.ws.length:=by omega
    simp only
    rw[qq hlt]
    generalize v.ws[i]=x at hat⊢
    by_cases h1:x<1
    ·clear hrec
     simp[round,Tryz.f191,a191,reg191,loop191,hlt,h5,w2,hat,h1]
    by_cases h3:1048576-q<x
    ·clear hrec
     simp[round,Tryz.f191,a191,reg191,loop191,hlt,h5,w2,w4,hat,h1,h3]
    ·have w3:IntKind.i64.wrap (q+x)=q+x:=al _ (by omega)
     simp[round,Tryz.f191,a191,reg191,loop191,hlt,h5,w2,w3,w4,hat,h1,h3,aZ]
     refine hrec (i+1,q+x) _ _ ?_ ?_ ?_ ?_
     ·simp;omega
     ·simp;omega
     ·simp
     ·simp
   ·clear hrec
    rw[List.drop_eq_nil_of_le (by omega),dv]
    by_cases h2:v.ws.length=v.args.length
    ·have hlt':¬i<v.args.length:=by omega
     by_cases h6:k=6
     ·simp[round,Tryz.f191,a191,reg191,loop191,hlt',h2,h6]
     ·by_cases h7:0<v.args.length
      ·simp[round,Tryz.f191,a191,reg191,loop191,hlt',h2,h6,h7]
      ·simp[round,Tryz.f191,a191,reg191,loop191,hlt',h2,h6,h7,show ¬(0:Int)<v.args.length by omega]
    ·simp[round,Tryz.f191,a191,reg191,loop191,hlt,h2,show ¬(v.ws.length:Int)=v.args.length by omega]
set_option maxHeartbeats 4000000 in
theorem qn(N:Nat):∀(u:Val),u.nodes≤N→u.nodes≤1000000000→aP u→∀(v:Val) (m:Mem),ai C0 86 [.agg u.cells,.agg v.cells] m=some (.ret (.int .i64 (aY u v)),m):=by
 induction N with
 |zero=>intro u hN;have:=u.nodes_pos;omega
 |succ N ih=>
 intro u hN hb hs v m
 rw[bj] at hs
 have hlen:=u.length_args
 rw[ab C0 (aj _ (by decide)) (by rw[ay];exact Tryz.func86) rfl (by rw[ae];rfl) (by rw[ae];rfl) (by decide) (by simp[Tryz.f86])]
 rw[vV]
 by_cases c1:u.num=v.num
 case neg=>
  have he:=gC u.num v.num
  rw[if_neg (fun h=>c1 (cr.1 h))]
  simp[Tryz.f86,a86,reg86,loop86,draw86,dok86,c1,he]
 rw[if_pos (cr.2 c1)]
 simp[Tryz.f86,a86,reg86,loop86,draw86,dok86,c1]
 refine aC (fun i:Nat=>⟨[(2,.ptr m.bx.length 0),(3,.ptr (m.bx.length+1) 0),(5,.int .i64 i)],⟨m.bx++[u.cells,v.cells],m.rw⟩⟩)
  (fun i=>some (.ret (.int .i64 (if bT (u.args.drop i) (v.args.drop i)=0 then cZ u.ws v.ws else bT (u.args.drop i) (v.args.drop i))),m)) (fun i=>u.args.length-i) (fun i=>i≤u.args.length∧i≤v.args.length) 0 ?_ ?_ ?_ ?_ ?_
 ·simp[c1]
 ·simp
 ·simp
 ·intro x;simp[Tryz.f86,a86,reg86,loop86,draw86,dok86]
 ·rintro i ⟨hi,hi'⟩ hrec
  by_cases hlt:i<u.args.length
  ·by_cases hlt':i<v.args.length
   ·have w2:IntKind.i64.wrap (i+1)=i+1:=al _ (by omega)
    have m0:=Val.nodes_arg (List.getElem_mem hlt)
    have he:=ih u.args[i] (by omega) (by omega) (cq hs.2 (List.getElem_mem hlt)) v.args[i]
    simp at he
    have h3:(i+1)*3≤u.args.length*3:=by omega
    have h4:(i+1)*3≤v.args.length*3:=by omega
    rw[pA hlt hlt']
    by_cases hc:aY u.args[i] v.args[i]=0
    ·simp[hc] at he
     simp[round,Tryz.f86,a86,reg86,loop86,draw86,dok86,hlt,hlt',w2,h3,h4,he,hc,aZ]
     refine hrec (i+1) _ _ ?_ ?_ ?_ ?_
     ·omega
     ·omega
     ·simp
     ·simp
    ·clear hrec
     simp[round,Tryz.f86,a86,reg86,loop86,draw86,dok86,hlt,hlt',w2,h3,h4,he,hc]
   ·clear hrec
    have hv:i=v.args.length:=by omega
    have he:=gC u.args.length v.args.length
    have hnc:cx (u.args.length:Int) v.args.length=1:=by unfold cx;rw[if_neg (by omega),if_pos (by omega)]
    rw[pz hlt hlt']
    simp[round,Tryz.f86,a86,reg86,loop86,draw86,dok86,hlt,hlt',he,hnc,show ¬(u.args.length:Int)=v.args.length by omega]
  ·by_cases hlt':i<v.args.length
   ·clear hrec
    have he:=gC u.args.length v.args.length
    have hnc:cx (u.args.length:Int) v.args.length= -1:=by unfold cx;rw[if_pos (by omega)]
    rw[mY hlt hlt']
    simp[round,Tryz.f86,a86,reg86,loop86,draw86,dok86,hlt,hlt',he,hnc,show ¬(u.args.length:Int)=v.args.length by omega]
   ·clear hrec ih
    have hu:i=u.args.length:=by omega
    have hv:i=v.args.length:=by omega
    have hl:u.args.length=v.args.length:=by omega
    rw[tC hlt hlt',if_pos rfl]
    simp[round,Tryz.f86,a86,reg86,loop86,draw86,dok86,hlt,hlt',hl]
    refine aC (fun i:Nat=>⟨[(2,.ptr m.bx.length 0),(3,.ptr (m.bx.length+1) 0),(7,.int .i64 i)],⟨m.bx++[u.cells,v.cells],m.rw⟩⟩)
     (fun i=>some (.ret (.int .i64 (cZ (u.ws.drop i) (v.ws.drop i))),m)) (fun i=>u.ws.length-i) (fun i=>i≤u.ws.length∧i≤v.ws.length) 0 ?_ ?_ ?_ ?_ ?_
    ·simp[hl]
    ·simp
    ·simp
    ·intro x;simp[Tryz.f86,a86,reg86,loop86,draw86,dok86]
    ·rintro j ⟨hj,hj'⟩ hrec
     by_cases hjt:j<u.ws.length
     ·by_cases hjt':j<v.ws.length
      ·have w2:IntKind.i64.wrap (j+1)=j+1:=al _ (by omega)
       have a1:=bq hjt
       have a2:=bq hjt'
       have h3:j+1≤u.ws.length:=by omega
       have h4:j+1≤v.ws.length:=by omega
       have he:=gC u.ws[j] v.ws[j]
       rw[pw hjt hjt']
       generalize u.ws[j]=x at a1 he⊢
       generalize v.ws[j]=y at a2 he⊢
       by_cases hc:x=y
       ·rw[if_pos (cr.2 hc)]
        simp[round,Tryz.f86,a86,reg86,loop86,draw86,dok86,hjt,hjt',w2,h3,h4,a1,a2,hc,aZ]
        refine hrec (j+1) _ _ ?_ ?_ ?_ ?_
        ·omega
        ·omega
        ·simp
        ·simp
       ·clear hrec
        rw[if_neg (fun h=>hc (cr.1 h))]
        simp[round,Tryz.f86,a86,reg86,loop86,draw86,dok86,hjt,hjt',w2,h3,h4,a1,a2,hc,he]
      ·clear hrec
       have he:=gC u.ws.length v.ws.length
       have hnc:cx (u.ws.length:Int) v.ws.length=1:=by unfold cx;rw[if_neg (by omega),if_pos (by omega)]
       rw[oQ hjt hjt']
       simp[round,Tryz.f86,a86,reg86,loop86,draw86,dok86,hjt,hjt',he,hnc]
     ·by_cases hjt':j<v.ws.length
      ·clear hrec
       have he:=gC u.ws.length v.ws.length
       have hnc:cx (u.ws.length:Int) v.ws.length= -1:=by unfold cx;rw[if_pos (by omega)]
       rw[nI hjt hjt']
       simp[round,Tryz.f86,a86,reg86,loop86,draw86,dok86,hjt,hjt',he,hnc]
      ·clear hrec
       have he:=gC u.ws.length v.ws.length
       have hnc:cx (u.ws.length:Int) v.ws.length=0:=by unfold cx;rw[if_neg (by omega),if_neg (by omega)]
       rw[tc hjt hjt']
       simp[round,Tryz.f86,a86,reg86,loop86,draw86,dok86,hjt,hjt',he,hnc]
theorem uJ(u v:Val)(hb:u.nodes≤1000000000)(hs:aP u)(m:Mem):ai C0 41 [.agg u.cells,.agg v.cells] m=some (.ret (.bool (decide (aY u v=0))),m):=by
 rw[ab C0 (aj _ (by decide)) (by rw[ay];exact Tryz.func41) rfl (by rw[ae];rfl) (by rw[ae];rfl) (by decide) (by simp[Tryz.f41])]
 have he:=qn u.nodes u (Nat.le_refl _) hb hs v
 simp at he
 simp[Tryz.f41,a41,reg41,he]
def ip(f:Fun)(v:Val):List Fun:=if f.kind=0∨f.kind=1 then [] else if f.kind=2 then f.args else if f.kind=3 then(if 0≤v.num∧v.num≤1 then [aB f v.num 0] else []) else if f.kind=4 then List.replicate f.num.toNat (f.args.getD 0 bN) else List.replicate v.args.length (f.args.getD 0 bN)
def kH(f:Fun)(v:Val):Bool:=decide ((ip f v).length=v.args.length)&&(!decide (f.kind=3)||decide (0≤v.num∧v.num≤1))
def iq(n i:Nat):A:=if i=0 then .nils else .sl n (i*3) 0 i
def ir(g:Fun)(i:Nat):List Row:=if i=0 then [] else [⟨24,Fun.cellsL (List.replicate i g)⟩]
theorem mw(g:Fun)(i:Nat):Fun.cellsL (List.replicate (i+1) g)=Fun.cellsL (List.replicate i g)++g.cells:=by
 rw[List.replicate_succ',Fun.cellsL_append,Fun.cellsL,Fun.cellsL_nil,List.append_nil]
set_option maxHeartbeats 4000000 in
theorem tj(f:Fun)(v:Val)(hf:au f=true)(hb:v.nodes≤1000000000)(m:Mem):ai C0 87 [.agg f.cells,.agg v.cells] m=some (.ret (.tup [.isl false (ip f v).length (Fun.cellsL (ip f v)),.bool (kH f v)]),m):=by
 rw[ab C0 (aj _ (by decide)) (by rw[ay];exact Tryz.func87) rfl (by rw[ae];rfl) (by rw[ae];rfl) (by decide) (by simp[Tryz.f87])]
 have wr2:IntKind.i64.wrap 2=2:=by decide
 have hlen:=v.length_args
 unfold kH ip
 rcases ba hf with⟨hk,hfl⟩|⟨hk,hfl⟩|⟨hk,hfl⟩|⟨hk,hfl⟩|⟨hk,hfl⟩|⟨hk,hfl⟩|⟨hk,hfl⟩|⟨hk,hfl⟩
 ·by_cases h0:v.args.length=0
  ·simp[Tryz.f87,a87,reg87,loop87,draw87,dok87,hk,h0]
  ·simp[Tryz.f87,a87,reg87,loop87,draw87,dok87,hk,h0,show ¬(0:Int)=v.args.length by omega,show ¬0=v.args.length by omega]
 ·by_cases h0:v.args.length=0
  ·simp[Tryz.f87,a87,reg87,loop87,draw87,dok87,hk,h0]
  ·simp[Tryz.f87,a87,reg87,loop87,draw87,dok87,hk,h0,show ¬(0:Int)=v.args.length by omega,show ¬0=v.args.length by omega]
 ·by_cases h0:v.args.length=2
  ·simp[Tryz.f87,a87,reg87,loop87,draw87,dok87,hk,hfl,h0]
  ·simp[Tryz.f87,a87,reg87,loop87,draw87,dok87,hk,hfl,h0,show ¬(2:Int)=v.args.length by omega,show ¬2=v.args.length by omega]
 ·by_cases h1:v.num<0
  ·simp[Tryz.f87,a87,reg87,loop87,draw87,dok87,hk,hfl,h1,show ¬0≤v.num by omega]
  by_cases h2:1<v.num
  ·simp[Tryz.f87,a87,reg87,loop87,draw87,dok87,hk,hfl,h1,h2,show ¬v.num≤1 by omega]
  rcases (show v.num=0∨v.num=1 by omega) with cn|cn
  ·have g0:aB f v.num 0=f.args[0]:=by unfold aB;rw[if_neg (by omega),if_pos hk,cn,List.getD_eq_getElem?_getD,List.getElem?_eq_getElem (by simp;omega)];rfl
   rw[cn] at g0
   have b1:=Fun.at_cellsL f.args 0 (by omega)
   simp at b1
   by_cases h0:v.args.length=1
   ·simp[Tryz.f87,a87,reg87,loop87,draw87,dok87,hk,hfl,cn,h0,g0,b1,wr2,Fun.cellsL]
   ·simp[Tryz.f87,a87,reg87,loop87,draw87,dok87,hk,hfl,cn,h0,g0,b1,wr2,Fun.cellsL,show ¬(1:Int)=v.args.length by omega,show ¬1=v.args.length by omega]
  ·have g0:aB f v.num 0=f.args[1]:=by unfold aB;rw[if_neg (by omega),if_pos hk,cn,List.getD_eq_getElem?_getD,List.getElem?_eq_getElem (by simp;omega)];rfl
   rw[cn] at g0
   have b1:=Fun.at_cellsL f.args 1 (by omega)
   simp at b1
   have b2:List.drop 3 (List.take 6 (Fun.cellsL f.args))=List.take 3 (List.drop 3 (Fun.cellsL f.args)):=by rw[List.drop_take]
   by_cases h0:v.args.length=1
   ·simp[Tryz.f87,a87,reg87,loop87,draw87,dok87,hk,hfl,cn,h0,g0,b2,b1,wr2,Fun.cellsL]
   ·simp[Tryz.f87,a87,reg87,loop87,draw87,dok87,hk,hfl,cn,h0,g0,b2,b1,wr2,Fun.cellsL,show ¬(1:Int)=v.args.length by omega,show ¬1=v.args.length by omega]
 ·have f0:0<f.args.length:=by omega
  have b1:=Fun.at_cellsL f.args 0 f0
  simp at b1
  have hfn:=dZ hf
  obtain⟨k,hkn⟩:∃k:Nat,f.num=k:=⟨f.num.toNat,by omega⟩
  have gd:f.args.getD 0 bN=f.args[0]:=by rw[List.getD_eq_getElem?_getD,List.getElem?_eq_getElem f0];rfl
  rw[if_neg (by omega),if_neg (by omega),if_neg (by omega),if_pos hk,gd]
  simp[Tryz.f87,a87,reg87,loop87,draw87,dok87,hk,hkn]
  rw[mz (fun i:Nat=>⟨[(2,.ptr m.bx.length 0),(3,.ptr (m.bx.length+1) 0),(6,iq m.rw.length i),(60,.int .i64 k),(61,.int .i64 i)],⟨m.bx++[f.cells,v.cells],m.rw++ir f.args[0] i⟩⟩)
   (fun i=>some (.normal,⟨[(2,.ptr m.bx.length 0),(3,.ptr (m.bx.length+1) 0),(6,iq m.rw.length k),(60,.int .i64 k),(61,.int .i64 k),(62,.bool false)],⟨m.bx++[f.cells,v.cells],m.rw++ir f.args[0] k⟩⟩)) (fun i=>k-i) (fun i=>i≤k) 0 ?_ rfl ?_ ?_ ?_]
  ·obtain⟨j,rfl⟩:∃j,k=j+1:=⟨k-1,by omega⟩
   have h8:(Fun.cellsL (List.replicate (j+1) f.args[0])).take ((j+1)*3)=Fun.cellsL (List.replicate (j+1) f.args[0]):=List.take_of_length_le (by simp)
   by_cases h0:j+1=v.args.length
   ·have h0':(j:Int)+1=v.args.length:=by omega
    simp[Tryz.f87,a87,reg87,loop87,draw87,dok87,iq,ir,h0',h8]
    exact h0
   ·have h0':¬(j:Int)+1=v.args.length:=by omega
    simp[Tryz.f87,a87,reg87,loop87,draw87,dok87,iq,ir,h0,h0',h8]
  ·simp[Tryz.f87,a87,reg87,loop87,draw87,dok87,hk,hkn,iq,ir]
  ·omega
  ·intro x;simp[Tryz.f87,a87,reg87,loop87,draw87,dok87]
  ·intro i hi hrec
   by_cases hlt:i<k
   ·have w2:IntKind.i64.wrap (i+1)=i+1:=al _ (by omega)
    have h4:(i+1)*40≤70368744177664:=by omega
    have h5:i+1≤70368744177664:=by omega
    cases i with
    |zero=>
     simp[round,Tryz.f87,a87,reg87,loop87,draw87,dok87,hlt,f0,show 3≤f.args.length*3 by omega,b1,iq,ir,dQ]
     refine hrec 1 _ _ ?_ ?_ ?_ ?_
     ·omega
     ·omega
     ·simp[iq,ir,mw,Fun.cellsL]
     ·simp[iq,ir]
    |succ j=>
     have h6:(j+1+1)*40≤70368744177664:=by omega
     have h7:j+1+1≤70368744177664:=by omega
     simp at w2
     simp[round,Tryz.f87,a87,reg87,loop87,draw87,dok87,show(j:Int)+1<k by omega,w2,h6,h7,f0,show 3≤f.args.length*3 by omega,b1,iq,ir,du]
     refine hrec (j+1+1) _ _ ?_ ?_ ?_ ?_
     ·omega
     ·omega
     ·simp[iq,ir,mw,Fun.cellsL]
     ·simp[iq,ir]
   ·clear hrec
    have:i=k:=by omega
    subst this
    cases i with
    |zero=>omega
    |succ j=>simp[round,Tryz.f87,a87,reg87,loop87,draw87,dok87,iq,ir]
 all_goals
  have f0:0<f.args.length:=by omega
  have b1:=Fun.at_cellsL f.args 0 f0
  simp at b1
  have gd:f.args.getD 0 bN=f.args[0]:=by rw[List.getD_eq_getElem?_getD,List.getElem?_eq_getElem f0];rfl
  rw[if_neg (by omega),if_neg (by omega),if_neg (by omega),if_neg (by omega),gd]
  simp[Tryz.f87,a87,reg87,loop87,draw87,dok87,hk]
  rw[mz (fun i:Nat=>⟨[(2,.ptr m.bx.length 0),(3,.ptr (m.bx.length+1) 0),(6,iq m.rw.length i),(9,.int .i64 v.args.length),(10,.int .i64 i)],⟨m.bx++[f.cells,v.cells],m.rw++ir f.args[0] i⟩⟩)
   (fun i=>some (.normal,⟨[(2,.ptr m.bx.length 0),(3,.ptr (m.bx.length+1) 0),(6,iq m.rw.length v.args.length),(9,.int .i64 v.args.length),(10,.int .i64 v.args.length),(11,.bool false)],⟨m.bx++[f.cells,v.cells],m.rw++ir f.args[0] v.args.length⟩⟩)) (fun i=>v.args.length-i) (fun i=>i≤v.args.length) 0 ?_ rfl ?_ ?_ ?_]
  ·cases hl:v.args.length with
   |zero=>simp[Tryz.f87,a87,reg87,loop87,draw87,dok87,iq,ir,hl]
   |succ j=>
    have h8:(Fun.cellsL (List.replicate (j+1) f.args[0])).take ((j+1)*3)=Fun.cellsL (List.replicate (j+1) f.args[0]):=List.take_of_length_le (by simp)
    simp[Tryz.f87,a87,reg87,loop87,draw87,dok87,iq,ir,hl,h8]
  ·simp[Tryz.f87,a87,reg87,loop87,draw87,dok87,hk,iq,ir]
  ·omega
  ·intro x;simp[Tryz.f87,a87,reg87,loop87,draw87,dok87]
  ·intro i hi hrec
   by_cases hlt:i<v.args.length
   ·have w2:IntKind.i64.wrap (i+1)=i+1:=al _ (by omega)
    cases i with
    |zero=>
     simp[round,Tryz.f87,a87,reg87,loop87,draw87,dok87,hlt,f0,show 3≤f.args.length*3 by omega,b1,iq,ir,dQ]
     refine hrec 1 _ _ ?_ ?_ ?_ ?_
     ·omega
     ·omega
     ·simp[iq,ir,mw,Fun.cellsL]
     ·simp[iq,ir]
    |succ j=>
     have h6:(j+1+1)*40≤70368744177664:=by omega
     have h7:j+1+1≤70368744177664:=by omega
     simp at w2
     simp[round,Tryz.f87,a87,reg87,loop87,draw87,dok87,show(j:Int)+1<v.args.length by omega,w2,h6,h7,f0,show 3≤f.args.length*3 by omega,b1,iq,ir,du]
     refine hrec (j+1+1) _ _ ?_ ?_ ?_ ?_
     ·omega
     ·omega
     ·simp[iq,ir,mw,Fun.cellsL]
     ·simp[iq,ir]
   ·clear hrec
    have hl:i=v.args.length:=by omega
    subst hl
    cases hl:v.args.length with
    |zero=>simp[round,Tryz.f87,a87,reg87,loop87,draw87,dok87,iq,ir]
    |succ j=>simp[round,Tryz.f87,a87,reg87,loop87,draw87,dok87,iq,ir]
mutual
def eg(t:Int→Val):Val→Fun→Val
 | .mk k l w,f=>if f.kind=0 then t k else if f.kind=1 then .mk k [] [] else if f.kind=2 then .mk 0 (ci t l (aB f k) 0) [] else if f.kind=3 then .mk k (ci t l (aB f k) 0) [] else if f.kind=4 then .mk 0 (ci t l (aB f k) 0) [] else aW f.kind 0 (ci t l (aB f k) 0) w
def ci(t:Int→Val):List Val→(Nat→Fun)→Nat→List Val
 |[],_,_=>[]
 |v::r,g,i=>eg t v (g i)::ci t r g (i+1)
end
def idV(x:Int):Val:= .mk x [] []
theorem wJ(t:Int→Val)(v:Val)(f:Fun):eg t v f=if f.kind=0 then t v.num else if f.kind=1 then .mk v.num [] [] else if f.kind=2 then .mk 0 (ci t v.args (aB f v.num) 0) [] else if f.kind=3 then .mk v.num (ci t v.args (aB f v.num) 0) [] else if f.kind=4 then .mk 0 (ci t v.args (aB f v.num) 0) [] else aW f.kind 0 (ci t v.args (aB f v.num) 0) v.ws:=by cases v;rw[eg];rfl
theorem ju(t:Int→Val):∀(l:List Val) (g:Nat→Fun) (i:Nat),(ci t l g i).length=l.length
 |[],g,i=>by rw[ci]
 |v::r,g,i=>by rw[ci,List.length_cons,List.length_cons,ju t r g (i+1)]
theorem mn{t:Int→Val}{l:List Val}{i:Nat}(h:i<l.length)(g:Nat→Fun):ci t (l.drop i) g i=eg t l[i] (g i)::ci t (l.drop (i+1)) g (i+1):=by rw[List.drop_eq_getElem_cons h,ci]
theorem eT{n:Int}{f:Fun}{k:Int}{m:Nat}{w:List Int}(h:bn n f k m w=true):(f.kind≠0→f.kind≠1→f.kind≠3→k=0)∧(wtd f.kind=false→w=[])∧((f.kind=0∨f.kind=1)→m=0):=by
 unfold bn at h
 simp only[Bool.and_eq_true,decide_eq_true_eq] at h
 obtain⟨⟨h1,h2⟩,h3⟩:=h
 refine⟨fun a b c=> ?_,fun a=> ?_,fun a=> ?_⟩
 ·rw[if_neg a,if_neg b,if_neg c] at h2
  omega
 ·rw[a] at h3
  simpa using h3
 ·rw[if_pos a] at h1
  simpa using h1
mutual
theorem sD(n:Int):∀(v:Val) (f:Fun),au f=true→okV exL n v f=true→ez n v f=some (eg idV v f)
 | .mk k l w,f,hf,h=>by
   rw[okV,Bool.and_eq_true,Bool.and_eq_true] at h
   obtain⟨⟨hh,_⟩,hl⟩:=h
   obtain⟨n1,n2,n3⟩:=eT hh
   have hk:=ba hf
   rw[ez,if_pos hh,eg]
   by_cases h0:f.kind=0
   ·have:l=[]:=List.eq_nil_of_length_eq_zero (n3 (.inl h0))
    subst this
    rw[cM,n2 (by rw[h0];rfl)]
    simp[h0,bc,wtd,idV]
   by_cases h1:f.kind=1
   ·have:l=[]:=List.eq_nil_of_length_eq_zero (n3 (.inr h1))
    subst this
    rw[cM,n2 (by rw[h1];rfl)]
    simp[h1,bc,wtd]
   rw[vg n l _ 0 (eR hf h0 h1 hh) hl,if_neg h0,if_neg h1,Option.map_some]
   by_cases h2:f.kind=2
   ·rw[n1 h0 h1 (by omega),n2 (by rw[h2];rfl)]
    simp[h2,bc,wtd]
   by_cases h3:f.kind=3
   ·rw[n2 (by rw[h3];rfl)]
    simp[h3,bc,wtd]
   by_cases h4:f.kind=4
   ·rw[n1 h0 h1 h3,n2 (by rw[h4];rfl)]
    simp[h4,bc,wtd]
   rw[if_neg h2,if_neg h3,if_neg h4,n1 h0 h1 h3,if_pos]
   unfold bc wtd
   simp only[Bool.or_eq_true,decide_eq_true_eq]
   omega
theorem vg(n:Int):∀(l:List Val) (g:Nat→Fun) (i:Nat),(∀j,j<l.length→au (g (i+j))=true)→okL exL n l g i=true→cM n l g i=some (ci idV l g i)
 |[],g,i,_,h=>by rw[cM,ci]
 |v::r,g,i,hg,h=>by
  rw[okL,Bool.and_eq_true] at h
  rw[cM,ci,sD n v (g i) (hg 0 (by simp)) h.1,vg n r g (i+1) (fun j hj=>by have:=hg (j+1) (by simpa using hj);rwa [show i+(j+1)=i+1+j by omega] at this) h.2]
  rfl
theorem eR{n:Int}{f:Fun}{k:Int}{m:Nat}{w:List Int}(hf:au f=true)(h0:¬f.kind=0)(h1:¬f.kind=1)(hh:bn n f k m w=true):∀j,j<m→au (aB f k (0+j))=true:=by
 intro j hj
 have hk:=ba hf
 rw[Nat.zero_add]
 unfold aB
 unfold bn at hh
 simp only[Bool.and_eq_true,decide_eq_true_eq] at hh
 obtain⟨⟨g1,g2⟩,_⟩:=hh
 rw[if_neg (by omega)] at g1
 split
 ·rename_i h2
  rw[if_pos h2] at g1
  simp only[decide_eq_true_eq] at g1
  rw[List.getD_eq_getElem?_getD,List.getElem?_eq_getElem (by omega)]
  exact aN hf (by omega)
 ·rename_i h2
  rw[if_neg h2] at g1
  split
  ·rename_i h3
   rw[if_pos h3] at g1
   simp only[decide_eq_true_eq] at g1
   rw[List.getD_eq_getElem?_getD,List.getElem?_eq_getElem (by omega)]
   exact aN hf (by omega)
  ·rw[List.getD_eq_getElem?_getD,List.getElem?_eq_getElem (by omega)]
   exact aN hf (by omega)
end
mutual
theorem tX(n:Int):∀(v:Val) (f:Fun),okV exL n v f=false→ez n v f=none
 | .mk k l w,f,h=>by
   rw[okV] at h
   rw[ez]
   split
   ·rename_i hh
    rw[hh] at h
    have h':okL exL n l (aB f k) 0=false:=by simpa [exL] using h
    rw[ru n l _ _ h',Option.map_none]
   ·rfl
theorem ru(n:Int):∀(l:List Val) (g:Nat→Fun) (i:Nat),okL exL n l g i=false→cM n l g i=none
 |[],g,i,h=>by rw[okL] at h;cases h
 |v::r,g,i,h=>by
  rw[okL] at h
  rw[cM]
  cases h1:okV exL n v (g i)
  ·rw[tX n v _ h1]
   rfl
  ·rw[h1,Bool.true_and] at h
   rw[ru n r _ _ h]
   cases ez n v (g i)<;>rfl
end
def wtP(u:Val):List (Val×Int)→Int
 |[]=>0
 |p::r=>(if aY p.1 u=0 then p.2 else 0)+wtP u r
theorem Bu(u a:Val)(w:Int):∀o:List (Val×Int),wtP u (bg a w o)=wtP u o+(if aY a u=0 then w else 0)
 |[]=>by simp[bg,wtP]
 |x::r=>by
  rw[bg]
  split
  ·rename_i h
   rw[bM] at h
   subst h
   simp only[wtP]
   split<;>omega
  ·split
   ·simp only[wtP];omega
   ·simp only[wtP,Bu u a w r];omega
theorem jY(u:Val):∀l o:List (Val×Int),wtP u (aI o l)=wtP u l+wtP u o
 |[],o=>by simp[aI,wtP]
 |p::r,o=>by
  rw[show aI o (p::r)=aI (bg p.1 p.2 o) r from rfl,jY u r,Bu,wtP]
  omega
theorem E8(u:Val){l r:List (Val×Int)}(h:l.Perm r):wtP u l=wtP u r:=by
 induction h with
 |nil=>rfl
 |cons x _ ih=>rw[wtP,wtP,ih]
 |swap x y l=>rw[wtP,wtP,wtP,wtP];omega
 |trans _ _ ih1 ih2=>rw[ih1,ih2]
theorem zm{u:Val}{w:Int}:∀{o:List (Val×Int)} (v:Val),(∃p,p∈bg u w o∧p.1=v)↔v=u∨∃p,p∈o∧p.1=v
 |[],v=>by
  rw[bg]
  simp
  exact eq_comm
 |x::r,v=>by
  rw[bg]
  split
  ·rename_i h
   rw[bM] at h
   subst h
   simp only[List.mem_cons,exists_eq_or_imp]
   constructor
   ·exact fun h=> .inr h
   ·rintro(h|h)
    ·exact .inl h.symm
    ·exact h
  ·split
   ·simp only[List.mem_cons,exists_eq_or_imp]
    constructor
    ·rintro(h|h)
     ·exact .inl h.symm
     ·exact .inr h
    ·rintro(h|h)
     ·exact .inl h.symm
     ·exact .inr h
   ·simp only[List.mem_cons,exists_eq_or_imp,zm v]
    constructor
    ·rintro(h|h|h)
     ·exact .inr (.inl h)
     ·exact .inl h
     ·exact .inr (.inr h)
    ·rintro(h|h|h)
     ·exact .inr (.inl h)
     ·exact .inl h
     ·exact .inr (.inr h)
theorem fA(v:Val):∀l o:List (Val×Int),(∃p,p∈aI o l∧p.1=v)↔(∃p,p∈l∧p.1=v)∨∃p,p∈o∧p.1=v
 |[],o=>by simp[aI]
 |x::r,o=>by
  rw[show aI o (x::r)=aI (bg x.1 x.2 o) r from rfl,fA v r,zm]
  simp only[List.mem_cons,exists_eq_or_imp]
  constructor
  ·rintro(h|h|h)
   ·exact .inl (.inr h)
   ·exact .inl (.inl h.symm)
   ·exact .inr h
  ·rintro((h|h)|h)
   ·exact .inr (.inl h.symm)
   ·exact .inl h
   ·exact .inr (.inr h)
theorem rP{u:Val}:∀{l:List (Val×Int)},(∀p,p∈l→aY p.1 u≠0)→wtP u l=0
 |[],_=>rfl
 |p::r,h=>by rw[wtP,if_neg (h p List.mem_cons_self),rP fun q hq=>h q (List.mem_cons_of_mem _ hq)];rfl
theorem tz:∀{l r:List (Val×Int)},l.Pairwise LtP→r.Pairwise LtP→(∀v,(∃p,p∈l∧p.1=v)↔∃p,p∈r∧p.1=v)→(∀v,wtP v l=wtP v r)→l=r
 |[],[],_,_,_,_=>rfl
 |[],y::r,_,_,h,_=>by obtain⟨p,hp,_⟩:=(h y.1).2 ⟨y,List.mem_cons_self,rfl⟩;cases hp
 |x::l,[],_,_,h,_=>by obtain⟨p,hp,_⟩:=(h x.1).1 ⟨x,List.mem_cons_self,rfl⟩;cases hp
 |x::l,y::r,hl,hr,h,hw=>by
  rw[List.pairwise_cons] at hl hr
  have e:x.1=y.1:=by
   obtain⟨p,hp,e1⟩:=(h x.1).1 ⟨x,List.mem_cons_self,rfl⟩
   rcases List.mem_cons.1 hp with rfl|hp
   ·exact e1.symm
   ·obtain⟨q,hq,e2⟩:=(h y.1).2 ⟨y,List.mem_cons_self,rfl⟩
    rcases List.mem_cons.1 hq with rfl|hq
    ·exact e2
    ·have h1:=hr.1 p hp
     have h2:=hl.1 q hq
     unfold LtP at h1 h2
     rw[e1] at h1
     rw[e2] at h2
     have:=cR x.1 y.1
     omega
  have nl:∀p,p∈l→aY p.1 x.1≠0:=fun p hp=>by
   have:=hl.1 p hp
   unfold LtP at this
   have:=cR x.1 p.1
   omega
  have nr:∀p,p∈r→aY p.1 x.1≠0:=fun p hp=>by
   have:=hr.1 p hp
   unfold LtP at this
   rw[←e] at this
   have:=cR x.1 p.1
   omega
  have e2:x.2=y.2:=by
   have:=hw x.1
   rw[wtP,wtP,rP nl,rP nr,←e,mA] at this
   simpa using this
  have hxy:x=y:=Prod.ext e e2
  subst hxy
  rw[tz hl.2 hr.2 (fun v=> ?_) fun v=> ?_]
  ·constructor
   ·rintro⟨p,hp,rfl⟩
    obtain⟨q,hq,e3⟩:=(h p.1).1 ⟨p,List.mem_cons_of_mem _ hp,rfl⟩
    rcases List.mem_cons.1 hq with rfl|hq
    ·exact absurd ((bM _ _).2 e3.symm) (nl p hp)
    ·exact⟨q,hq,e3⟩
   ·rintro⟨p,hp,rfl⟩
    obtain⟨q,hq,e3⟩:=(h p.1).2 ⟨p,List.mem_cons_of_mem _ hp,rfl⟩
    rcases List.mem_cons.1 hq with rfl|hq
    ·exact absurd ((bM _ _).2 e3.symm) (nr p hp)
    ·exact⟨q,hq,e3⟩
  ·have:=hw v
   rw[wtP,wtP] at this
   omega
theorem AI{l r:List (Val×Int)}(h:l.Perm r):aI [] l=aI [] r:=
 tz (eC _ _ List.Pairwise.nil) (eC _ _ List.Pairwise.nil)
  (fun v=>by rw[fA,fA];simp only[h.mem_iff]) (fun v=>by rw[jY,jY,E8 v h])
def bV(u:Val):List (Val×Int)→Nat×Int
 |[]=>(0,1)
 |p::r=>if 0<aY u p.1 then((bV u r).1+1,(bV u r).2) else(0,aY u p.1)
theorem CA{u:Val}{o:List (Val×Int)}{i:Nat}(h:i<o.length):bV u (o.drop i)=if 0<aY u o[i].1 then((bV u (o.drop (i+1))).1+1,(bV u (o.drop (i+1))).2) else(0,aY u o[i].1):=by rw[List.drop_eq_getElem_cons h,bV]
theorem BF(u:Val):∀o:List (Val×Int),(bV u o).1≤o.length
 |[]=>by rw[bV];simp
 |p::r=>by
  rw[bV]
  have:=BF u r
  split
  ·simp;omega
  ·simp
theorem xD(u:Val):∀o:List (Val×Int),(bV u o).1=o.length→(bV u o).2=1
 |[],_=>by rw[bV]
 |p::r,h=>by
  rw[bV] at h⊢
  split at h
  ·rename_i hc
   rw[if_pos hc]
   exact xD u r (by simpa using h)
  ·simp at h
theorem Bz(u:Val):∀o:List (Val×Int),(h:(bV u o).1<o.length)→(bV u o).2=aY u (o[(bV u o).1]).1∧(bV u o).2≤0
 |p::r,h=>by
  by_cases hc:0<aY u p.1
  ·have e:bV u (p::r)=((bV u r).1+1,(bV u r).2):=by rw[bV,if_pos hc]
   have h':(bV u r).1<r.length:=by rw[e] at h;simpa using h
   have:=Bz u r h'
   simp only[e,List.getElem_cons_succ]
   exact this
  ·have e:bV u (p::r)=(0,aY u p.1):=by rw[bV,if_neg hc]
   simp only[e,List.getElem_cons_zero]
   exact⟨trivial,by omega⟩
theorem tY{u:Val}{w:Int}:∀{o:List (Val×Int)},(bV u o).2=0→∃h:(bV u o).1<o.length,bg u w o=o.set (bV u o).1 (o[(bV u o).1].1,o[(bV u o).1].2+w)∧o[(bV u o).1].1=u
 |[],h=>by rw[bV] at h;cases h
 |p::r,h=>by
  by_cases hc:0<aY u p.1
  ·have e:bV u (p::r)=((bV u r).1+1,(bV u r).2):=by rw[bV,if_pos hc]
   rw[e] at h
   obtain⟨h1,h2,h3⟩:=tY (w:=w) h
   refine⟨by rw[e];simpa using h1, ?_, ?_⟩
   ·rw[bg,if_neg (by omega),if_neg (by omega),h2]
    simp only[e,List.set_cons_succ,List.getElem_cons_succ]
   ·simp only[e,List.getElem_cons_succ]
    exact h3
  ·have e:bV u (p::r)=(0,aY u p.1):=by rw[bV,if_neg hc]
   rw[e] at h
   refine⟨by rw[e];simp, ?_, ?_⟩
   ·rw[bg,if_pos h]
    simp only[e,List.set_cons_zero,List.getElem_cons_zero]
   ·simp only[e,List.getElem_cons_zero]
    exact((bM _ _).1 h).symm
theorem yP{u:Val}{w:Int}:∀{o:List (Val×Int)},(bV u o).2≠0→bg u w o=o.take (bV u o).1++(u,w)::o.drop (bV u o).1
 |[],h=>by rw[bV,bg];rfl
 |p::r,h=>by
  by_cases hc:0<aY u p.1
  ·have e:bV u (p::r)=((bV u r).1+1,(bV u r).2):=by rw[bV,if_pos hc]
   rw[e] at h⊢
   rw[bg,if_neg (by omega),if_neg (by omega),yP h]
   rfl
  ·have e:bV u (p::r)=(0,aY u p.1):=by rw[bV,if_neg hc]
   rw[e] at h⊢
   simp only at h
   rw[bg,if_neg h,if_pos (by omega)]
   rfl
theorem gX{nb nr:Nat}{cs:List A}(h:cs.all (closed 0 0)=true):cs.all (closed nb nr)=true:=by
 rw[List.all_eq_true] at h⊢
 exact fun x hx=>fS (Nat.zero_le _) (Nat.zero_le _) x (h x hx)
theorem aK{l:List Nat}{M L L':List (List A)}{R J J':List Row}{tm:List (Nat×A)}(hJ:J'.all (fun r=>r.cs.all (closed 0 0))=true)(hL:L.length≤L'.length)(hl:l.all (fun t=>closed (M.length+L.length) (R.length+J'.length) (lk t tm))=true)(hc:(L'.take L.length).all (fun cs=>cs.all (closed (M.length+L.length) (R.length+J'.length)))=true):
  endRound (some l) ⟨M++L,R++J⟩ ⟨tm,⟨M++L',R++J'⟩⟩=some ⟨prune (some l) tm,⟨M++L'.take L.length,R++J'⟩⟩:=by
 refine du hL hl hc ?_
 rw[List.all_eq_true] at hJ⊢
 exact fun r hr=>gX (hJ r hr)
def mgA(id:Nat)(o:List (Val×Int)):A:=if o.length=0 then .nils else .sl id (o.length*3) 0 o.length
def mgW(k:Int)(id:Nat)(o:List (Val×Int)):A:=if wtd k=false∨o.length=0 then .nils else .sl id o.length 0 o.length
structure MgS where
 i:Nat
 o:List (Val×Int)
 J:List Row
 ja:Nat
 jw:Nat
structure MgOk (k:Int) (nr:Nat) (s:MgS):Prop where
 cl:s.J.all (fun r=>r.cs.all (closed 0 0))=true
 ra:0<s.o.length→s.J[s.ja]? =some ⟨47,Val.cellsL (s.o.map (·.1))⟩
 rw:0<s.o.length→wtd k=true→s.J[s.jw]? =some ⟨3,az (s.o.map (·.2))⟩∧s.ja≠s.jw
 ps:wtd k=true→∀p,p∈s.o→1≤p.2
theorem aF{α:Type}(R J:List α)(j:Nat):(R++J)[R.length+j]? =J[j]? :=by
 rw[List.getElem?_append_right (by omega),Nat.add_sub_cancel_left]
theorem aD{α:Type}(R J:List α)(j:Nat)(x:α):(R++J).set (R.length+j) x=R++J.set j x:=by
 rw[List.set_append_right _ _ (by omega),Nat.add_sub_cancel_left]
theorem xS(l:List Val)(a:Nat)(h:a≤l.length):(Val.cellsL l).take (a*3)=Val.cellsL (l.take a):=by
 have h1:(Val.cellsL (l.take a)).length=a*3:=by rw[Val.cellsL_length,List.length_take,Nat.min_eq_left h]
 have h2:Val.cellsL l=Val.cellsL (l.take a)++Val.cellsL (l.drop a):=by rw[←Val.cellsL_append,List.take_append_drop]
 rw[h2,←h1,List.take_left]
theorem yd(l:List Val)(a:Nat)(h:a≤l.length):(Val.cellsL l).drop (a*3)=Val.cellsL (l.drop a):=by
 have h1:(Val.cellsL (l.take a)).length=a*3:=by rw[Val.cellsL_length,List.length_take,Nat.min_eq_left h]
 have h2:Val.cellsL l=Val.cellsL (l.take a)++Val.cellsL (l.drop a):=by rw[←Val.cellsL_append,List.take_append_drop]
 rw[h2,←h1,List.drop_left]
theorem BQ(o:List (Val×Int))(a:Nat)(u:Val)(w:Int)(h:a≤o.length):(Val.cellsL (o.map (·.1))).take (a*3)++(u.cells++(Val.cellsL (o.map (·.1))).drop (a*3))=Val.cellsL ((o.take a++(u,w)::o.drop a).map (·.1)):=by
 rw[xS _ _ (by simpa using h),yd _ _ (by simpa using h),List.map_append,Val.cellsL_append,List.map_cons,Val.cellsL,List.map_take,List.map_drop]
theorem fz{p:Row→Bool}{J:List Row}(h:J.all p=true)(i:Nat)(r:Row)(hr:p r=true):(J.set i r).all p=true:=by
 rw[List.all_eq_true] at h⊢
 intro x hx
 rcases List.mem_or_eq_of_mem_set hx with h1|h1
 ·exact h x h1
 ·rw[h1];exact hr
theorem kK:∀{o:List (Val×Int)},(∀p,p∈o→1≤p.2)→0≤(o.map (·.2)).sum
 |[],_=>by simp
 |p::r,h=>by
  have:=kK fun q hq=>h q (List.mem_cons_of_mem _ hq)
  have:=h p List.mem_cons_self
  simp
  omega
theorem nS:∀{o:List (Val×Int)} {q:Val×Int},(∀p,p∈o→1≤p.2)→q∈o→q.2≤(o.map (·.2)).sum
 |p::r,q,h,hq=>by
  have h1:=kK fun q hq=>h q (List.mem_cons_of_mem p hq)
  have h2:=h p List.mem_cons_self
  simp only[List.map_cons,List.sum_cons]
  rcases List.mem_cons.1 hq with rfl|hq
  ·omega
  ·have:=nS (fun q hq=>h q (List.mem_cons_of_mem p hq)) hq
   omega
theorem lW:∀{o:List Int},(∀p,p∈o→1≤p)→0≤o.sum
 |[],_=>by simp
 |p::r,h=>by
  have:=lW fun q hq=>h q (List.mem_cons_of_mem _ hq)
  have:=h p List.mem_cons_self
  simp
  omega
theorem wD{k:Int}{v:Val}{o:List (Val×Int)}{i:Nat}(hk:wtd k=true)(hw:wtd k=true→v.ws.length=v.args.length∧(∀w,w∈v.ws→1≤w)∧v.ws.sum≤1048576)(hmg:aI o ((v.args.zip (bD k v.args v.ws)).drop i)=aE k v.args v.ws)(hlt:i<v.args.length)(hps:∀p,p∈o→1≤p.2):
  ∃h:i<v.ws.length,(bD k v.args v.ws).getD i 0=v.ws[i]∧1≤v.ws[i]∧v.ws[i]≤1048576-(o.map (·.2)).sum∧(∀p,p∈o→1≤p.2):=by
 obtain⟨h1,h2,h3⟩:=hw hk
 have hz:bD k v.args v.ws=v.ws:=by unfold bD;rw[hk,if_pos rfl]
 have hi:i<v.ws.length:=by omega
 refine⟨hi, ?_,h2 _ (List.getElem_mem hi), ?_,hps⟩
 ·rw[hz,List.getD_eq_getElem?_getD,List.getElem?_eq_getElem hi];rfl
 ·have e:=congrArg (fun l:List (Val×Int)=>(l.map (·.2)).sum) hmg
  simp only[aE] at e
  rw[eM,eM,hz,fK h1,List.map_drop,fK h1,List.drop_eq_getElem_cons hi,List.sum_cons] at e
  have h4:0≤(v.ws.drop (i+1)).sum:=lW fun p hp=>h2 p (List.mem_of_mem_drop hp)
  simp at e
  omega
theorem Ai{k:Int}{n jw:Nat}{J:List Row}{o:List (Val×Int)}{p:Prop}(h:0<o.length→wtd k=true→J[jw]? =some ⟨3,az (o.map (·.2))⟩∧p)(nb:Nat):closed nb (n+J.length) (mgW k (n+jw) o)=true:=by
 unfold mgW
 split
 ·simp
 ·rename_i hc
  simp only[not_or,Bool.not_eq_false] at hc
  have:=(List.getElem?_eq_some_iff.1 (h (by omega) hc.1).1).1
  simp
  omega
def mwA(k:Int)(iv:Nat)(v:Val):A:=if wtd k=false then .nils else .sl iv v.ws.length 0 v.ws.length
theorem zt{k:Int}{iv:Nat}{v:Val}{R:List Row}(h:wtd k=true→R[iv]? =some ⟨3,az v.ws⟩)(nb x:Nat):closed nb (R.length+x) (mwA k iv v)=true:=by
 unfold mwA
 split
 ·simp
 ·rename_i hc
  have:=(List.getElem?_eq_some_iff.1 (h (by simpa using hc))).1
  simp
  omega
set_option maxHeartbeats 8000000 in
theorem Ae(k:Int)(v:Val)(ia iv:Nat)(hk:bc k=true)(hb:v.nodes≤1000000)(hs:aP v)(hw:wtd k=true→v.ws.length=v.args.length∧(∀w,w∈v.ws→1≤w)∧v.ws.sum≤1048576)(h7:k=7→0<v.args.length)(m:Mem)(hRa:m.rw[ia]? =some ⟨47,Val.cellsL v.args⟩)(hRw:wtd k=true→m.rw[iv]? =some ⟨3,az v.ws⟩):
  ai C0 89 [.int .i64 k,.agg [.int .i64 v.num,.sl ia (v.args.length*3) 0 v.args.length,mwA k iv v]] m=some (.ret (.agg (aW k v.num v.args v.ws).cells),m):=by
 have hlen:=v.length_args
 have hia:ia<m.rw.length:=(List.getElem?_eq_some_iff.1 hRa).1
 have hia2:∀x,ia<m.rw.length+x:=fun x=>by omega
 have hRa2:=(List.getElem?_eq_some_iff.1 hRa).2
 have hmw:=fun nb x=>zt hRw nb x
 have hRv:wtd k=true→iv<m.rw.length∧∃h:iv<m.rw.length,m.rw[iv]=⟨3,az v.ws⟩:=fun h=>⟨(List.getElem?_eq_some_iff.1 (hRw h)).1,(List.getElem?_eq_some_iff.1 (hRw h))⟩
 rw[bj] at hs
 rw[ab C0 (aj _ (by decide)) (by rw[ay];exact Tryz.func89) rfl (by rw[ae];rfl) (by rw[ae];rfl) (by decide) (by simp[Tryz.f89])]
 simp[Tryz.f89,a89,reg89,loop89,draw89,dok89,ah,hia,hia2,hRa2,hmw]
 refine aC (fun s:MgS=>⟨[(0,.int .i64 k),(3,.ptr m.bx.length 0),(4,.ptr (m.bx.length+1) 0),(5,.ptr (m.bx.length+2) 0),(18,.sl ia (v.args.length*3) 0 v.args.length),(19,.int .i64 v.args.length),(20,.int .i64 s.i)],
   ⟨m.bx++[[.int .i64 v.num,.sl ia (v.args.length*3) 0 v.args.length,mwA k iv v],[.int .i64 0,.nils,.nils],[.int .i64 v.num,mgA (m.rw.length+s.ja) s.o,mgW k (m.rw.length+s.jw) s.o]],m.rw++s.J⟩⟩)
  (fun s=>some (.ret (.agg (aW k v.num v.args v.ws).cells),m)) (fun s=>v.args.length-s.i)
  (fun s=>s.i≤v.args.length∧s.o.length≤s.i∧aI s.o ((v.args.zip (bD k v.args v.ws)).drop s.i)=aE k v.args v.ws∧MgOk k m.rw.length s) ⟨0,[],[],0,0⟩ ?_ ?_ ?_ ?_ ?_
 ·simp[mgA,mgW]
 ·simp
 ·refine⟨by simp,by simp,rfl,⟨rfl,fun h=>by simp at h,fun h=>by simp at h,fun _ p hp=>by cases hp⟩⟩
 ·intro x;simp[Tryz.f89,a89,reg89,loop89,draw89,dok89,ah,hia,hia2,hRa2,hmw]
 ·rintro⟨i,o,J,ja,jw⟩ ⟨hi,hol,hmg,hcl,hra,hrw,hps⟩ hrec
  simp only at hi hol hmg hcl hra hrw hps⊢
  by_cases hlt:i<v.args.length
  ·have w2:IntKind.i64.wrap (i+1)=i+1:=al _ (by omega)
   have h3:(i+1)*3≤v.args.length*3:=by omega
   have hm:=Val.nodes_arg (List.getElem_mem hlt)
   simp[round,Tryz.f89,a89,reg89,loop89,draw89,dok89,ah,hia,hia2,hRa2,hmw,hlt,w2,h3,show i*3+3≤v.args.length*3 by omega]
   rw[mz (fun y:Nat×Int=>⟨[(0,.int .i64 k),(3,.ptr m.bx.length 0),(4,.ptr (m.bx.length+1) 0),(5,.ptr (m.bx.length+2) 0),(6,.int .i64 i),(7,.ptr (m.bx.length+3) 0),(8,.int .i64 y.1),(9,.int .i64 y.2),(18,.sl ia (v.args.length*3) 0 v.args.length),(19,.int .i64 v.args.length),(20,.int .i64 i)],
     ⟨m.bx++[[.int .i64 v.num,.sl ia (v.args.length*3) 0 v.args.length,mwA k iv v],[.int .i64 0,.nils,.nils],[.int .i64 v.num,mgA (m.rw.length+ja) o,mgW k (m.rw.length+jw) o],v.args[i].cells],m.rw++J⟩⟩)
    (fun y=>some (.normal,⟨[(0,.int .i64 k),(3,.ptr m.bx.length 0),(4,.ptr (m.bx.length+1) 0),(5,.ptr (m.bx.length+2) 0),(6,.int .i64 i),(7,.ptr (m.bx.length+3) 0),(8,.int .i64 (bV v.args[i] o).1),(9,.int .i64 (bV v.args[i] o).2),(18,.sl ia (v.args.length*3) 0 v.args.length),(19,.int .i64 v.args.length),(20,.int .i64 i),(33,.bool false)],
     ⟨m.bx++[[.int .i64 v.num,.sl ia (v.args.length*3) 0 v.args.length,mwA k iv v],[.int .i64 0,.nils,.nils],[.int .i64 v.num,mgA (m.rw.length+ja) o,mgW k (m.rw.length+jw) o],v.args[i].cells],m.rw++J⟩⟩))
    (fun y=>2*(o.length-y.1)+(if 0<y.2 then 1 else 0)) (fun y=>y.1≤o.length∧((y.2=1∧bV v.args[i] o=(y.1+(bV v.args[i] (o.drop y.1)).1,(bV v.args[i] (o.drop y.1)).2))∨(y.2≤0∧bV v.args[i] o=(y.1,y.2)))) (0,1) ?_ rfl ?_ ?_ ?_]
   ·have hpl:=BF v.args[i] o
    have hpe:=xD v.args[i] o
    have hpi:=Bz v.args[i] o
    have hwt:=jv k
    have hwl:(bD k v.args v.ws).length=v.args.length:=by
     unfold bD
     cases hwk:wtd k
     ·simp
     ·simpa using(hw hwk).1
    have hstep:aI o ((v.args.zip (bD k v.args v.ws)).drop i)=aI (bg v.args[i] ((bD k v.args v.ws).getD i 0) o) ((v.args.zip (bD k v.args v.ws)).drop (i+1)):=by
     have hz:i<(v.args.zip (bD k v.args v.ws)).length:=by rw[List.length_zip,hwl];omega
     rw[List.drop_eq_getElem_cons hz]
     have:(v.args.zip (bD k v.args v.ws))[i]=(v.args[i],(bD k v.args v.ws).getD i 0):=by
      rw[List.getElem_zip,List.getD_eq_getElem?_getD,List.getElem?_eq_getElem (by omega)]
      rfl
     rw[this]
     rfl
    have hwi:wtd k=true→∃h:i<v.ws.length,(bD k v.args v.ws).getD i 0=v.ws[i]∧1≤v.ws[i]∧v.ws[i]≤1048576-(o.map (·.2)).sum∧(∀p,p∈o→1≤p.2):=fun h=>wD h hw hmg hlt (hps h)
    have hwu:wtd k=false→(bD k v.args v.ws).getD i 0=0:=fun h=>by
     unfold bD
     rw[h]
     simp[hlt]
    generalize (bD k v.args v.ws).getD i 0=wi at hstep hwi hwu
    have hps':wtd k=true→∀p,p∈bg v.args[i] wi o→1≤p.2:=fun h=>by
     obtain⟨h1,h2,h3,h4,h5⟩:=hwi h
     exact oz (by omega) h5
    have hsame:=@tY v.args[i] wi o
    have hnew:=@yP v.args[i] wi o
    generalize hoo:bg v.args[i] wi o=o' at hsame hnew hstep hps'
    have ho'0:¬o'=[]:=hoo▸wq _ _ _
    have ho'1:0<o'.length:=List.length_pos_iff.2 ho'0
    generalize hpp:bV v.args[i] o=pp at hpl hpe hpi hsame hnew⊢
    obtain⟨a,c⟩:=pp
    simp only at hpl hpe hpi hsame hnew⊢
    by_cases hc0:c=0
    ·obtain⟨hao,hse,hfe⟩:=hsame hc0
     clear hnew hpi hpe
     subst hc0
     have ho1:0<o.length:=by omega
     have ho0:¬o=[]:=fun h=>by rw[h] at ho1;simp at ho1
     have hJa:=hra ho1
     have hja:ja<J.length:=(List.getElem?_eq_some_iff.1 hJa).1
     have hJa2:=(List.getElem?_eq_some_iff.1 hJa).2
     have hil:o'.length=o.length:=by rw[hse];simp
     have hfst:o'.map (·.1)=o.map (·.1):=by
      rw[hse,List.map_set]
      exact List.ext_getElem (by simp) fun n h1 h2=>by
       rw[List.getElem_set]
       split
       ·rename_i h;subst h;simp
       ·rfl
     cases hwk:wtd k
     ·simp[hwk] at hwt
      simp[Tryz.f89,a89,reg89,loop89,draw89,dok89,ah,hia,hia2,hRa2,hmw,hwt,mgA,mgW,mwA,hwk,ho0,ho1,hao,aF,hja,hJa2,show ¬(a:Int)=o.length by omega,aK,hcl]
      refine hrec ⟨i+1,o',J,ja,jw⟩ _ _ ?_ ?_ ?_ ?_
      ·simp;omega
      ·refine⟨by simp only;omega,by simp only;omega, ?_, ?_⟩
       ·simp only
        rw[←hmg,hstep]
       ·exact⟨hcl,fun _=>by simp only;rw[hfst];exact hJa,fun _ h=>absurd h (by simp[hwk]),hps'⟩
      ·simp[mgA,mgW,mwA,hwk,hil,w2,ho'0,ho0]
      ·simp
     ·simp[hwk] at hwt
      obtain⟨hqv,_,hRv2⟩:=hRv hwk
      obtain⟨hiw,hwe,hw1,hw2,hwp⟩:=hwi hwk
      obtain⟨hqv,_,hRv2⟩:=hRv hwk
      have hqv2:∀x,iv<m.rw.length+x:=fun x=>by omega
      obtain⟨hJw,hne⟩:=hrw ho1 hwk
      have hjw:jw<J.length:=(List.getElem?_eq_some_iff.1 hJw).1
      have hJw2:=(List.getElem?_eq_some_iff.1 hJw).2
      have hat:=bq hiw
      have hat2:((az (o.map (·.2))).drop a).take 1=[.int .i64 o[a].2]:=by
       have:=bq (ks:=o.map (·.2)) (i:=a) (by simpa using hao)
       simpa using this
      rw[hwe] at hse
      have hsum:=nS hwp (List.getElem_mem hao)
      have hp1:=hwp _ (List.getElem_mem hao)
      have w3:IntKind.i64.wrap (o[a].2+v.ws[i])=o[a].2+v.ws[i]:=al _ (by omega)
      have hset:List.take a (az (o.map (·.2)))++A.int .i64 (o[a].2+v.ws[i])::List.drop (a+1) (az (o.map (·.2)))=az (o'.map (·.2)):=by
       rw[hse,List.map_set,List.set_eq_take_append_cons_drop,if_pos (by simpa using hao)]
       simp[az]
      simp[Tryz.f89,a89,reg89,loop89,draw89,dok89,ah,hia,hia2,hRa2,hmw,hwt,mgA,mgW,mwA,hwk,ho0,ho1,hao,aF,aD,hja,hJa2,hjw,hJw2,hiw,hqv,hqv2,hRv2,show i+1≤v.ws.length by omega,show a+1≤o.length by omega,hat,hat2,w3,hset,show ¬(a:Int)=o.length by omega,aK,hcl,fz]
      refine hrec ⟨i+1,o',J.set jw ⟨3,az (o'.map (·.2))⟩,ja,jw⟩ _ _ ?_ ?_ ?_ ?_
      ·simp;omega
      ·refine⟨by simp only;omega,by simp only;omega, ?_, ?_⟩
       ·simp only
        rw[←hmg,hstep]
       ·exact⟨by simp[fz,hcl],fun _=>by simp only;rw[hfst,List.getElem?_set_ne (Ne.symm hne)];exact hJa,fun _ _=>by simp only;exact⟨by simp[hjw],hne⟩,hps'⟩
      ·simp[mgA,mgW,mwA,hwk,hil,w2,ho'0,ho0]
      ·simp
    ·have hnw:=hnew hc0
     clear hsame
     have hil:o'.length=o.length+1:=by rw[hnw];simp;omega
     have hsnd:o'.map (·.2)=(o.map (·.2)).take a++wi::(o.map (·.2)).drop a:=by rw[hnw];simp
     have hrow:=BQ o a v.args[i] wi hpl
     simp only[Val.cells_eq,List.cons_append,List.nil_append] at hrow
     rw[←hnw] at hrow
     by_cases ho:o=[]
     ·have ha0:a=0:=by rw[ho] at hpl;simpa using hpl
      subst ha0
      rw[ho] at hrow
      simp at hrow
      have hoq:o'=[(v.args[i],wi)]:=by rw[hnw,ho];rfl
      cases hwk:wtd k
      ·simp[hwk] at hwt
       simp[Tryz.f89,a89,reg89,loop89,draw89,dok89,ah,hia,hia2,hRa2,hmw,hwt,mgA,mgW,mwA,hwk,w2,aK,hcl,aF,aD,ah,ho]
       refine hrec ⟨i+1,o',J++[⟨47,Val.cellsL (o'.map (·.1))⟩],J.length,0⟩ _ _ ?_ ?_ ?_ ?_
       ·simp;omega
       ·refine⟨by simp only;omega,by simp only;omega, ?_, ?_⟩
        ·simp only
         rw[←hmg,hstep]
        ·exact⟨by simp[hcl],fun _=>by simp,fun _ h=>absurd h (by simp[hwk]),hps'⟩
       ·simp[mgA,mgW,mwA,hwk,hil,w2,ho'0,ho,hoq,Val.cellsL]
       ·simp
      ·simp[hwk] at hwt
       obtain⟨hiw,hwe,hw1,hw2,hwp⟩:=hwi hwk
       obtain⟨hqv,_,hRv2⟩:=hRv hwk
       have hqv2:∀x,iv<m.rw.length+x:=fun x=>by omega
       have hat:=bq hiw
       have w3:IntKind.i64.wrap v.ws[i]=v.ws[i]:=al _ (by have:=kK hwp;omega)
       have hld:True:=trivial
       have hst:True:=trivial
       simp[Tryz.f89,a89,reg89,loop89,draw89,dok89,ah,hia,hia2,hRa2,hmw,hwt,mgA,mgW,mwA,hwk,w2,aK,hcl,aF,aD,ah,ho,hiw,hqv,hqv2,hRv2,show i+1≤v.ws.length by omega,hat,w3]
       refine hrec ⟨i+1,o',J++[⟨47,Val.cellsL (o'.map (·.1))⟩,⟨3,az (o'.map (·.2))⟩],J.length,J.length+1⟩ _ _ ?_ ?_ ?_ ?_
       ·simp;omega
       ·refine⟨by simp only;omega,by simp only;omega, ?_, ?_⟩
        ·simp only
         rw[←hmg,hstep]
        ·exact⟨by simp[hcl],fun _=>by simp,fun _ _=>⟨by simp,by simp⟩,hps'⟩
       ·simp[mgA,mgW,mwA,hwk,hil,w2,ho'0,ho,hoq,Val.cellsL,hwe,az]
       ·simp
     have ho1:0<o.length:=List.length_pos_iff.2 ho
     by_cases ha0:a=0
     ·subst ha0
      have hcl0:c<0:=by have:=hpi (by omega);omega
      simp at hrow
      have ho0:¬o=[]:=fun h=>by rw[h] at ho1;simp at ho1
      have hJa:=hra ho1
      have hja:ja<J.length:=(List.getElem?_eq_some_iff.1 hJa).1
      have hJa2:=(List.getElem?_eq_some_iff.1 hJa).2
      have hfl:(∀x,x∈Val.cellsL (o.map (·.1))→flat x=true)=True:=eq_true fun x hx=>List.all_eq_true.1 (Val.flat_cellsL _) x hx
      have hall:List.take (o.length*3) (Val.cellsL (o.map (·.1)))=Val.cellsL (o.map (·.1)):=List.take_of_length_le (by simp)
      have hallw:List.take o.length (az (o.map (·.2)))=az (o.map (·.2)):=List.take_of_length_le (by simp)
      cases hwk:wtd k
      ·simp[hwk] at hwt
       simp[Tryz.f89,a89,reg89,loop89,draw89,dok89,ah,hia,hia2,hRa2,hmw,hwt,mgA,mgW,mwA,hwk,w2,aK,hcl,aF,aD,ah,hall,hfl,ho0,ho1,hja,hJa2,hcl0,hrow,show ¬(0:Int)=o.length by omega,show ¬o.length=0 by omega,show(1+o.length)*56≤70368744177664 by omega,show 1+o.length≤70368744177664 by omega,show 3+o.length*3=(1+o.length)*3 by omega]
       refine hrec ⟨i+1,o',J++[⟨47,Val.cellsL (o'.map (·.1))⟩],J.length,0⟩ _ _ ?_ ?_ ?_ ?_
       ·simp;omega
       ·refine⟨by simp only;omega,by simp only;omega, ?_, ?_⟩
        ·simp only
         rw[←hmg,hstep]
        ·exact⟨by simp[hcl],fun _=>by simp,fun _ h=>absurd h (by simp[hwk]),hps'⟩
       ·simp[mgA,mgW,mwA,hwk,hil,w2,ho'0,Nat.add_comm 1 o.length]
       ·simp
      ·simp[hwk] at hwt
       obtain⟨hiw,hwe,hw1,hw2,hwp⟩:=hwi hwk
       obtain⟨hqv,_,hRv2⟩:=hRv hwk
       have hqv2:∀x,iv<m.rw.length+x:=fun x=>by omega
       have hat:=bq hiw
       have w3:IntKind.i64.wrap v.ws[i]=v.ws[i]:=al _ (by have:=kK hwp;omega)
       obtain⟨hJw,hne⟩:=hrw ho1 hwk
       have hjw:jw<J.length:=(List.getElem?_eq_some_iff.1 hJw).1
       have hJw2:=(List.getElem?_eq_some_iff.1 hJw).2
       have hld:True:=trivial
       have hdr:True:=trivial
       have hst:A.int .i64 v.ws[i]::az (o.map (·.2))=az (o'.map (·.2)):=by rw[hsnd,hwe];simp[az]
       simp[Tryz.f89,a89,reg89,loop89,draw89,dok89,ah,hia,hia2,hRa2,hmw,hwt,mgA,mgW,mwA,hwk,w2,aK,hcl,aF,aD,ah,hall,hfl,ho0,ho1,hja,hJa2,hcl0,hrow,show ¬(0:Int)=o.length by omega,show ¬o.length=0 by omega,show(1+o.length)*56≤70368744177664 by omega,show 1+o.length≤70368744177664 by omega,show 3+o.length*3=(1+o.length)*3 by omega,eq_true (show o.length+1=1+o.length by omega),show(0:Int)<1+o.length by omega,show 1≤1+o.length by omega,show 1≤o.length+1 by omega,hallw,gY,hjw,hJw2,show(1+o.length)*8≤70368744177664 by omega,hiw,hqv,hqv2,hRv2,show i+1≤v.ws.length by omega,hat,w3,hld,hdr,hst]
       refine hrec ⟨i+1,o',J++[⟨47,Val.cellsL (o'.map (·.1))⟩,⟨3,az (o'.map (·.2))⟩],J.length,J.length+1⟩ _ _ ?_ ?_ ?_ ?_
       ·simp;omega
       ·refine⟨by simp only;omega,by simp only;omega, ?_, ?_⟩
        ·simp only
         rw[←hmg,hstep]
        ·exact⟨by simp[hcl],fun _=>by simp,fun _ _=>⟨by simp,by simp⟩,hps'⟩
       ·simp[mgA,mgW,mwA,hwk,hil,w2,ho'0,Nat.add_comm 1 o.length]
       ·simp
     by_cases hal:a=o.length
     ·subst hal
      rw[List.take_of_length_le (by simp),List.drop_eq_nil_of_le (by simp)] at hrow
      have ho0:¬o=[]:=fun h=>by rw[h] at ho1;simp at ho1
      have hJa:=hra ho1
      have hja:ja<J.length:=(List.getElem?_eq_some_iff.1 hJa).1
      have hJa2:=(List.getElem?_eq_some_iff.1 hJa).2
      have hfl:(∀x,x∈Val.cellsL (o.map (·.1))→flat x=true)=True:=eq_true fun x hx=>List.all_eq_true.1 (Val.flat_cellsL _) x hx
      have hall:List.take (o.length*3) (Val.cellsL (o.map (·.1)))=Val.cellsL (o.map (·.1)):=List.take_of_length_le (by simp)
      have hallw:List.take o.length (az (o.map (·.2)))=az (o.map (·.2)):=List.take_of_length_le (by simp)
      cases hwk:wtd k
      ·simp[hwk] at hwt
       simp[Tryz.f89,a89,reg89,loop89,draw89,dok89,ah,hia,hia2,hRa2,hmw,hwt,mgA,mgW,mwA,hwk,w2,aK,hcl,aF,aD,ah,hil,hall,hfl,ho0,ho1,hja,hJa2,hrow,show ¬(0:Int)=o.length by omega,show o.length*3+3=(o.length+1)*3 by omega,show o.length*56≤70368744177664 by omega,show o.length≤70368744177664 by omega,show(o.length+1)*56≤70368744177664 by omega,show o.length+1≤70368744177664 by omega]
       refine hrec ⟨i+1,o',J++[⟨47,Val.cellsL (o'.map (·.1))⟩],J.length,0⟩ _ _ ?_ ?_ ?_ ?_
       ·simp;omega
       ·refine⟨by simp only;omega,by simp only;omega, ?_, ?_⟩
        ·simp only
         rw[←hmg,hstep]
        ·exact⟨by simp[hcl],fun _=>by simp,fun _ h=>absurd h (by simp[hwk]),hps'⟩
       ·simp[mgA,mgW,mwA,hwk,hil,w2,ho'0]
       ·simp
      ·simp[hwk] at hwt
       obtain⟨hiw,hwe,hw1,hw2,hwp⟩:=hwi hwk
       obtain⟨hqv,_,hRv2⟩:=hRv hwk
       have hqv2:∀x,iv<m.rw.length+x:=fun x=>by omega
       have hat:=bq hiw
       have w3:IntKind.i64.wrap v.ws[i]=v.ws[i]:=al _ (by have:=kK hwp;omega)
       obtain⟨hJw,hne⟩:=hrw ho1 hwk
       have hjw:jw<J.length:=(List.getElem?_eq_some_iff.1 hJw).1
       have hJw2:=(List.getElem?_eq_some_iff.1 hJw).2
       have hla:(az (o.map (·.2))).length=o.length:=by simp
       have hld:List.drop o.length (az (o.map (·.2))++[A.int .i64 0])=[A.int .i64 0]:=by have:=List.drop_left (l₁:=az (o.map (·.2))) (l₂:=[A.int .i64 0]);rwa [hla] at this
       have hdr:List.drop (o.length+1) (az (o.map (·.2))++[A.int .i64 0])=[]:=List.drop_eq_nil_of_le (by simp)
       have hst:az (o.map (·.2))++[A.int .i64 v.ws[i]]=az (o'.map (·.2)):=by
        rw[hsnd,hwe,List.take_of_length_le (show(o.map (·.2)).length≤o.length by simp),List.drop_eq_nil_of_le (show(o.map (·.2)).length≤o.length by simp)]
        simp[az]
       simp[Tryz.f89,a89,reg89,loop89,draw89,dok89,ah,hia,hia2,hRa2,hmw,hwt,mgA,mgW,mwA,hwk,w2,aK,hcl,aF,aD,ah,hil,hall,hfl,ho0,ho1,hja,hJa2,hrow,show ¬(0:Int)=o.length by omega,show o.length*3+3=(o.length+1)*3 by omega,show o.length*56≤70368744177664 by omega,show o.length≤70368744177664 by omega,show(o.length+1)*56≤70368744177664 by omega,show o.length+1≤70368744177664 by omega,show(o.length:Int)<(o.length:Int)+1 by omega,hallw,gY,hjw,hJw2,show o.length*8≤70368744177664 by omega,show(o.length+1)*8≤70368744177664 by omega,hiw,hqv,hqv2,hRv2,show i+1≤v.ws.length by omega,hat,w3,hld,hdr,hst]
       refine hrec ⟨i+1,o',J++[⟨47,Val.cellsL (o'.map (·.1))⟩,⟨3,az (o'.map (·.2))⟩],J.length,J.length+1⟩ _ _ ?_ ?_ ?_ ?_
       ·simp;omega
       ·refine⟨by simp only;omega,by simp only;omega, ?_, ?_⟩
        ·simp only
         rw[←hmg,hstep]
        ·exact⟨by simp[hcl],fun _=>by simp,fun _ _=>⟨by simp,by simp⟩,hps'⟩
       ·simp[mgA,mgW,mwA,hwk,hil,w2,ho'0]
       ·simp
     ·have hcl0:c<0:=by have:=hpi (by omega);omega
      have ho0:¬o=[]:=fun h=>by rw[h] at ho1;simp at ho1
      have hJa:=hra ho1
      have hja:ja<J.length:=(List.getElem?_eq_some_iff.1 hJa).1
      have hJa2:=(List.getElem?_eq_some_iff.1 hJa).2
      have hft:(∀x,x∈List.take (a*3) (Val.cellsL (o.map (·.1)))→flat x=true)=True:=eq_true fun x hx=>List.all_eq_true.1 (Val.flat_cellsL _) x (List.mem_of_mem_take hx)
      have hfd:(∀x,x∈List.drop (a*3) (Val.cellsL (o.map (·.1)))→flat x=true)=True:=eq_true fun x hx=>List.all_eq_true.1 (Val.flat_cellsL _) x (List.mem_of_mem_drop hx)
      have htd:List.take ((o.length-a)*3) (List.drop (a*3) (Val.cellsL (o.map (·.1))))=List.drop (a*3) (Val.cellsL (o.map (·.1))):=List.take_of_length_le (by simp;omega)
      cases hwk:wtd k
      ·simp[hwk] at hwt
       simp[Tryz.f89,a89,reg89,loop89,draw89,dok89,ah,hia,hia2,hRa2,hmw,hwt,mgA,mgW,mwA,hwk,w2,aK,hcl,aF,aD,ah,hft,hfd,htd,ho0,ho1,ha0,hal,hcl0,hja,hJa2,hpl,hrow,show ¬(a:Int)=o.length by omega,show(a:Int)≤o.length by omega,show ¬(0:Int)=a by omega,show min (a*3) (o.length*3)=a*3 by omega,show a*3≤o.length*3 by omega,show a*3+(o.length-a)*3=o.length*3 by omega,show((o.length:Int)-a).toNat=o.length-a by omega,show a*3+3=(a+1)*3 by omega,show(a+1)*3+(o.length-a)*3=(a+1+(o.length-a))*3 by omega,show o.length*3-a*3=(o.length-a)*3 by omega,show a*56≤70368744177664 by omega,show a≤70368744177664 by omega,show(a+1)*56≤70368744177664 by omega,show a+1≤70368744177664 by omega,show(a+1+(o.length-a))*56≤70368744177664 by omega,show a+1+(o.length-a)≤70368744177664 by omega]
       refine hrec ⟨i+1,o',J++[⟨47,Val.cellsL (o'.map (·.1))⟩],J.length,0⟩ _ _ ?_ ?_ ?_ ?_
       ·simp;omega
       ·refine⟨by simp only;omega,by simp only;omega, ?_, ?_⟩
        ·simp only
         rw[←hmg,hstep]
        ·exact⟨by simp[hcl],fun _=>by simp,fun _ h=>absurd h (by simp[hwk]),hps'⟩
       ·simp[mgA,mgW,mwA,hwk,hil,w2,ho'0,show a+1+(o.length-a)=o.length+1 by omega]
       ·simp
      ·simp[hwk] at hwt
       obtain⟨hiw,hwe,hw1,hw2,hwp⟩:=hwi hwk
       obtain⟨hqv,_,hRv2⟩:=hRv hwk
       have hqv2:∀x,iv<m.rw.length+x:=fun x=>by omega
       have hat:=bq hiw
       have w3:IntKind.i64.wrap v.ws[i]=v.ws[i]:=al _ (by have:=kK hwp;omega)
       obtain⟨hJw,hne⟩:=hrw ho1 hwk
       have hjw:jw<J.length:=(List.getElem?_eq_some_iff.1 hJw).1
       have hJw2:=(List.getElem?_eq_some_iff.1 hJw).2
       have hwft:(∀x,x∈List.take a (az (o.map (·.2)))→flat x=true)=True:=eq_true fun x hx=>List.all_eq_true.1 (oT _) x (List.mem_of_mem_take hx)
       have hwfd:(∀x,x∈List.drop a (az (o.map (·.2)))→flat x=true)=True:=eq_true fun x hx=>List.all_eq_true.1 (oT _) x (List.mem_of_mem_drop hx)
       have hwtd:List.take (o.length-a) (List.drop a (az (o.map (·.2))))=List.drop a (az (o.map (·.2))):=List.take_of_length_le (by simp)
       have hla:(List.take a (az (o.map (·.2)))).length=a:=by simp;omega
       have hld:List.drop a (List.take a (az (o.map (·.2)))++A.int .i64 0::List.drop a (az (o.map (·.2))))=A.int .i64 0::List.drop a (az (o.map (·.2))):=by have:=List.drop_left (l₁:=List.take a (az (o.map (·.2)))) (l₂:=A.int .i64 0::List.drop a (az (o.map (·.2))));rwa [hla] at this
       have hdr:List.drop (a+1) (List.take a (az (o.map (·.2)))++A.int .i64 0::List.drop a (az (o.map (·.2))))=List.drop a (az (o.map (·.2))):=by rw[←List.drop_drop,hld];rfl
       have hst:List.take a (az (o.map (·.2)))++A.int .i64 v.ws[i]::List.drop a (az (o.map (·.2)))=az (o'.map (·.2)):=by rw[hsnd,hwe];simp[az]
       simp[Tryz.f89,a89,reg89,loop89,draw89,dok89,ah,hia,hia2,hRa2,hmw,hwt,mgA,mgW,mwA,hwk,w2,aK,hcl,aF,aD,ah,hft,hfd,htd,ho0,ho1,ha0,hal,hcl0,hja,hJa2,hpl,hrow,show ¬(a:Int)=o.length by omega,show(a:Int)≤o.length by omega,show ¬(0:Int)=a by omega,show min (a*3) (o.length*3)=a*3 by omega,show a*3≤o.length*3 by omega,show a*3+(o.length-a)*3=o.length*3 by omega,show((o.length:Int)-a).toNat=o.length-a by omega,show a*3+3=(a+1)*3 by omega,show(a+1)*3+(o.length-a)*3=(a+1+(o.length-a))*3 by omega,show o.length*3-a*3=(o.length-a)*3 by omega,show a*56≤70368744177664 by omega,show a≤70368744177664 by omega,show(a+1)*56≤70368744177664 by omega,show a+1≤70368744177664 by omega,show(a+1+(o.length-a))*56≤70368744177664 by omega,show a+1+(o.length-a)≤70368744177664 by omega,show a+(o.length-a+1)=a+1+(o.length-a) by omega,show a+1≤a+1+(o.length-a) by omega,show(a:Int)<(a:Int)+1+((o.length-a:Nat):Int) by omega,hjw,hJw2,hwft,hwfd,hwtd,show min a o.length=a by omega,show a*8≤70368744177664 by omega,show(a+1)*8≤70368744177664 by omega,show(a+1+(o.length-a))*8≤70368744177664 by omega,show a+(o.length-a)=o.length by omega,hiw,hqv,hqv2,hRv2,show i+1≤v.ws.length by omega,hat,w3,hld,hdr,hst]
       refine hrec ⟨i+1,o',J++[⟨47,Val.cellsL (o'.map (·.1))⟩,⟨3,az (o'.map (·.2))⟩],J.length,J.length+1⟩ _ _ ?_ ?_ ?_ ?_
       ·simp;omega
       ·refine⟨by simp only;omega,by simp only;omega, ?_, ?_⟩
        ·simp only
         rw[←hmg,hstep]
        ·exact⟨by simp[hcl],fun _=>by simp,fun _ _=>⟨by simp,by simp⟩,hps'⟩
       ·simp[mgA,mgW,mwA,hwk,hil,w2,ho'0,show a+1+(o.length-a)=o.length+1 by omega]
       ·simp
   ·simp[Tryz.f89,a89,reg89,loop89,draw89,dok89,ah,hia,hia2,hRa2,hmw]
   ·simp
   ·intro x;simp[Tryz.f89,a89,reg89,loop89,draw89,dok89,ah,hia,hia2,hRa2,hmw]
   ·clear hrec
    rintro⟨a,c⟩ ⟨ha,hp⟩ hrec
    simp only at ha hp⊢
    by_cases hao:a<o.length
    ·have ho0:¬o=[]:=fun h=>by rw[h] at hao;simp at hao
     have ho1:0<o.length:=by omega
     have hJa:=hra ho1
     have hja:ja<J.length:=(List.getElem?_eq_some_iff.1 hJa).1
     have hJa2:=(List.getElem?_eq_some_iff.1 hJa).2
     have hcw:=Ai (k:=k) (n:=m.rw.length) hrw
     rcases hp with⟨rfl,hp⟩|⟨hc,hp⟩
     ·have w3:IntKind.i64.wrap (a+1)=a+1:=al _ (by omega)
      have he:=qn v.args[i].nodes v.args[i] (Nat.le_refl _) (by omega) (cq hs.2 (List.getElem_mem hlt)) o[a].1
      simp at he
      have hat:=Val.at_cellsL (o.map (·.1)) a (by simpa using hao)
      simp at hat
      have h4:a*3+3≤o.length*3:=by omega
      have h5:3≤o.length*3-a*3:=by omega
      rw[CA hao] at hp
      by_cases hc:0<aY v.args[i] o[a].1
      ·have hc1:aY v.args[i] o[a].1=1:=by have:=rm v.args[i] o[a].1;omega
       rw[if_pos hc] at hp
       simp[hc1] at he
       simp[round,Tryz.f89,a89,reg89,loop89,draw89,dok89,ah,hia,hia2,hRa2,hmw,hao,ho0,ho1,mgA,hJa2,aF,hat,h4,h5,w3,he,aK,hcl,hja,hcw]
       refine hrec (a+1,1) _ _ ?_ ?_ ?_ ?_
       ·simp;omega
       ·refine⟨by simp only;omega,.inl ⟨rfl, ?_⟩⟩
        rw[hp]
        simp only
        exact Prod.ext (by simp only;omega) rfl
       ·simp[mgA,ho0]
       ·simp[mgA,ho0]
      ·rw[if_neg hc] at hp
       simp[round,Tryz.f89,a89,reg89,loop89,draw89,dok89,ah,hia,hia2,hRa2,hmw,hao,ho0,ho1,mgA,hJa2,aF,hat,h4,h5,w3,he,hc,aK,hcl,hja,hcw]
       refine hrec (a,aY v.args[i] o[a].1) _ _ ?_ ?_ ?_ ?_
       ·simp[hc]
       ·exact⟨ha,.inr ⟨by simp only;omega,by rw[hp];rfl⟩⟩
       ·simp[mgA,ho0]
       ·simp[mgA,ho0]
     ·clear hrec
      simp[round,Tryz.f89,a89,reg89,loop89,draw89,dok89,ah,hia,hia2,hRa2,hmw,hao,ho0,ho1,mgA,hp,show ¬0<c by omega]
    ·have hae:a=o.length:=by omega
     clear hrec
     have hpe:bV v.args[i] o=(a,c):=by
      rcases hp with⟨rfl,hp⟩|⟨hc,hp⟩
      ·rw[hp,List.drop_eq_nil_of_le (by omega),bV]
       rfl
      ·exact hp
     subst hae
     by_cases ho:o.length=0
     ·simp[round,Tryz.f89,a89,reg89,loop89,draw89,dok89,ah,hia,hia2,hRa2,hmw,mgA,hpe,ho]
     ·simp[round,Tryz.f89,a89,reg89,loop89,draw89,dok89,ah,hia,hia2,hRa2,hmw,mgA,hpe,ho]
  ·clear hrec
   have hO:o=aE k v.args v.ws:=by
    rw[←hmg,List.drop_eq_nil_of_le (by rw[List.length_zip];omega)]
    rfl
   have hO7:k=7→0<o.length:=fun h=>by
    rw[hO]
    refine List.length_pos_iff.2 (jM _ _ (.inr ?_))
    intro h0
    have:=congrArg List.length h0
    have h1:=h7 h
    have h2:=(hw (by rw[h];rfl)).1
    have hz:bD k v.args v.ws=v.ws:=by unfold bD;rw[h];rfl
    rw[List.length_zip,hz,h2] at this
    simp at this
    rw[this] at h1
    simp at h1
   have hO2:wtd k=true→∀w,w∈o.map (·.2)→1≤w∧w≤1048576:=fun h w hmem=>by
    obtain⟨p,hp,rfl⟩:=List.mem_map.1 hmem
    refine⟨hps h p hp, ?_⟩
    have h1:=nS (hps h) hp
    have h2:(o.map (·.2)).sum=v.ws.sum:=by
     have hz:bD k v.args v.ws=v.ws:=by unfold bD;rw[h,if_pos rfl]
     rw[hO]
     unfold aE
     rw[eM,hz,fK (hw h).1]
     simp
    have h3:=(hw h).2.2
    omega
   unfold aW
   rw[←hO]
   clear hmg hO
   by_cases h7':k=7
   ·have hwk:wtd k=true:=by rw[h7'];rfl
    have hn0:0<o.length:=hO7 h7'
    have ho0:¬o=[]:=fun h=>by rw[h] at hn0;simp at hn0
    have hJa:=hra hn0
    have hja:ja<J.length:=(List.getElem?_eq_some_iff.1 hJa).1
    have hJa2:=(List.getElem?_eq_some_iff.1 hJa).2
    obtain⟨hJw,hne⟩:=hrw hn0 hwk
    have hjw:jw<J.length:=(List.getElem?_eq_some_iff.1 hJw).1
    have hJw2:=(List.getElem?_eq_some_iff.1 hJw).2
    have hall:List.take (o.length*3) (Val.cellsL (o.map (·.1)))=Val.cellsL (o.map (·.1)):=List.take_of_length_le (by simp)
    have hps2:=hps hwk
    have hws:∀w,w∈o.map (·.2)→1≤w∧w≤1048576:=hO2 hwk
    have hwp:∀w,w∈o.map (·.2)→1≤w:=fun w h=>(hws w h).1
    have hWl:(o.map (·.2)).length=o.length:=by simp
    generalize o.map (·.2)=W at*
    have hgp:0<dz W:=jQ (fun h=>by rw[h] at hWl;simp at hWl;omega) hwp
    simp[round,Tryz.f89,a89,reg89,loop89,draw89,dok89,ah,hia,hia2,hRa2,hmw,hlt,h7',ho0,mgA,mgW,mwA,hwk,wtd]
    refine aC (fun x:Nat×Nat=>⟨[(4,.ptr (m.bx.length+1) 0),(5,.ptr (m.bx.length+2) 0),(10,.int .i64 x.2),(101,.sl (m.rw.length+jw) o.length 0 o.length),(102,.int .i64 o.length),(103,.int .i64 x.1)],
      ⟨m.bx++[[.int .i64 v.num,.sl ia (v.args.length*3) 0 v.args.length,mwA k iv v],[.int .i64 0,.nils,.nils],[.int .i64 v.num,.sl (m.rw.length+ja) (o.length*3) 0 o.length,.sl (m.rw.length+jw) o.length 0 o.length]],m.rw++J⟩⟩)
     (fun x=>some (.ret (.agg (Val.mk v.num (o.map (·.1)) (bH W)).cells),m)) (fun x=>o.length-x.1) (fun x=>x.1≤o.length∧mH x.2 (W.drop x.1)=dz W) (0,0) ?_ ?_ ?_ ?_ ?_
    ·simp[mwA,hwk]
    ·simp
    ·simp[dz]
    ·intro x;simp[Tryz.f89,a89,reg89,loop89,draw89,dok89,ah,hia,hia2,hRa2,hmw]
    ·rintro⟨j,g⟩ ⟨hj,hg⟩ hrec
     simp only at hj hg
     by_cases hjt:j<o.length
     ·have w2:IntKind.i64.wrap (j+1)=j+1:=al _ (by omega)
      have hjt':j<W.length:=by omega
      have hat:=bq hjt'
      rw[oX hjt'] at hg
      have hx:=hws W[j] (List.getElem_mem hjt')
      obtain⟨n,hn⟩:∃n:Nat,W[j]=n:=⟨W[j].toNat,by omega⟩
      rw[hn] at hat hg
      simp only[Int.natAbs_natCast] at hg
      have he:=F0 g n
      simp[round,Tryz.f89,a89,reg89,loop89,draw89,dok89,ah,hia,hia2,hRa2,hmw,hjt,w2,aF,hjw,hJw2,hWl,show j+1≤o.length by omega,hat,he,aK,hcl,hja]
      refine hrec (j+1,Nat.gcd g n) _ _ ?_ ?_ ?_ ?_
      ·simp;omega
      ·exact⟨by simp only;omega,hg⟩
      ·simp
      ·simp
     ·clear hrec
      have hje:j=o.length:=by omega
      subst hje
      rw[List.drop_eq_nil_of_le (by omega)] at hg
      have hg':g=dz W:=hg
      subst hg'
      simp[round,Tryz.f89,a89,reg89,loop89,draw89,dok89,ah,hia,hia2,hRa2,hmw]
      refine aC (fun i:Nat=>⟨[(4,.ptr (m.bx.length+1) 0),(5,.ptr (m.bx.length+2) 0),(10,.int .i64 (dz W)),(113,.int .i64 o.length),(114,.int .i64 i)],
        ⟨m.bx++[[.int .i64 v.num,.sl ia (v.args.length*3) 0 v.args.length,mwA k iv v],[.int .i64 0,.nils,.nils],[.int .i64 v.num,.sl (m.rw.length+ja) (o.length*3) 0 o.length,.sl (m.rw.length+jw) o.length 0 o.length]],m.rw++J.set jw ⟨3,az ((bH W).take i++W.drop i)⟩⟩⟩)
       (fun i=>some (.ret (.agg (Val.mk v.num (o.map (·.1)) (bH W)).cells),m)) (fun i=>o.length-i) (fun i=>i≤o.length) 0 ?_ ?_ ?_ ?_ ?_
      ·have hset0:J.set jw ⟨3,az W⟩=J:=by rw[←hJw2];exact List.set_getElem_self hjw
       simp[hset0]
      ·simp
      ·omega
      ·intro x;simp[Tryz.f89,a89,reg89,loop89,draw89,dok89,ah,hia,hia2,hRa2,hmw]
      ·intro i hi hrec
       have hdl:(bH W).length=W.length:=by unfold bH;simp
       have hne':¬jw=ja:=fun h=>hne h.symm
       have hg0:¬(dz W:Int)=0:=by omega
       by_cases hit:i<o.length
       ·have w2:IntKind.i64.wrap (i+1)=i+1:=al _ (by omega)
        have hiW:i<W.length:=by omega
        have hx:=hws W[i] (List.getElem_mem hiW)
        have hq:=lJ hx.1 hgp ((fY W 0).2 _ (List.getElem_mem hiW))
        have w3:IntKind.i64.wrap (W[i].tdiv (dz W))=W[i].tdiv (dz W):=al _ (by omega)
        have hDl:((bH W).take i++W.drop i).length=o.length:=by simp;omega
        have hat:((az ((bH W).take i++W.drop i)).drop i).take 1=[.int .i64 W[i]]:=by
         have h1:=bq (ks:=(bH W).take i++W.drop i) (i:=i) (by omega)
         rw[h1]
         congr 2
         rw[List.getElem_append_right (by simp;omega)]
         simp[Nat.min_eq_left (show i≤(bH W).length by omega)]
        have hst:List.take i (az ((bH W).take i++W.drop i))++A.int .i64 (W[i].tdiv (dz W))::List.drop (i+1) (az ((bH W).take i++W.drop i))=az ((bH W).take (i+1)++W.drop (i+1)):=by
         have h1:(bH W)[i]'(by omega)=W[i].tdiv (dz W):=by unfold bH;simp
         have h2:((bH W).take i).length=i:=by simp;omega
         unfold az
         rw[←List.map_take,←List.map_drop,←List.drop_drop]
         have h3:List.take i ((bH W).take i++W.drop i)=(bH W).take i:=by rw[List.take_append_of_le_length (by omega),List.take_of_length_le (by omega)]
         have h4:List.drop i ((bH W).take i++W.drop i)=W.drop i:=by rw[List.drop_append_of_le_length (by omega),List.drop_eq_nil_of_le (by omega)];rfl
         rw[h3,h4,List.drop_drop,List.take_succ_eq_append_getElem (by omega),h1]
         simp
        generalize (bH W).take i++W.drop i=D at hDl hat hst⊢
        simp[round,Tryz.f89,a89,reg89,loop89,draw89,dok89,ah,hia,hia2,hRa2,hmw,hit,w2,w3,aF,aD,hjw,hDl,hat,hst,show ¬dz W=0 by omega,show i+1≤o.length by omega,aK,fz,hcl,hja]
        refine hrec (i+1) _ _ ?_ ?_ ?_ ?_
        ·omega
        ·omega
        ·simp
        ·simp
       ·clear hrec
        have hie:i=o.length:=by omega
        subst hie
        rw[List.take_of_length_le (by omega),List.drop_eq_nil_of_le (by omega),List.append_nil]
        have hdl2:(bH W).length=o.length:=by omega
        have htk:List.take o.length (az (bH W))=az (bH W):=List.take_of_length_le (by simp;omega)
        simp[round,Tryz.f89,a89,reg89,loop89,draw89,dok89,ah,hia,hia2,hRa2,hmw,aF,hjw,hja,hJa2,hne',hall,hdl2,htk]
   ·by_cases ho:o.length=0
    ·have ho':o=[]:=List.eq_nil_of_length_eq_zero ho
     simp[round,Tryz.f89,a89,reg89,loop89,draw89,dok89,ah,hia,hia2,hRa2,hmw,hlt,h7',ho',mgA,mgW]
    ·have ho1:0<o.length:=by omega
     have ho0:¬o=[]:=fun h=>ho (by rw[h];rfl)
     have hJa:=hra ho1
     have hja:ja<J.length:=(List.getElem?_eq_some_iff.1 hJa).1
     have hJa2:=(List.getElem?_eq_some_iff.1 hJa).2
     have hall:List.take (o.length*3) (Val.cellsL (o.map (·.1)))=Val.cellsL (o.map (·.1)):=List.take_of_length_le (by simp)
     have hallw:List.take o.length (az (o.map (·.2)))=az (o.map (·.2)):=List.take_of_length_le (by simp)
     cases hwk:wtd k
     ·simp[round,Tryz.f89,a89,reg89,loop89,draw89,dok89,ah,hia,hia2,hRa2,hmw,hlt,h7',ho0,mgA,mgW,mwA,hwk,aF,hja,hJa2,hall]
     ·have hJw:=(hrw ho1 hwk).1
      have hjw:jw<J.length:=(List.getElem?_eq_some_iff.1 hJw).1
      have hJw2:=(List.getElem?_eq_some_iff.1 hJw).2
      simp[round,Tryz.f89,a89,reg89,loop89,draw89,dok89,ah,hia,hia2,hRa2,hmw,hlt,h7',ho0,mgA,mgW,mwA,hwk,aF,hja,hJa2,hjw,hJw2,hall,hallw]
theorem sM(u:Val)(w:Int):∀o:List (Val×Int),Val.nodesL ((bg u w o).map (·.1))≤u.nodes+Val.nodesL (o.map (·.1))∧(bg u w o).length≤o.length+1
 |[]=>by rw[bg];simp[Val.nodesL]
 |p::r=>by
  rw[bg]
  have:=sM u w r
  split
  ·simp[Val.nodesL]<;>omega
  ·split
   ·simp[Val.nodesL]
   ·simp[Val.nodesL]<;>omega
theorem kn:∀l o:List (Val×Int),Val.nodesL ((aI o l).map (·.1))≤Val.nodesL (l.map (·.1))+Val.nodesL (o.map (·.1))∧(aI o l).length≤l.length+o.length
 |[],o=>by simp[aI,Val.nodesL]
 |p::r,o=>by
  have h1:=kn r (bg p.1 p.2 o)
  have h2:=sM p.1 p.2 o
  rw[show aI o (p::r)=aI (bg p.1 p.2 o) r from rfl]
  simp[Val.nodesL]
  omega
theorem rA{l:List Val}(h:∀x,x∈l→aP x):bS l:=by
 induction l with
 |nil=>rw[bS];trivial
 |cons a r ih=>rw[bS];exact⟨h a List.mem_cons_self,ih fun x hx=>h x (List.mem_cons_of_mem _ hx)⟩
mutual
theorem kk(n:Int):∀(v:Val) (f:Fun) (y:Val),aP v→v.nodes≤1000000000→ez n v f=some y→y.nodes≤v.nodes∧aP y
 | .mk k l w,f,y,hs,hb,h=>by
   rw[bj] at hs
   rw[Val.nodes_eq] at hb
   rw[ez] at h
   split at h
   ·rename_i hh
    simp only[Option.map_eq_some_iff] at h
    obtain⟨xs,hx,rfl⟩:=h
    have hl:=kQ n _ _ _ _ hx
    have ho:=lP n l (aB f k) 0 xs hs.2 (by simp only[Val.args_mk] at hb;omega) hx
    have hll:=Val.length_nodesL l
    simp only[Val.args_mk] at hb
    split
    ·unfold aW
     rw[Val.nodes_eq,Val.nodes_eq,bj]
     simp only[Val.args_mk,Val.ws_mk]
     have h1:=kn (xs.zip (bD f.kind xs w)) []
     have h2:Val.nodesL ((xs.zip (bD f.kind xs w)).map (·.1))≤Val.nodesL xs:=by
      have:∀(a:List Val) (b:List Int),Val.nodesL ((a.zip b).map (·.1))≤Val.nodesL a:=by
       intro a
       induction a with
       |nil=>intro b;simp[Val.nodesL]
       |cons x r ih=>
        intro b
        cases b with
        |nil=>simp[Val.nodesL]
        |cons y t=>simp[Val.nodesL];exact ih t
      exact this _ _
     have h3:(xs.zip (bD f.kind xs w)).length≤xs.length:=by rw[List.length_zip];omega
     simp only[List.map_nil,List.length_nil,Val.nodesL] at h1
     unfold aE
     refine⟨by omega, ?_,rA fun x hx'=> ?_⟩
     ·split
      ·unfold bH;simp;omega
      ·split
       ·simp;omega
       ·simp
     ·obtain⟨p,hp,rfl⟩:=List.mem_map.1 hx'
      rcases kB _ _ p hp with⟨q,h4,h5⟩|⟨q,h4,_⟩
      ·rw[h5];exact cq ho.2 (mj h4).1
      ·cases h4
    ·rw[Val.nodes_eq,Val.nodes_eq,bj]
     simp only[Val.args_mk,Val.ws_mk]
     exact⟨by omega,hs.1,ho.2⟩
   ·cases h
theorem lP(n:Int):∀(l:List Val) (g:Nat→Fun) (i:Nat) (xs:List Val),bS l→Val.nodesL l≤1000000000→cM n l g i=some xs→Val.nodesL xs≤Val.nodesL l∧bS xs
 |[],g,i,xs,hs,hb,h=>by rw[cM] at h;cases h;exact⟨Nat.le_refl _,hs⟩
 |v::r,g,i,xs,hs,hb,h=>by
  rw[cM] at h
  rw[bS] at hs
  rw[Val.nodesL] at hb
  simp only[Option.bind_eq_some_iff,Option.map_eq_some_iff] at h
  obtain⟨x,h1,y,h2,rfl⟩:=h
  have a:=kk n v (g i) x hs.1 (by omega) h1
  have b:=lP n r g (i+1) y hs.2 (by omega) h2
  rw[Val.nodesL,Val.nodesL,bS]
  exact⟨by omega,a.2,b.2⟩
end
theorem sZ{f:Fun}{v:Val}(hf:au f=true)(hp:kH f v=true):(ip f v).length=v.args.length∧∀i (h:i<(ip f v).length),(ip f v)[i]=aB f v.num i:=by
 unfold kH at hp
 rw[Bool.and_eq_true,decide_eq_true_eq] at hp
 refine⟨hp.1,fun i h=> ?_⟩
 have hk:=ba hf
 revert h
 unfold ip aB
 by_cases h0:f.kind=0∨f.kind=1
 ·rw[if_pos h0];intro h;simp at h
 rw[if_neg h0]
 by_cases h2:f.kind=2
 ·rw[if_pos h2,if_pos h2]
  intro h
  rw[List.getD_eq_getElem?_getD,List.getElem?_eq_getElem h]
  rfl
 rw[if_neg h2,if_neg h2]
 by_cases h3:f.kind=3
 ·rw[if_pos h3,if_pos h3]
  by_cases hc:0≤v.num∧v.num≤1
  ·rw[if_pos hc]
   intro h
   have:i=0:=by simpa using h
   subst this
   simp[h2,h3]
  ·rw[if_neg hc]
   intro h
   simp at h
 rw[if_neg h3,if_neg h3]
 split<;>intro h<;>simp
theorem ni{n:Int}{f:Fun}{v:Val}(hf:au f=true):bn n f v.num v.args.length v.ws=(kH f v&&Dc f n v.num&&DK f.kind v.args.length v.ws):=by
 unfold bn Dc DK
 congr 2
 unfold kH ip
 have hk:=ba hf
 have hfn:=dZ hf
 rw[Bool.eq_iff_iff]
 rcases hk with⟨hk,hl⟩|⟨hk,hl⟩|⟨hk,hl⟩|⟨hk,hl⟩|⟨hk,hl⟩|⟨hk,hl⟩|⟨hk,hl⟩|⟨hk,hl⟩
 ·simp[hk];exact⟨fun h=>by rw[h];rfl,fun h=>List.eq_nil_of_length_eq_zero h.symm⟩
 ·simp[hk];exact⟨fun h=>by rw[h];rfl,fun h=>List.eq_nil_of_length_eq_zero h.symm⟩
 ·simp[hk]
 ·by_cases hc:0≤v.num∧v.num≤1
  ·simp[hk,hc];exact eq_comm
  ·simp[hk,hc]
   intro h1 h2
   exact absurd ⟨h1,h2⟩ hc
 ·simp[hk];omega
 ·simp[hk]
 ·simp[hk]
 ·simp[hk]
def bO:Val:= .mk 0 [] []
def BM(n:Int)(v:Val)(f:Fun):Val:=(ez n v f).getD bO
theorem zY(k a:Int)(h5:k=5∨k=6)(m:Mem):ai C0 89 [.int .i64 k,.agg [.int .i64 a,.nils,.nils]] m=some (.ret (.agg (Val.mk a [] []).cells),m):=by
 rw[ab C0 (aj _ (by decide)) (by rw[ay];exact Tryz.func89) rfl (by rw[ae];rfl) (by rw[ae];rfl) (by decide) (by simp[Tryz.f89])]
 simp[Tryz.f89,a89,reg89,loop89,draw89,dok89]
 rw[aG]
 rcases h5 with h5|h5
 ·simp[round,Tryz.f89,a89,reg89,loop89,draw89,dok89,h5]
 ·simp[round,Tryz.f89,a89,reg89,loop89,draw89,dok89,h5]
def wR(w:List Int):List Row:=if w.length=0 then [] else [⟨3,az w⟩]
def wA(n:Nat)(w:List Int):A:=if w.length=0 then .nils else .sl n w.length 0 w.length
def xR(xs:List Val):List Row:=if xs.length=0 then [] else [⟨47,Val.cellsL xs⟩]
def xA(n:Nat)(xs:List Val):A:=if xs.length=0 then .nils else .sl n (xs.length*3) 0 xs.length
theorem AD(w:List Int)(xs:List Val):(wR w++xR xs).all (fun r=>r.cs.all (closed 0 0))=true:=by
 unfold wR xR
 split<;>split<;>simp
theorem CM(n:Nat)(w:List Int)(xs:List Val)(nb:Nat):closed nb (n+(wR w++xR xs).length) (wA n w)=true:=by
 unfold wA wR
 split
 ·simp
 ·simp
theorem AV(n:Nat)(w:List Int)(nb x:Nat):closed nb (n+((wR w).length+x)) (wA n w)=true:=by
 unfold wA wR
 split
 ·simp
 ·simp
  omega
theorem C4(w:List Int):(wR w).all (fun r=>r.cs.all (closed 0 0))=true:=by
 unfold wR
 split<;>simp
def Av(n:Int)(v:Val):Prop:=∀(f:Fun),au f=true→∀(m:Mem),ai C0 159 [.agg f.cells,.int .i64 n,.agg v.cells] m=some (.ret (.tup [.agg (BM n v f).cells,.bool (ez n v f).isSome]),m)
set_option maxHeartbeats 8000000 in
theorem zC(n:Int)(hn0:0≤n)(hn1:n≤1000000)(v:Val)(hb:v.nodes≤1000000)(hs:aP v)(H:∀u,u∈v.args→Av n u):Av n v:=by
 intro f hf m
 have hs':=hs
 rw[bj] at hs'
 have hlen:=v.length_args
 have hfn:=dZ hf
 have hp:=tj f v hf (by omega)
 have hnm:=zz f n v (by omega) (by omega) (by omega)
 have hwg:=ze f.kind v (by omega) hs'.1
 have hst:=BK f.kind
 have hsp:=ni (n:=n) (v:=v) hf
 unfold BM
 rw[DY]
 simp at hp hnm hwg
 rw[ab C0 (aj _ (by decide)) (by rw[ay];exact Tryz.func159) rfl (by rw[ae];rfl) (by rw[ae];rfl) (by decide) (by simp[Tryz.f159])]
 cases hpb:kH f v
 case false=>
  rw[hpb,Bool.false_and,Bool.false_and] at hsp
  rw[hsp]
  simp[hpb] at hp
  simp[Tryz.f159,a159,reg159,loop159,draw159,dok159,hp,bO]
 cases hnb:Dc f n v.num
 case false=>
  rw[hpb,hnb,Bool.true_and,Bool.false_and] at hsp
  rw[hsp]
  simp[hpb] at hp
  simp[hnb] at hnm
  simp[Tryz.f159,a159,reg159,loop159,draw159,dok159,hp,hnm,bO]
 cases hwb:DK f.kind v.args.length v.ws
 case false=>
  rw[hpb,hnb,hwb] at hsp
  rw[hsp]
  simp[hpb] at hp
  simp[hnb] at hnm
  simp[hwb] at hwg
  simp[Tryz.f159,a159,reg159,loop159,draw159,dok159,hp,hnm,hwg,bO]
 rw[hpb,hnb,hwb] at hsp
 rw[hsp,if_pos (show(true&&true&&true)=true from rfl)]
 simp[hpb] at hp
 simp[hnb] at hnm
 simp[hwb] at hwg
 obtain⟨hPl,hPa⟩:=sZ hf hpb
 generalize ip f v=P at hp hPl hPa
 have hwz:v.ws.length*8≤70368744177664:=by omega
 have hwy:v.ws.length≤70368744177664:=by omega
 by_cases hw0:v.ws.length=0
 case' pos=>
  simp[hw0] at hp hnm hwg
  simp[Tryz.f159,a159,reg159,loop159,draw159,dok159,hp,hnm,hwg,hw0]
 case' neg=>simp[Tryz.f159,a159,reg159,loop159,draw159,dok159,hp,hnm,hwg,hw0,show ¬v.ws=[] from fun h=>hw0 (by rw[h];rfl),hwz,hwy,gY]
 all_goals
  refine aC (fun x:Nat×List Val=>⟨[(1,.int .i64 n),(3,.ptr m.bx.length 0),(6,.ptr (m.bx.length+2) 0),(8,.isl false P.length (Fun.cellsL P)),(10,.ptr (m.bx.length+3) 0),(45,.isl false v.args.length (Val.cellsL v.args)),(46,.int .i64 v.args.length),(47,.int .i64 x.1)],
    ⟨m.bx++[f.cells,v.cells,[.int .i64 0,.nils,.nils],[.int .i64 v.num,xA (m.rw.length+(wR v.ws).length) x.2,wA m.rw.length v.ws]],m.rw++(wR v.ws++xR x.2)⟩⟩)
   (fun x=>some (.ret (.tup [.agg (((cM n v.args (aB f v.num) 0).map fun xs=>if bc f.kind=true then aW f.kind v.num xs v.ws else .mk v.num xs v.ws).getD bO).cells,.bool ((cM n v.args (aB f v.num) 0).map fun xs=>if bc f.kind=true then aW f.kind v.num xs v.ws else .mk v.num xs v.ws).isSome]),m)) (fun x=>v.args.length-x.1)
   (fun x=>x.1≤v.args.length∧x.2.length=x.1∧cM n v.args (aB f v.num) 0=(cM n (v.args.drop x.1) (aB f v.num) x.1).map (x.2++ ·)) (0,[]) ?_ ?_ ?_ ?_ ?_
  ·simp[xA,wA,wR,xR,hw0]
  ·simp
  ·simp
  ·intro x;simp[Tryz.f159,a159,reg159,loop159,draw159,dok159]
  ·rintro⟨i,xs⟩ ⟨hi,hxl,hnl⟩ hrec
   simp only at hi hxl hnl⊢
   have hcl:=AD v.ws xs
   have hwc:=CM m.rw.length v.ws xs
   by_cases hlt:i<v.args.length
   ·have w2:IntKind.i64.wrap (i+1)=i+1:=al _ (by omega)
    have h3:(i+1)*3≤v.args.length*3:=by omega
    have hiP:i<P.length:=by omega
    have hgi:=hPa i hiP
    have hk01:¬f.kind=0∧¬f.kind=1:=by
     refine⟨fun h=> ?_,fun h=> ?_⟩
     ·have:=(eT hsp).2.2 (.inl h);omega
     ·have:=(eT hsp).2.2 (.inr h);omega
    have hgs:=eR hf hk01.1 hk01.2 hsp i hlt
    rw[Nat.zero_add] at hgs
    have he:=H v.args[i] (List.getElem_mem hlt) (aB f v.num i) hgs
    rw[Ak hlt] at hnl
    unfold BM at he
    cases hc:ez n v.args[i] (aB f v.num i) with
    |none=>
     clear hrec
     rw[hc] at hnl he
     rw[hnl]
     simp[bO] at he
     simp[round,Tryz.f159,a159,reg159,loop159,draw159,dok159,hlt,w2,h3,hiP,show(i+1)*3≤P.length*3 by omega,hgi,he,bO]
    |some y=>
     rw[hc] at hnl he
     simp at he
     have hwc2:∀nb x,closed nb (m.rw.length+((wR v.ws).length+x)) (wA m.rw.length v.ws)=true:=fun nb x=>AV _ _ _ _
     have hwR:=C4 v.ws
     have hin:cM n v.args (aB f v.num) 0=(cM n (v.args.drop (i+1)) (aB f v.num) (i+1)).map ((xs++[y])++ ·):=by
      rw[hnl]
      simp only[Option.bind_some,Option.map_map]
      congr 1
      funext z
      simp
     cases xs with
     |nil=>
      have hi0:i=0:=by simpa using hxl.symm
      subst hi0
      have b3:=Val.at_cellsL v.args 0 hlt
      have b1:=Fun.at_cellsL P 0 hiP
      rw[hgi] at b1
      simp at b1 b3
      simp[round,Tryz.f159,a159,reg159,loop159,draw159,dok159,hlt,w2,h3,hiP,show 3≤P.length*3 by omega,show 3≤v.args.length*3 by omega,hgi,b1,b3,he,xA,xR,aF,aD,aK,hwR,hwc2]
      refine hrec (1,[y]) _ _ ?_ ?_ ?_ ?_
      ·simp;omega
      ·exact⟨by simp only;omega,rfl,by rw[hin];rfl⟩
      ·simp[xA,xR,Val.cellsL]
      ·simp
     |cons a r=>
      have hr:r.length+1=i:=by simpa using hxl
      simp[round,Tryz.f159,a159,reg159,loop159,draw159,dok159,hlt,w2,h3,hiP,show(i+1)*3≤P.length*3 by omega,hgi,he,xA,xR,aF,aD,aK,hwR,hwc2,show(r.length+1+1)*56≤70368744177664 by omega,show r.length+1+1≤70368744177664 by omega]
      refine hrec (i+1,a::r++[y]) _ _ ?_ ?_ ?_ ?_
      ·simp;omega
      ·exact⟨by simp only;omega,by simp;omega,by rw[hin]⟩
      ·simp[xA,xR,Val.cellsL,Val.cellsL_append]
      ·simp
   ·clear hrec
    have hie:i=v.args.length:=by omega
    subst hie
    rw[List.drop_eq_nil_of_le (Nat.le_refl _),cM,Option.map_some,List.append_nil] at hnl
    rw[hnl]
    have hnum:=eT hsp
    cases hset:bc f.kind
    ·have hwt:wtd f.kind=false:=by
      cases h:wtd f.kind
      ·rfl
      ·unfold bc at hset
       rw[h,Bool.or_true] at hset
       cases hset
     have hwe:=hnum.2.1 hwt
     rw[hset] at hst
     by_cases hx0:xs.length=0
     ·have hx1:v.args.length=0:=by omega
      have hxe:xs=[]:=List.eq_nil_of_length_eq_zero hx0
      subst hxe
      simp[round,Tryz.f159,a159,reg159,loop159,draw159,dok159,hst,xA,wA,xR,wR,hwe,hx1]
     ·have hx1:¬v.args.length=0:=by omega
      have hall:List.take (xs.length*3) (Val.cellsL xs)=Val.cellsL xs:=List.take_of_length_le (by simp)
      simp[round,Tryz.f159,a159,reg159,loop159,draw159,dok159,hst,xA,wA,xR,wR,hwe,hx0,hx1,hxl,hall]
      rw[←hxl]
      exact hall
    ·rw[hset] at hst
     have hss:=(fO hset).1 hsp
     have hnn:=lP n v.args _ 0 xs hs'.2 (by have:=Val.nodes_eq v;omega) hnl
     have hvn:=Val.nodes_eq v
     have hwk3:wtd f.kind=true→v.ws.length=xs.length∧(∀w,w∈v.ws→1≤w)∧v.ws.sum≤1048576:=fun h=>by
      rw[if_pos h] at hss
      have h2:=(ee v.ws 0 (by omega)).1 hss.2.1
      exact⟨by omega,h2.1,by omega⟩
     have hk7:f.kind=7→0<xs.length:=fun h=>by
      have hw7:wtd f.kind=true:=by rw[h];rfl
      rw[if_pos hw7] at hss
      have:=hss.2.2.2
      omega
     by_cases hx0:xs.length=0
     ·have hx1:v.args.length=0:=by omega
      have hxe:xs=[]:=List.eq_nil_of_length_eq_zero hx0
      subst hxe
      have hwe:v.ws=[]:=by
       cases h:wtd f.kind
       ·exact hnum.2.1 h
       ·exact List.eq_nil_of_length_eq_zero (by rw[(hwk3 h).1];rfl)
      have hk56:f.kind=5∨f.kind=6:=by
       rcases tk hset with h|h|h
       ·exact .inl h
       ·exact .inr h
       ·have:=hk7 h;simp at this
      have he0:=zY f.kind v.num hk56
      simp at he0
      have hmv:aW f.kind v.num [] v.ws= .mk v.num [] []:=by
       unfold aW aE
       rw[hwe]
       rcases hk56 with h|h<;>rw[h]<;>rfl
      simp[hmv]
      simp[round,Tryz.f159,a159,reg159,loop159,draw159,dok159,hst,xA,wA,xR,wR,hwe,hx1,he0]
     ·have hx1:0<xs.length:=by omega
      have hmw:mwA f.kind m.rw.length (.mk v.num xs v.ws)=wA m.rw.length v.ws:=by
       unfold mwA wA
       cases h:wtd f.kind
       ·rw[hnum.2.1 h];simp
       ·have:=(hwk3 h).1
        rw[if_neg (by simp),if_neg (by omega)]
        rfl
      have he:=Ae f.kind (.mk v.num xs v.ws) (m.rw.length+(wR v.ws).length) m.rw.length hset (by rw[Val.nodes_eq,Val.args_mk];omega) (by rw[bj];exact⟨hs'.1,hnn.2⟩) hwk3 hk7
       ⟨m.bx++[f.cells,v.cells,[.int .i64 0,.nils,.nils],[.int .i64 v.num,xA (m.rw.length+(wR v.ws).length) xs,wA m.rw.length v.ws]],m.rw++(wR v.ws++xR xs)⟩
       (by simp[aF,xR,show ¬xs=[] from fun h=>hx0 (by rw[h];rfl)])
       (fun h=>by
        have h1:¬v.ws.length=0:=by rw[(hwk3 h).1];omega
        have:=aF m.rw (wR v.ws++xR xs) 0
        rw[Nat.add_zero] at this
        simp only[this]
        unfold wR
        rw[if_neg h1]
        rfl)
      rw[hmw] at he
      have hxx:xA (m.rw.length+(wR v.ws).length) xs= .sl (m.rw.length+(wR v.ws).length) (xs.length*3) 0 xs.length:=by unfold xA;rw[if_neg hx0]
      simp[hxx,hxl] at he
      simp[round,Tryz.f159,a159,reg159,loop159,draw159,dok159,hst,hxx,he,hxl]
theorem Cu(n:Int)(hn0:0≤n)(hn1:n≤1000000)(N:Nat):∀(v:Val),v.nodes≤N→v.nodes≤1000000→aP v→Av n v:=by
 induction N with
 |zero=>intro v hN;have:=v.nodes_pos;omega
 |succ N ih=>
 intro v hN hb hs
 have hs':=(bj v▸hs).2
 exact zC n hn0 hn1 v hb hs fun u hu=>ih u (by have:=Val.nodes_arg hu;omega) (by have:=Val.nodes_arg hu;omega) (cq hs' hu)
end AE
end Go.Proofs.YtmfdpijmholedaaGreatDoor
