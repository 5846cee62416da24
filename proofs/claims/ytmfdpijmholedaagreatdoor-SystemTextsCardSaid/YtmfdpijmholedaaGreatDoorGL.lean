/- system.Parse and system.String are answered: the configuration of the laws. -/
import Derived.Test.YtmfdpijmholedaaGreatDoorGK
import Derived.Test.YtmfdpijmholedaaGreatDoorGJ
import Derived.Test.YtmfdpijmholedaaGreatDoorGI
import Derived.Test.YtmfdpijmholedaaGreatDoorGF
import Derived.Test.YtmfdpijmholedaaGreatDoorGH
set_option linter.unusedVariables false
set_option linter.unusedSimpArgs false
namespace Go.Proofs.YtmfdpijmholedaaGreatDoor
namespace AE
open Go
theorem xZ(o:Option (Fun×List Val)×Int):closed 0 0 (cS o)=true:=by
 obtain⟨o,e⟩:=o
 cases o<;>simp[cS,closed,bK]
theorem Ca(t:List UInt8)(m:Mem):aV C0 aS [.str t] m (.ret (cS (jF t)),m):=by
 by_cases hb:40000<t.length
 ·have hb':(40000:Int)<t.length:=by omega
  have hp:jF t=(none,2):=by unfold jF;rw[if_pos hb]
  rw[hp]
  refine uA (.inl rfl) (fn:=Tryz.f19) (by rw[ay];exact Tryz.func19) rfl (by rw[ae];rfl) (by rw[ae];rfl) (by decide) (by simp[Tryz.f19]) ?_
  show fG C0.P (C0.ann.keep 19) _ m (ak C0 19 _ _ _)=_
  simp[Tryz.f19,a19,reg19,loop19,draw19,dok19,hb',cS]
 ·have h:=Cd t (by omega)
  have h':∀l,∃y:List Nat×(Ex×Mem)×A×Mem,l4 C0.P (ak C0 aS 140) (ak C0 dI 27) va Tryz.f19.results.toList pP (t.length+2) [.str t] ⟨[],[]⟩ l=some y∧(∀z∈y.1,z=l)∧bC C0.P false ⟨[],[]⟩ (.ret y.2.2.1) y.2.2.2=some (.ret (cS (jF t)),⟨[],[]⟩):=fun l=>by
   obtain⟨ls,x,b,m8,h1,h2,h3⟩:=h l
   exact⟨(ls,x,b,m8),h1,h2,h3⟩
  obtain⟨y,hy⟩:=Classical.axiomOfChoice h'
  refine eO (m1:=⟨[],[]⟩) ok0.gl rfl (xZ _) ?_ m
  exact vj ok0 (f:=aS) (nt:=140) (nth:=27) (p:=pP) (fun c s x h=>nK ok0 _ _ _ _ _ h) (fun c s x h=>nK ok0 _ _ _ _ _ h) (call:=va) (fun args m r h=>u6 ok0 _ _ _ _ h)
   (by rw[ay];exact Tryz.func19) Bs rfl (by decide) (by decide) (by rw[ay];exact Tryz.func98) Bj rfl (by decide) rfl (by decide) Ev GI (by decide) rfl (args:=[.str t]) (by simp) (n:=t.length+2) (ls:=fun l=>(y l).1) (x:=fun l=>(y l).2.1) (b:=fun l=>(y l).2.2.1) (m8:=fun l=>(y l).2.2.2)
   (fun l=>(hy l).1) (fun l=>(hy l).2.1) (fun l=> .inl ⟨false,(hy l).2.2⟩)
open Classical in
noncomputable def vu(t:List UInt8):List A→Mem→Option (Res×Mem):=fun args m=>if args=[.str t] then some (.ret (cS (jF t)),m) else none
theorem zJ(t:List UInt8)(m:Mem):vu t [.str t] m=some (.ret (cS (jF t)),m):=by unfold vu;rw[if_pos rfl]
theorem CO{t:List UInt8}{args:List A}{m:Mem}{r:Res×Mem}(h:vu t args m=some r):args=[.str t]∧r=(.ret (cS (jF t)),m):=by
 unfold vu at h
 split at h
 ·rename_i ha;exact⟨ha,(Option.some.inj h).symm⟩
 ·cases h
open Classical in
noncomputable def vi(f:Fun)(vs:List Val):List A→Mem→Option (Res×Mem):=fun args m=>if args=[.agg (eG f (.isl false vs.length (Val.cellsL vs)))] then some (.ret (.tup [.str (mI f vs).1,.int .i64 (mI f vs).2]),m) else none
theorem Ag(f:Fun)(vs:List Val)(m:Mem):vi f vs [.agg (eG f (.isl false vs.length (Val.cellsL vs)))] m=some (.ret (.tup [.str (mI f vs).1,.int .i64 (mI f vs).2]),m):=by unfold vi;rw[if_pos rfl]
theorem CS{f:Fun}{vs:List Val}{args:List A}{m:Mem}{r:Res×Mem}(h:vi f vs args m=some r):args=[.agg (eG f (.isl false vs.length (Val.cellsL vs)))]∧r=(.ret (.tup [.str (mI f vs).1,.int .i64 (mI f vs).2]),m):=by
 unfold vi at h
 split at h
 ·rename_i ha;exact⟨ha,(Option.some.inj h).symm⟩
 ·cases h
noncomputable def pC(t:List UInt8)(f:Fun)(vs:List Val)(g:FuncId):Option (List A→Mem→Option (Res×Mem)):=
 if g=aS then some (vu t) else if g=aR then some (vi f vs) else C0.ext g
noncomputable def C2(t:List UInt8)(f:Fun)(vs:List Val):Cfg:={P:=Tryz.prog,gl:=gl0,ann:=ann,ext:=pC t f vs}
section
variable (t:List UInt8) (f:Fun) (vs:List Val)
@[simp] theorem Lq:(C2 t f vs).P=Tryz.prog:=_root_.id rfl
@[simp] theorem E7:(C2 t f vs).ann=ann:=_root_.id rfl
@[simp] theorem C2_gl:(C2 t f vs).gl=gl0:=_root_.id rfl
theorem HQ(g:FuncId)(h:(g==aS||g==aR)=false)(h0:C0.ext g=none):(C2 t f vs).ext g=none:=by
 simp only[Bool.or_eq_false_iff,beq_eq_false_iff_ne,ne_eq] at h
 show pC t f vs g=none
 unfold pC
 rw[if_neg h.1,if_neg h.2]
 exact h0
theorem ok2(hf:f.nodes≤10000)(hb:Val.nodesL vs≤100000)(hs:∀v∈vs,aP v):CfgOk (C2 t f vs) where
 gl:=okb.gl
 mixed:=gV
 dok:=okb.dok
 ext:=fun g h he args m r hr=>by
  have he':pC t f vs g=some h:=he
  unfold pC at he'
  split at he'
  ·rename_i hg
   cases he'
   subst hg
   obtain⟨rfl,rfl⟩:=CO hr
   have:=Ca t m
   unfold aV at this⊢
   rw[ay,lS] at this
   exact this
  split at he'
  ·rename_i hg
   cases he'
   subst hg
   obtain⟨rfl,rfl⟩:=CS hr
   have:=zX f vs hf hb hs m
   unfold aV at this⊢
   rw[ay,lS] at this
   exact this
  ·have:=ok0.ext g h he' args m r hr
   unfold aV at this⊢
   rw[ay,lS] at this
   exact this
theorem le2:ExtLe C0 (C2 t f vs) where
 none:=fun g h=>by
  by_cases h1:g=aS
  ·subst h1;rw[mt] at h;cases h
  by_cases h2:g=aR
  ·subst h2;rw[ku] at h;cases h
  show pC t f vs g=none
  unfold pC
  rw[if_neg h1,if_neg h2]
  exact h
 some:=fun g k h args m r hr=>by
  by_cases h1:g=aS
  ·subst h1
   rw[mt] at h
   cases h
   cases hr
  by_cases h2:g=aR
  ·subst h2
   rw[ku] at h
   cases h
   cases hr
  have h3:(C2 t f vs).ext g=some k:=by
   show pC t f vs g=some k
   unfold pC
   rw[if_neg h1,if_neg h2]
   exact h
  rw[ai,h3]
  exact hr
theorem up2{g:FuncId}{args:List A}{m:Mem}{r:Res×Mem}(h:ai C0 g args m=some r):ai (C2 t f vs) g args m=some r:=(qg C0 (C2 t f vs) (by rw[ay];rfl) (by rw[lS];rfl) (by rw[ae];rfl) (le2 t f vs)).1 _ _ _ _ h
theorem CK(m:Mem):ai (C2 t f vs) 19 [.str t] m=some (.ret (cS (jF t)),m):=by
 have h:(C2 t f vs).ext 19=some (vu t):=by
  show pC t f vs aS=_
  unfold pC
  rw[if_pos rfl]
 rw[ai,h]
 exact zJ t m
theorem zI(m:Mem):ai (C2 t f vs) 17 [.agg (eG f (.isl false vs.length (Val.cellsL vs)))] m=some (.ret (.tup [.str (mI f vs).1,.int .i64 (mI f vs).2]),m):=by
 have h:(C2 t f vs).ext 17=some (vi f vs):=by
  show pC t f vs aR=_
  unfold pC
  rw[if_neg (by decide),if_pos rfl]
 rw[ai,h]
 exact Ag f vs m
end
end AE
end Go.Proofs.YtmfdpijmholedaaGreatDoor
/- The reference's digits, numbers and joined strings; evaluated. -/
set_option linter.unusedVariables false
set_option linter.unusedSimpArgs false
namespace Go.Proofs.YtmfdpijmholedaaGreatDoor
namespace AE
open Go
theorem Cl(k:Nat)(h:k≤9):(Utf8.encode (48+k:Int)).data.toList=[UInt8.ofNat (48+k)]:=by
 have:k=0∨k=1∨k=2∨k=3∨k=4∨k=5∨k=6∨k=7∨k=8∨k=9:=by omega
 rcases this with rfl|rfl|rfl|rfl|rfl|rfl|rfl|rfl|rfl|rfl<;>decide
theorem rD:∀(N u:Nat),u≤N→u<10000000→∀m:Mem,ai C0 53 [.int .i64 u] m=some (.ret (.str (Lib.decDigits u)),m)
 |N,u,hN,hu,m=>by
  rw[ab C0 (aj _ (by decide)) (by rw[ay];exact Tryz.func53) rfl (by rw[ae];rfl) (by rw[ae];rfl) (by decide) (by simp[Tryz.f53])]
  have h1:(u:Int).tmod 10=(u % 10:Nat):=by rw[Int.tmod_eq_emod_of_nonneg (by omega)];omega
  have h2:(u:Int).tdiv 10=(u / 10:Nat):=by rw[Int.tdiv_eq_ediv_of_nonneg (by omega)];omega
  have hk:u % 10≤9:=by omega
  have w1:IntKind.i64.wrap (48+(u % 10:Nat))=48+(u % 10:Nat):=al _ (by omega)
  have w2:IntKind.u8.wrap (48+(u % 10:Nat))=48+(u % 10:Nat):=Bx _ (by omega)
  have hf:=Cl (u % 10) hk
  have hm:((u % 10:Nat):Int)=(u:Int) % 10:=by omega
  have hd:((u / 10:Nat):Int)=(u:Int) / 10:=by omega
  by_cases hl:u<10
  ·have hl':(u:Int)<10:=by omega
   have h0:u % 10=u:=by omega
   rw[Lib.decDigits,dif_pos hl]
   rw[h0] at h1 w1 w2 hf
   simp[Tryz.f53,a53,reg53,h1,w1,w2,hl',hf]
  ·have hl':¬(u:Int)<10:=by omega
   obtain⟨N,rfl⟩:∃k,N=k+1:=⟨N-1,by omega⟩
   have e1:=rD N (u / 10) (by omega) (by omega)
   have hlen:=wE 6 (u / 10) (by omega)
   have w3:IntKind.i64.wrap ((u / 10:Nat):Int)=(u / 10:Nat):=al _ (by omega)
   rw[Lib.decDigits,dif_neg hl]
   generalize u % 10=a at h1 w1 w2 hf hm
   generalize u / 10=b at h2 e1 hd hlen w3
   simp[Tryz.f53,a53,reg53,h1,h2,w1,w2,w3,hl',hf,e1]
   try (rw[if_pos (by omega)];simp[Tryz.f53,a53,reg53,h1,h2,w1,w2,w3,hl',hf,e1])
theorem mq(k:Int)(h0:0≤k)(h1:k<10000000)(m:Mem):ai C0 53 [.int .i64 k] m=some (.ret (.str (Lib.itoa k)),m):=by
 obtain⟨n,rfl⟩:∃n:Nat,k=n:=⟨k.toNat,by omega⟩
 rw[rD n n (Nat.le_refl _) (by omega)]
 unfold Lib.itoa
 rw[if_neg (by omega)]
 rfl
theorem Gm{s:RS}(h:gH s.1):(dA s).1.length≤1000000∧(∀b,b∈(dA s).1→be b=true)∧∃c r,(dA s).1=c::r:=by
 unfold dA
 split
 ·rename_i c r q he
  obtain⟨c',r',e,hl,hd⟩:=h (c::r) (by rw[he];exact List.mem_cons_self)
  cases e
  split
  ·rename_i hc
   exact⟨hl,hd hc,c,r,rfl⟩
  ·exact⟨by simp,fun b hb=>by simp at hb;subst hb;rfl,48,[],rfl⟩
 ·exact⟨by simp,fun b hb=>by simp at hb;subst hb;rfl,48,[],rfl⟩
set_option maxHeartbeats 1000000 in
theorem A4(id:Nat)(s:RS)(m:Mem)(hl:s.1.length≤1000000)(hk:gH s.1)(hbx:m.bx[id]? =some (rd s)):ai C0 188 [.ptr id 0] m=some (.ret (.int .i64 (fh s).1),⟨m.bx.set id (rd (fh s).2),m.rw⟩):=by
 have hid:id<m.bx.length:=(List.getElem?_eq_some_iff.1 hbx).1
 rw[ab C0 (aj _ (by decide)) (by rw[ay];exact Tryz.func188) rfl (by rw[ae];rfl) (by rw[ae];rfl) (by decide) (by simp[Tryz.f188])]
 have e1:=nF id s m hl hk hbx
 obtain⟨h1,h2,c,r,h3⟩:=Gm hk
 have e2:=o9 (dA s).1 h1 h2
 unfold fh
 cases hd:dA s with
 |mk d q=>
 obtain⟨l,b⟩:=q
 rw[hd] at e1 e2 h3
 simp only at h3
 subst h3
 simp at e1 e2
 by_cases hr:r.length=0
 ·have hr0:r=[]:=List.eq_nil_of_length_eq_zero hr
  subst hr0
  cases b<;>simp[Tryz.f188,a188,reg188,hid,e1,e2,setCells,av]
 ·have hr1:(1:Int)<r.length+1:=by omega
  have hr2:0<r.length:=by omega
  have hc:=dX c 48
  simp at hc
  cases b
  ·by_cases h48:c=48
   ·subst h48
    simp[Tryz.f188,a188,reg188,hid,e1,e2,hr1,hr2,setCells,av]
   ·have:¬(c.toNat:Int)=48:=fun h=>h48 (hc.1 h)
    simp[Tryz.f188,a188,reg188,hid,e1,e2,hr1,hr2,h48,this,setCells,av]
  ·simp[Tryz.f188,a188,reg188,hid,e1,e2,setCells,av]
theorem BC{l:List (List UInt8)}{i:Nat}(h:i<l.length):((bv l).drop i).take 1=[.str l[i]]:=by
 unfold bv
 rw[←List.map_drop,List.drop_eq_getElem_cons h]
 rfl
set_option maxHeartbeats 1000000 in
theorem uO(l:List (List UInt8))(id:Nat)(hl:cy l+2*l.length≤1000000000)(m:Mem)(hR:m.rw[id]? =some ⟨9,bv l⟩):ai C0 137 [.sl id l.length 0 l.length] m=some (.ret (.str (bR l)),m):=by
 have hid:id<m.rw.length:=(List.getElem?_eq_some_iff.1 hR).1
 have hR2:=(List.getElem?_eq_some_iff.1 hR).2
 rw[ab C0 (aj _ (by decide)) (by rw[ay];exact Tryz.func137) rfl (by rw[ae];rfl) (by rw[ae];rfl) (by decide) (by simp[Tryz.f137])]
 simp[Tryz.f137,a137,reg137,loop137]
 refine aC (fun i:Nat=>⟨[(3,.str (bR (l.take i))),(6,.sl id l.length 0 l.length),(7,.int .i64 l.length),(8,.int .i64 i)],m⟩)
  (fun i=>some (.ret (.str (bR l)),m)) (fun i=>l.length-i) (fun i=>i≤l.length) 0 ?_ ?_ ?_ ?_ ?_
 ·simp[bR]
 ·simp
 ·simp
 ·intro x;simp[Tryz.f137,a137,reg137,loop137]
 ·intro i hi hrec
  by_cases hlt:i<l.length
  ·have w2:IntKind.i64.wrap (i+1)=i+1:=al _ (by omega)
   have h3:i+1≤l.length:=by omega
   have hat:=BC hlt
   have hj:=rW l i
   have hm:=gk (List.getElem_mem hlt)
   have htk:l.take (i+1)=l.take i++[l[i]]:=List.take_succ_eq_append_getElem hlt
   by_cases hi0:i=0
   ·subst hi0
    simp at hat
    have hnx:bR (l.take 1)=l[0]:=by rw[htk];rfl
    simp[round,Tryz.f137,a137,reg137,loop137,hlt,w2,h3,hat,hid,hR2,aA,bR]
    repeat (rw[if_pos (by omega)];simp[round,Tryz.f137,a137,reg137,loop137,hlt,w2,h3,hat,hid,hR2,aA,bR])
    refine hrec 1 _ _ ?_ ?_ ?_ ?_
    ·omega
    ·omega
    ·simp[hnx]
    ·simp
   ·have hi1:0<i:=by omega
    have hnx:bR (l.take (i+1))=bR (l.take i)++([44,32]++l[i]):=by
     rw[htk]
     exact nf _ _ fun h=>by
      have:=congrArg List.length h
      rw[List.length_take,List.length_nil] at this
      omega
    generalize bR (l.take i)=J at*
    simp[round,Tryz.f137,a137,reg137,loop137,hlt,w2,h3,hat,hid,hR2,hi1,aA]
    repeat (rw[if_pos (by omega)];simp[round,Tryz.f137,a137,reg137,loop137,hlt,w2,h3,hat,hid,hR2,hi1,aA])
    refine hrec (i+1) _ _ ?_ ?_ ?_ ?_
    ·omega
    ·omega
    ·simp[hnx]
    ·simp
  ·clear hrec
   rw[List.take_of_length_le (by omega)]
   simp[round,Tryz.f137,a137,reg137,loop137,hlt]
theorem AJ(m:Mem):ai C0 137 [.nils] m=some (.ret (.str []),m):=by
 rw[ab C0 (aj _ (by decide)) (by rw[ay];exact Tryz.func137) rfl (by rw[ae];rfl) (by rw[ae];rfl) (by decide) (by simp[Tryz.f137])]
 simp[Tryz.f137,a137,reg137,loop137]
 rw[aG]
 simp[round,Tryz.f137,a137,reg137,loop137]
theorem dh{l:List Nat}{M L L':List (List A)}{i k:Nat}{x x' y y':List A}{R J J':List Row}{tm:List (Nat×A)}(hJ:J'.all (fun r=>r.cs.all (closed 0 0))=true)(hx:x'.all (closed (M.length+L.length) (R.length+J'.length))=true)(hy:y'.all (closed (M.length+L.length) (R.length+J'.length))=true)(hL:L.length≤L'.length)(hl:l.all (fun t=>closed (M.length+L.length) (R.length+J'.length) (lk t tm))=true)(hc:(L'.take L.length).all (fun cs=>cs.all (closed (M.length+L.length) (R.length+J'.length)))=true):
  endRound (some l) ⟨(M.set i x).set k y++L,R++J⟩ ⟨tm,⟨(M.set i x').set k y'++L',R++J'⟩⟩=some ⟨prune (some l) tm,⟨(M.set i x').set k y'++L'.take L.length,R++J'⟩⟩:=by
 refine dK (B:=(M.set i x').set k y'++L'.take L.length) (J:=L'.drop L.length) (by simp) (by simp;omega) (by simpa using List.all_eq_true.1 hl) (fun j hj=> ?_) (fun j hj=> ?_)
 ·simp only[List.length_append,List.length_set] at hj⊢
  by_cases h:j<M.length
  ·rw[List.getElem?_append_left (by simpa using h),List.getElem?_append_left (by simpa using h)]
   by_cases hk:k=j
   ·subst hk;right;exact⟨y',by simp[h],hy⟩
   ·by_cases hi:i=j
    ·subst hi;right;exact⟨x',by simp[h,hk],hx⟩
    ·left;simp[hk,hi]
  ·right
   have:=jT (B:=(M.set i x').set k y') hc (by simpa using h) (by simpa using hj) hL
   simpa using this
 ·by_cases h:j<R.length
  ·left;rw[List.getElem?_append_left h,List.getElem?_append_left h]
  ·right
   have hi':j<(R++J').length:=hj
   simp only[List.length_append] at hj
   refine⟨(R++J')[j],List.getElem?_eq_getElem hi', ?_⟩
   rw[List.getElem_append_right (by omega)]
   exact gX (List.all_eq_true.1 hJ _ (List.getElem_mem (l:=J') (n:=j-R.length) (by omega)))
theorem dt{l:List Nat}{M L L':List (List A)}{i k:Nat}{x x' y y':List A}{R J':List Row}{tm:List (Nat×A)}(hJ:J'.all (fun r=>r.cs.all (closed 0 0))=true)(hx:x'.all (closed (M.length+L.length) (R.length+J'.length))=true)(hy:y'.all (closed (M.length+L.length) (R.length+J'.length))=true)(hL:L.length≤L'.length)(hl:l.all (fun t=>closed (M.length+L.length) (R.length+J'.length) (lk t tm))=true)(hc:(L'.take L.length).all (fun cs=>cs.all (closed (M.length+L.length) (R.length+J'.length)))=true):
  endRound (some l) ⟨(M.set i x).set k y++L,R⟩ ⟨tm,⟨(M.set i x').set k y'++L',R++J'⟩⟩=some ⟨prune (some l) tm,⟨(M.set i x').set k y'++L'.take L.length,R++J'⟩⟩:=by
 have:=dh (J:=[]) (x:=x) (y:=y) (i:=i) (k:=k) hJ hx hy hL hl hc
 simpa using this
theorem jO{M:List (List A)}{i k:Nat}{x x' y y':List A}{R J:List Row}{b:List (List A)}(hx:x'.all (closed M.length (R.length+J.length))=true)(hy:y'.all (closed M.length (R.length+J.length))=true)(hJ:J.all (fun r=>r.cs.all (closed 0 0))=true):
  bC Tryz.prog true ⟨(M.set i x).set k y,R⟩ (.ret (.tup [])) ⟨(M.set i x').set k y'++b,R++J⟩=some (.ret (.tup []),⟨(M.set i x').set k y',R++J⟩):=by
 refine sT _ _ _ _ _ _ (by simp) (fun j hj=> ?_) (fun j hj=> ?_) (by simp[Res.val])
 ·simp only[List.length_set] at hj
  by_cases hk:k=j
  ·subst hk;right;exact⟨y',by simp[hj],by simpa using hy⟩
  ·by_cases hi:i=j
   ·subst hi;right;exact⟨x',by simp[hj,hk],by simpa using hx⟩
   ·left;simp[hk,hi]
 ·by_cases h:j<R.length
  ·left;simp only;rw[List.getElem?_append_left h]
  ·right
   simp only[List.length_append] at hj
   refine⟨J[j-R.length], ?_, ?_⟩
   ·rw[List.getElem?_append_right (by omega),List.getElem?_eq_getElem]
   ·exact gX (List.all_eq_true.1 hJ _ (List.getElem_mem (l:=J) (n:=j-R.length) (by omega)))
theorem pF{M:List (List A)}{i k:Nat}{x x' y y':List A}{R:List Row}{b:List (List A)}(hx:x'.all (closed M.length R.length)=true)(hy:y'.all (closed M.length R.length)=true):
  bC Tryz.prog true ⟨(M.set i x).set k y,R⟩ (.ret (.tup [])) ⟨(M.set i x').set k y'++b,R⟩=some (.ret (.tup []),⟨(M.set i x').set k y',R⟩):=by
 have:=jO (J:=[]) (M:=M) (i:=i) (k:=k) (x:=x) (y:=y) (R:=R) (b:=b) (x':=x') (y':=y') (by simpa using hx) (by simpa using hy) rfl
 simpa using this
@[simp] theorem II(nb nr:Nat)(s:RS):(rd s).all (closed nb nr)=true:=by simp[rd]
def ROk(id:Nat)(f:Fun)(rv:RS→RV):Prop:=∀(s:RS) (m:Mem),gH s.1→s.1.length≤1000000→m.bx[id]? =some (rd s)→ai C0 158 [.agg f.cells,.ptr id 0] m=some (.ret (.agg (rv s).1.cells),⟨m.bx.set id (rd (rv s).2),m.rw⟩)
structure ElS where
 more:Bool
 n:Nat
 a:List Val
 ws:List Int
 s:RS
def ElS.out(rv:RS→RV)(w:Bool)(x:ElS):RV:=if x.more then dy rv w x.n x.a x.ws x.s else(.mk 0 x.a x.ws,x.s)
theorem mo{t:List UInt8}{s:RS}(h:s.1.head? =some t):(aq t s).1.length<s.1.length∧(aq t s).2=s.2:=by
 unfold aq
 rw[if_pos h]
 obtain⟨l,b⟩:=s
 cases l with
 |nil=>cases h
 |cons u q=>exact⟨by simp,rfl⟩
set_option maxHeartbeats 16000000 in
theorem CG(id iv:Nat)(hne:¬id=iv)(f:Fun)(hl1:f.args.length=1)(rv:RS→RV)(hsuf:CE rv)(f0:0<f.args.length)(hval:ROk id f.args[0] rv)(w:Bool)(hw:wtd f.kind=w)(s:RS)(hk:gH s.1)(hl:s.1.length≤1000000)(M:List (List A))(R:List Row)(hid:id<M.length)(hiv:iv<M.length):
  ai C0 189 [.agg f.cells,.ptr id 0,.ptr iv 0] ⟨(M.set id (rd s)).set iv [.int .i64 0,.nils,.nils],R⟩=
   some (.ret (.tup []),⟨(M.set id (rd (kS rv w s).2)).set iv [.int .i64 0,xA R.length (kS rv w s).1.args,lvW w R.length (kS rv w s).1.args (kS rv w s).1.ws],R++lvR w (kS rv w s).1.args (kS rv w s).1.ws⟩):=by
 have hne':¬iv=id:=fun h=>hne h.symm
 have c1:∀x y z:List A,((M.set id x).set iv y).set id z=(M.set id z).set iv y:=fun x y z=>by rw[List.set_comm _ _ hne,List.set_set,List.set_comm _ _ hne']
 have c2:∀x y z:List A,((M.set id x).set iv y).set iv z=(M.set id x).set iv z:=fun x y z=>by rw[List.set_set]
 have gid:∀x y:List A,((M.set id x).set iv y)[id]? =some x:=fun x y=>by simp[hne',hid]
 have giv:∀x y:List A,((M.set id x).set iv y)[iv]? =some y:=fun x y=>by simp[hiv]
 have gid2:∀(x y:List A) (h:id<((M.set id x).set iv y).length),((M.set id x).set iv y)[id]'h=x:=fun x y h=>by simp[hne']
 have giv2:∀(x y:List A) (h:iv<((M.set id x).set iv y).length),((M.set id x).set iv y)[iv]'h=y:=fun x y h=>by simp
 have hidk:∀k,id<M.length+k:=fun k=>by omega
 have hivk:∀k,iv<M.length+k:=fun k=>by omega
 have b1:=Fun.at_cellsL f.args 0 f0
 have hwt:=jv f.kind
 rw[hw] at hwt
 simp at b1
 rw[ab C0 (aj _ (by decide)) (by rw[ay];exact Tryz.func189) rfl (by rw[ae];rfl) (by rw[ae];rfl) (by decide) (by simp[Tryz.f189])]
 have e0:=cG id [123] s ⟨(M.set id (rd s)).set iv [.int .i64 0,.nils,.nils]++[f.cells],R⟩ hl (by simp[ah,hid,gid,gid2])
 have k1:=hk.suffix (ap [123] s)
 have l1:=(ap [123] s).length_le
 have e1:=eX id [125] (aq [123] s) ⟨(M.set id (rd (aq [123] s))).set iv [.int .i64 0,.nils,.nils]++[f.cells],R⟩ (by omega) (by simp[ah,hid,gid,gid2])
 have e2:=cG id [125] (aq [123] s) ⟨(M.set id (rd (aq [123] s))).set iv [.int .i64 0,.nils,.nils]++[f.cells],R⟩ (by omega) (by simp[ah,hid,gid,gid2])
 unfold kS
 generalize aq [123] s=t at*
 simp[ad,hid,c1] at e0 e2
 by_cases h1:t.1.head? =some [125]
 ·simp[h1] at e1
  rw[if_pos h1]
  simp[Tryz.f189,a189,reg189,loop189,draw189,dok189,e0,e1,e2,xA,lvW,lvR,pF]
 simp[h1] at e1
 rw[if_neg h1]
 simp[Tryz.f189,a189,reg189,loop189,draw189,dok189,e0,e1]
 refine aC (fun x:ElS=>⟨[(1,.ptr id 0),(2,.ptr iv 0),(3,.ptr M.length 0),(6,.bool x.more)],
   ⟨(M.set id (rd x.s)).set iv [.int .i64 0,xA R.length x.a,lvW w R.length x.a x.ws]++[f.cells],R++lvR w x.a x.ws⟩⟩)
  (fun x=>some (.ret (.tup []),⟨(M.set id (rd (aq [125] (x.out rv w).2))).set iv [.int .i64 0,xA R.length (x.out rv w).1.args,lvW w R.length (x.out rv w).1.args (x.out rv w).1.ws],R++lvR w (x.out rv w).1.args (x.out rv w).1.ws⟩))
  (fun x=>2*x.s.1.length+(if x.more then 1 else 0))
  (fun x=>gH x.s.1∧(x.more=true→x.s.1.length<x.n)∧x.s.1.length≤1000000∧(x.more=true→x.a.length+x.s.1.length≤1000000)∧(w=true→x.ws.length=x.a.length)∧(w=false→x.ws=[])) ⟨true,t.1.length+1,[],[],t⟩ ?_ ?_ ?_ ?_ ?_
 ·simp[xA,lvW,lvR]
 ·simp[ElS.out]
 ·exact⟨k1,fun _=>by simp only;omega,by simp only;omega,fun _=>by simp;omega,fun _=>rfl,fun _=>rfl⟩
 ·intro x;simp[Tryz.f189,a189,reg189,loop189,draw189,dok189]
 ·rintro⟨more,n,a,ws,t⟩ ⟨ht,hn,htl,hal,hwt2,hwf⟩ hrec
  simp only at ht hn htl hal hwt2 hwf⊢
  obtain⟨tl,tb⟩:=t
  simp only at ht hn htl hal
  have hkeep:∀(x y x' y':List A) (J:List Row) (b:List (List A)),x'.all (closed M.length (R.length+J.length))=true→y'.all (closed M.length (R.length+J.length))=true→J.all (fun r=>r.cs.all (closed 0 0))=true→bC Tryz.prog true ⟨(M.set id x).set iv y,R⟩ (.ret (.tup [])) ⟨(M.set id x').set iv y'++b,R++J⟩=some (.ret (.tup []),⟨(M.set id x').set iv y',R++J⟩):=fun x y x' y' J b hx hy hJ=>jO hx hy hJ
  cases hgo:(more&& !tb) with
  |false=>
   clear hrec
   have ho:ElS.out rv w ⟨more,n,a,ws,(tl,tb)⟩=(.mk 0 a ws,(tl,tb)):=by
    unfold ElS.out
    cases more with
    |false=>rfl
    |true=>
     have:tb=true:=by simpa using hgo
     subst this
     exact fN _ _ _ rfl
   rw[ho]
   have e3:=cG id [125] (tl,tb) ⟨(M.set id (rd (tl,tb))).set iv [.int .i64 0,xA R.length a,lvW w R.length a ws]++[f.cells],R++lvR w a ws⟩ htl (by simp[ah,hid,gid,gid2])
   simp[ad,hid,hl1,c1] at e3
   cases a with
   |nil=>
    simp[xA,lvW,lvR] at e3
    cases more with
    |false=>simp[round,Tryz.f189,a189,reg189,loop189,draw189,dok189,hid,hiv,hidk,hivk,ah,ad,aF,aD,aL,aJ,c1,c2,gid,giv,gid2,giv2,b1,hl1,hwt,xA,lvW,lvR,e3,pF]
    |true=>
     have:tb=true:=by simpa using hgo
     subst this
     simp[round,Tryz.f189,a189,reg189,loop189,draw189,dok189,hid,hiv,hidk,hivk,ah,ad,aF,aD,aL,aJ,c1,c2,gid,giv,gid2,giv2,b1,hl1,hwt,xA,lvW,lvR,e3,pF]
   |cons x r=>
    cases w with
    |false=>
     simp[xA,lvW,lvR] at e3
     cases more with
     |false=>simp[round,Tryz.f189,a189,reg189,loop189,draw189,dok189,hid,hiv,hidk,hivk,ah,ad,aF,aD,aL,aJ,c1,c2,gid,giv,gid2,giv2,b1,hl1,hwt,xA,lvW,lvR,e3,jO]
     |true=>
      have:tb=true:=by simpa using hgo
      subst this
      simp[round,Tryz.f189,a189,reg189,loop189,draw189,dok189,hid,hiv,hidk,hivk,ah,ad,aF,aD,aL,aJ,c1,c2,gid,giv,gid2,giv2,b1,hl1,hwt,xA,lvW,lvR,e3,jO]
    |true=>
     simp[xA,lvW,lvR] at e3
     cases more with
     |false=>simp[round,Tryz.f189,a189,reg189,loop189,draw189,dok189,hid,hiv,hidk,hivk,ah,ad,aF,aD,aL,aJ,c1,c2,gid,giv,gid2,giv2,b1,hl1,hwt,xA,lvW,lvR,e3,jO]
     |true=>
      have:tb=true:=by simpa using hgo
      subst this
      simp[round,Tryz.f189,a189,reg189,loop189,draw189,dok189,hid,hiv,hidk,hivk,ah,ad,aF,aD,aL,aJ,c1,c2,gid,giv,gid2,giv2,b1,hl1,hwt,xA,lvW,lvR,e3,jO]
  |true=>
  rw[Bool.and_eq_true,Bool.not_eq_true'] at hgo
  obtain⟨rfl,rfl⟩:=hgo
  have hn:=hn rfl
  obtain⟨n,rfl⟩:∃k,n=k+1:=⟨n-1,by omega⟩
  have hal:=hal rfl
  have hvs:=(hsuf (tl,false)).length_le
  have hvk:gH (rv (tl,false)).2.1:=ht.suffix (hsuf (tl,false))
  have hws:=(jG w ws (rv (tl,false)).2)
  have hwk:gH (cb w ws (rv (tl,false)).2).2.1:=hvk.suffix hws
  have hwl:=hws.length_le
  have ho:ElS.out rv w ⟨true,n+1,a,ws,(tl,false)⟩=ElS.out rv w ⟨decide ((cb w ws (rv (tl,false)).2).2.1.head? =some [44]),n,a++[(rv (tl,false)).1],(cb w ws (rv (tl,false)).2).1,if(cb w ws (rv (tl,false)).2).2.1.head? =some [44] then aq [44] (cb w ws (rv (tl,false)).2).2 else(cb w ws (rv (tl,false)).2).2⟩:=by
   unfold ElS.out
   rw[if_pos rfl,dy,if_neg (by simp)]
   by_cases h:(cb w ws (rv (tl,false)).2).2.1.head? =some [44]
   ·simp[h]
   ·simp[h]
  have e2:=hval (tl,false) ⟨(M.set id (rd (tl,false))).set iv [.int .i64 0,xA R.length a,lvW w R.length a ws]++[f.cells],R++lvR w a ws⟩ ht htl (by simp[ah,hid,gid,gid2])
  rw[ho]
  simp only at hvs
  generalize (rv (tl,false)).1=x at*
  generalize (rv (tl,false)).2=u at*
  have hsz:(a.length+1)*56≤70368744177664∧a.length+1≤70368744177664∧(a.length+1)*8≤70368744177664:=by omega
  have hca:Val.cellsL (a++[x])=Val.cellsL a++x.cells:=by rw[Val.cellsL_append];simp[Val.cellsL]
  have hxa:xA R.length (a++[x])= .sl R.length ((a.length+1)*3) 0 (a.length+1):=by simp[xA]
  cases w with
  |false=>
   have hwe:ws=[]:=hwf rfl
   subst hwe
   have hlr:lvR false (a++[x]) []=[⟨47,Val.cellsL a++x.cells⟩]:=by simp[lvR,hca]
   have hwu:cb false [] u=([],u):=rfl
   rw[hwu] at hwk hwl⊢
   simp only at hwk hwl⊢
   have e5:=eX id [44] u ⟨(M.set id (rd u)).set iv [.int .i64 0,xA R.length (a++[x]),.nils]++[f.cells],R++lvR false (a++[x]) []⟩ (by omega) (by simp[ah,hid,gid,gid2])
   have e6:=cG id [44] u ⟨(M.set id (rd u)).set iv [.int .i64 0,xA R.length (a++[x]),.nils]++[f.cells],R++lvR false (a++[x]) []⟩ (by omega) (by simp[ah,hid,gid,gid2])
   rw[hxa,hlr] at e5 e6
   simp[ad,hid,hl1,c1] at e5 e6
   cases a with
   |nil=>
    simp[ad,hid,hl1,c1,xA,lvW,lvR] at e2 e5 e6
    by_cases h44:u.1.head? =some [44]
    ·have hlt:=mo h44
     simp[h44] at e5
     rw[if_pos h44]
     simp[round,Tryz.f189,a189,reg189,loop189,draw189,dok189,hid,hiv,hidk,hivk,ah,ad,aF,aD,aL,aJ,c1,c2,gid,giv,gid2,giv2,b1,hl1,hwt,xA,lvW,lvR,e2,e5,e6,dh,dt,h44]
     refine hrec ⟨true,n,[x],[],aq [44] u⟩ _ _ ?_ ?_ ?_ ?_
     ·simp;omega
     ·exact⟨hwk.suffix (ap _ _),fun _=>by simp only;omega,by simp only;omega,fun _=>by simp;omega,(fun h=>by cases h),fun _=>rfl⟩
     ·simp[hl1,xA,lvW,lvR,Val.cellsL,Val.cellsL_append]
     ·simp[h44,xA,lvW,lvR]
    ·simp[h44] at e5
     rw[if_neg h44]
     simp[round,Tryz.f189,a189,reg189,loop189,draw189,dok189,hid,hiv,hidk,hivk,ah,ad,aF,aD,aL,aJ,c1,c2,gid,giv,gid2,giv2,b1,hl1,hwt,xA,lvW,lvR,e2,e5,dh,dt,h44]
     refine hrec ⟨false,n,[x],[],u⟩ _ _ ?_ ?_ ?_ ?_
     ·simp;omega
     ·exact⟨hwk,(fun h=>by cases h),by simp only;omega,(fun h=>by cases h),(fun h=>by cases h),fun _=>rfl⟩
     ·simp[hl1,xA,lvW,lvR,Val.cellsL,Val.cellsL_append]
     ·simp[h44,xA,lvW,lvR]
   |cons b r=>
    have hi1:(0:Int)≤(r.length:Int)+1:=by omega
    have hi2:(r.length:Int)<(r.length:Int)+1:=by omega
    have hall:List.take ((r.length+1)*3) (Val.cellsL (b::r))=Val.cellsL (b::r):=List.take_of_length_le (by simp)
    have ht1:∀l:List A,List.take ((r.length+1)*3) (Val.cellsL (b::r)++l)=Val.cellsL (b::r):=fun l=>List.take_left' (by simp)
    have hi3:(r.length+1)*3+3=(r.length+1+1)*3:=by omega
    have hd2:∀c1 c2 c3:A,List.drop ((r.length+1+1)*3) (Val.cellsL (b::r)++[c1,c2,c3])=[]:=fun c1 c2 c3=>List.drop_eq_nil_of_le (by simp;omega)
    have hd1:∀c1 c2 c3:A,List.drop ((r.length+1)*3+3) (Val.cellsL (b::r)++[c1,c2,c3])=[]:=fun c1 c2 c3=>List.drop_eq_nil_of_le (by simp)
    simp[ad,hid,hl1,c1,xA,lvW,lvR] at e2 e5 e6 hsz
    by_cases h44:u.1.head? =some [44]
    ·have hlt:=mo h44
     simp[h44] at e5
     rw[if_pos h44]
     simp[round,Tryz.f189,a189,reg189,loop189,draw189,dok189,hid,hiv,hidk,hivk,ah,ad,aF,aD,aL,aJ,c1,c2,gid,giv,gid2,giv2,b1,hl1,hwt,xA,lvW,lvR,e2,e5,e6,dh,dt,h44,hi1,hi2,hall,ht1,hd1,hd2,hi3,hsz]
     refine hrec ⟨true,n,b::r++[x],[],aq [44] u⟩ _ _ ?_ ?_ ?_ ?_
     ·simp;omega
     ·exact⟨hwk.suffix (ap _ _),fun _=>by simp only;omega,by simp only;omega,fun _=>by simp at hal⊢;omega,(fun h=>by cases h),fun _=>rfl⟩
     ·simp[hl1,xA,lvW,lvR,Val.cellsL,Val.cellsL_append]
     ·simp[h44,xA,lvW,lvR]
    ·simp[h44] at e5
     rw[if_neg h44]
     simp[round,Tryz.f189,a189,reg189,loop189,draw189,dok189,hid,hiv,hidk,hivk,ah,ad,aF,aD,aL,aJ,c1,c2,gid,giv,gid2,giv2,b1,hl1,hwt,xA,lvW,lvR,e2,e5,dh,dt,h44,hi1,hi2,hall,ht1,hd1,hd2,hi3,hsz]
     refine hrec ⟨false,n,b::r++[x],[],u⟩ _ _ ?_ ?_ ?_ ?_
     ·simp;omega
     ·exact⟨hwk,(fun h=>by cases h),by simp only;omega,(fun h=>by cases h),(fun h=>by cases h),fun _=>rfl⟩
     ·simp[hl1,xA,lvW,lvR,Val.cellsL,Val.cellsL_append]
     ·simp[h44,xA,lvW,lvR]
  |true=>
   have hwa:=hwt2 rfl
   have hlr:∀k,lvR true (a++[x]) (ws++[k])=[⟨47,Val.cellsL a++x.cells⟩,⟨3,az ws++[.int .i64 k]⟩]:=fun k=>by simp[lvR,hca,dP,az]
   have hlw:∀k,lvW true R.length (a++[x]) (ws++[k])= .sl (R.length+1) (ws.length+1) 0 (ws.length+1):=fun k=>by simp[lvW]
   have t1:=ap [58] u
   have t1l:=t1.length_le
   have tk1:gH (aq [58] u).1:=hvk.suffix t1
   have e3:=cG id [58] u ⟨(M.set id (rd u)).set iv [.int .i64 0,xA R.length (a++[x]),lvW true R.length a ws]++[f.cells],R++(⟨47,Val.cellsL (a++[x])⟩::wR ws)⟩ (by omega) (by simp[ah,hid,gid,gid2])
   have e4:=A4 id (aq [58] u) ⟨(M.set id (rd (aq [58] u))).set iv [.int .i64 0,xA R.length (a++[x]),lvW true R.length a ws]++[f.cells],R++(⟨47,Val.cellsL (a++[x])⟩::wR ws)⟩ (by omega) tk1 (by simp[ah,hid,gid,gid2])
   have hwu:cb true ws u=(ws++[(fh (aq [58] u)).1],(fh (aq [58] u)).2):=rfl
   rw[hwu] at hwk hwl⊢
   simp only at hwk hwl⊢
   rw[hxa,hca] at e3 e4
   simp[ad,hid,hl1,c1] at e3 e4
   generalize aq [58] u=u1 at*
   generalize (fh u1).1=k at*
   generalize (fh u1).2=q at*
   have e5:=eX id [44] q ⟨(M.set id (rd q)).set iv [.int .i64 0,xA R.length (a++[x]),lvW true R.length (a++[x]) (ws++[k])]++[f.cells],R++lvR true (a++[x]) (ws++[k])⟩ (by omega) (by simp[ah,hid,gid,gid2])
   have e6:=cG id [44] q ⟨(M.set id (rd q)).set iv [.int .i64 0,xA R.length (a++[x]),lvW true R.length (a++[x]) (ws++[k])]++[f.cells],R++lvR true (a++[x]) (ws++[k])⟩ (by omega) (by simp[ah,hid,gid,gid2])
   rw[hxa,hlr,hlw] at e5 e6
   simp[ad,hid,hl1,c1] at e5 e6
   cases a with
   |nil=>
    have hw0:ws=[]:=List.eq_nil_of_length_eq_zero hwa
    subst hw0
    have hi0:az ([]:List Int)=[]:=rfl
    simp[ad,hid,hl1,c1,xA,lvW,lvR,wR,hi0] at e2 e3 e4 e5 e6
    by_cases h44:q.1.head? =some [44]
    ·have hlt:=mo h44
     simp[h44] at e5
     rw[if_pos h44]
     simp[round,Tryz.f189,a189,reg189,loop189,draw189,dok189,hid,hiv,hidk,hivk,ah,ad,aF,aD,aL,aJ,c1,c2,gid,giv,gid2,giv2,b1,hl1,hwt,xA,lvW,lvR,e2,e3,e4,e5,e6,dh,dt,h44]
     refine hrec ⟨true,n,[x],[k],aq [44] q⟩ _ _ ?_ ?_ ?_ ?_
     ·simp;omega
     ·exact⟨hwk.suffix (ap _ _),fun _=>by simp only;omega,by simp only;omega,fun _=>by simp;omega,fun _=>rfl,(fun h=>by cases h)⟩
     ·simp[hl1,xA,lvW,lvR,Val.cellsL,Val.cellsL_append,dP,az]
     ·simp[h44,xA,lvW,lvR]
    ·simp[h44] at e5
     rw[if_neg h44]
     simp[round,Tryz.f189,a189,reg189,loop189,draw189,dok189,hid,hiv,hidk,hivk,ah,ad,aF,aD,aL,aJ,c1,c2,gid,giv,gid2,giv2,b1,hl1,hwt,xA,lvW,lvR,e2,e3,e4,e5,dh,dt,h44]
     refine hrec ⟨false,n,[x],[k],q⟩ _ _ ?_ ?_ ?_ ?_
     ·simp;omega
     ·exact⟨hwk,(fun h=>by cases h),by simp only;omega,(fun h=>by cases h),fun _=>rfl,(fun h=>by cases h)⟩
     ·simp[hl1,xA,lvW,lvR,Val.cellsL,Val.cellsL_append,dP,az]
     ·simp[h44,xA,lvW,lvR]
   |cons b r=>
    have hi1:(0:Int)≤(r.length:Int)+1:=by omega
    have hi2:(r.length:Int)<(r.length:Int)+1:=by omega
    have hall:List.take ((r.length+1)*3) (Val.cellsL (b::r))=Val.cellsL (b::r):=List.take_of_length_le (by simp)
    have ht1:∀l:List A,List.take ((r.length+1)*3) (Val.cellsL (b::r)++l)=Val.cellsL (b::r):=fun l=>List.take_left' (by simp)
    have hi3:(r.length+1)*3+3=(r.length+1+1)*3:=by omega
    have hd2:∀c1 c2 c3:A,List.drop ((r.length+1+1)*3) (Val.cellsL (b::r)++[c1,c2,c3])=[]:=fun c1 c2 c3=>List.drop_eq_nil_of_le (by simp;omega)
    have hd1:∀c1 c2 c3:A,List.drop ((r.length+1)*3+3) (Val.cellsL (b::r)++[c1,c2,c3])=[]:=fun c1 c2 c3=>List.drop_eq_nil_of_le (by simp)
    have hw1:¬ws.length=0:=by rw[hwa];simp
    have hw2:¬ws=[]:=fun h=>hw1 (by rw[h];rfl)
    simp at hsz hwa
    have hszw:(ws.length+1)*8≤70368744177664∧ws.length+1≤70368744177664:=by omega
    simp[ad,hid,hl1,c1,xA,lvW,lvR,wR,hw1,hw2] at e2 e3 e4 e5 e6
    by_cases h44:q.1.head? =some [44]
    ·have hlt:=mo h44
     simp[h44] at e5
     rw[if_pos h44]
     simp[round,Tryz.f189,a189,reg189,loop189,draw189,dok189,hid,hiv,hidk,hivk,ah,ad,aF,aD,aL,aJ,c1,c2,gid,giv,gid2,giv2,b1,hl1,hwt,xA,lvW,lvR,e2,e3,e4,e5,e6,dh,dt,h44,hi1,hi2,hall,ht1,hd1,hd2,hi3,hsz,hszw]
     refine hrec ⟨true,n,b::r++[x],ws++[k],aq [44] q⟩ _ _ ?_ ?_ ?_ ?_
     ·simp;omega
     ·exact⟨hwk.suffix (ap _ _),fun _=>by simp only;omega,by simp only;omega,fun _=>by simp at hal⊢;omega,fun _=>by simp;omega,(fun h=>by cases h)⟩
     ·simp[hl1,xA,lvW,lvR,Val.cellsL,Val.cellsL_append,dP,az]
     ·simp[h44,xA,lvW,lvR]
    ·simp[h44] at e5
     rw[if_neg h44]
     simp[round,Tryz.f189,a189,reg189,loop189,draw189,dok189,hid,hiv,hidk,hivk,ah,ad,aF,aD,aL,aJ,c1,c2,gid,giv,gid2,giv2,b1,hl1,hwt,xA,lvW,lvR,e2,e3,e4,e5,dh,dt,h44,hi1,hi2,hall,ht1,hd1,hd2,hi3,hsz,hszw]
     refine hrec ⟨false,n,b::r++[x],ws++[k],q⟩ _ _ ?_ ?_ ?_ ?_
     ·simp;omega
     ·exact⟨hwk,(fun h=>by cases h),by simp only;omega,(fun h=>by cases h),fun _=>by simp;omega,(fun h=>by cases h)⟩
     ·simp[hl1,xA,lvW,lvR,Val.cellsL,Val.cellsL_append,dP,az]
     ·simp[h44,xA,lvW,lvR]
theorem jz{id:Nat}{M:List (List A)}(hid:id<M.length)(t:List UInt8){s:RS}(hl:s.1.length≤1000000)(bx:List (List A))(R:List Row):
  ai C0 156 [.ptr id 0,.str t] ⟨M.set id (rd s)++bx,R⟩=some (.ret (.tup []),⟨M.set id (rd (aq t s))++bx,R⟩):=by
 have h:=cG id t s ⟨M.set id (rd s)++bx,R⟩ hl (by simp[ah,hid])
 simpa [ad,hid] using h
theorem FS{id:Nat}{M:List (List A)}(hid:id<M.length)(t:List UInt8){s:RS}(hl:s.1.length≤1000000)(bx:List (List A))(R:List Row):
  ai C0 155 [.ptr id 0,.str t] ⟨M.set id (rd s)++bx,R⟩=some (.ret (.bool (decide (s.1.head? =some t))),⟨M.set id (rd s)++bx,R⟩):=
 eX id t s ⟨M.set id (rd s)++bx,R⟩ hl (by simp[ah,hid])
theorem o8{id:Nat}{M:List (List A)}(hid:id<M.length){f:Fun}{rv:RS→RV}(h:ROk id f rv){s:RS}(hk:gH s.1)(hl:s.1.length≤1000000)(bx:List (List A))(R:List Row):
  ai C0 158 [.agg f.cells,.ptr id 0] ⟨M.set id (rd s)++bx,R⟩=some (.ret (.agg (rv s).1.cells),⟨M.set id (rd (rv s).2)++bx,R⟩):=by
 have h:=h s ⟨M.set id (rd s)++bx,R⟩ hk hl (by simp[ah,hid])
 simpa [ad,hid] using h
theorem A9(rv:RS→RV):∀(k:Nat) (a:List Val) (s:RS),(fm rv k a s).1= .mk 0 (fm rv k a s).1.args []
 |0,a,s=>rfl
 |k+1,a,s=>by
  rw[fm]
  split
  ·rfl
  ·exact A9 rv k _ _
theorem yK(rv:RS→RV)(w:Bool):∀(n:Nat) (a:List Val) (ws:List Int) (s:RS),(w=false→ws=[])→(w=true→ws.length=a.length)→(dy rv w n a ws s).1.num=0∧(w=false→(dy rv w n a ws s).1.ws=[])∧(w=true→(dy rv w n a ws s).1.ws.length=(dy rv w n a ws s).1.args.length)
 |0,a,ws,s,h1,h2=>⟨rfl,h1,h2⟩
 |n+1,a,ws,s,h1,h2=>by
  rw[dy]
  have k1:w=false→(cb w ws (rv s).2).1=[]:=fun h=>by unfold cb;rw[if_neg (by rw[h];simp)];exact h1 h
  have k2:w=true→(cb w ws (rv s).2).1.length=(a++[(rv s).1]).length:=fun h=>by unfold cb;rw[if_pos h];simp[h2 h]
  split
  ·exact⟨rfl,h1,h2⟩
  split
  ·exact yK rv w n _ _ _ k1 k2
  ·exact⟨rfl,k1,k2⟩
theorem FR(rv:RS→RV)(w:Bool)(s:RS):(kS rv w s).1.num=0∧(w=false→(kS rv w s).1.ws=[])∧(w=true→(kS rv w s).1.ws.length=(kS rv w s).1.args.length):=by
 unfold kS
 split
 ·exact⟨rfl,fun _=>rfl,fun _=>rfl⟩
 ·exact yK rv w _ _ _ _ (fun _=>rfl) (fun _=>rfl)
section
variable {id N:Nat}
set_option maxHeartbeats 4000000 in
theorem qw{f:Fun}(hk:f.kind=0∨f.kind=1):ROk id f (cg (N+1) f):=by
 intro s m ht hl hbx
 have hid:id<m.bx.length:=(List.getElem?_eq_some_iff.1 hbx).1
 have hg:m.bx[id]=rd s:=(List.getElem?_eq_some_iff.1 hbx).2
 have hset:m.bx.set id (rd s)=m.bx:=by rw[←hg];exact List.set_getElem_self hid
 have hidk:∀k,id<m.bx.length+k:=fun k=>by omega
 rw[cg,if_pos hk]
 have e1:=fun bx R=>A4 id s ⟨m.bx++bx,R⟩ hl ht (by simp[ah,hid,hg])
 simp[ad,hid] at e1
 rw[ab C0 (aj _ (by decide)) (by rw[ay];exact Tryz.func158) rfl (by rw[ae];rfl) (by rw[ae];rfl) (by decide) (by simp[Tryz.f158])]
 rcases hk with h|h
 ·simp[Tryz.f158,a158,reg158,loop158,draw158,dok158,hid,hidk,ah,ad,aM,ag,h,e1]
 ·simp[Tryz.f158,a158,reg158,loop158,draw158,dok158,hid,hidk,ah,ad,aM,ag,h,e1]
set_option maxHeartbeats 8000000 in
theorem xP{f:Fun}(hf:au f=true)(hk:f.kind=2)(hl2:f.args.length=2)(ih:∀g,g∈f.args→ROk id g (cg N g)):ROk id f (cg (N+1) f):=by
 intro s m ht hl hbx
 have hid:id<m.bx.length:=(List.getElem?_eq_some_iff.1 hbx).1
 have hg:m.bx[id]=rd s:=(List.getElem?_eq_some_iff.1 hbx).2
 have hset:m.bx.set id (rd s)=m.bx:=by rw[←hg];exact List.set_getElem_self hid
 have hidk:∀k,id<m.bx.length+k:=fun k=>by omega
 have f0:0<f.args.length:=by omega
 have f1:1<f.args.length:=by omega
 have b1:=Fun.at_cellsL f.args 0 f0
 have b2:=Fun.at_cellsL f.args 1 f1
 simp at b1 b2
 have g0:f.args.getD 0 bN=f.args[0]:=by rw[List.getD_eq_getElem?_getD,List.getElem?_eq_getElem f0];rfl
 have g1:f.args.getD 1 bN=f.args[1]:=by rw[List.getD_eq_getElem?_getD,List.getElem?_eq_getElem f1];rfl
 rw[cg,if_neg (by omega),if_pos hk,g0,g1]
 have i0:=ih f.args[0] (List.getElem_mem f0)
 have i1:=ih f.args[1] (List.getElem_mem f1)
 have v0:=fR N f.args[0]
 have v1:=fR N f.args[1]
 generalize cg N f.args[0]=r0 at*
 generalize cg N f.args[1]=r1 at*
 unfold EP
 have p1:=ap [40] s
 have e1:=jz hid [40] hl
 rw[hset] at e1
 have q1:=p1.length_le
 have k1:=ht.suffix p1
 generalize aq [40] s=s1 at*
 have e2:=o8 hid i0 k1 (by omega)
 have p2:=v0 s1
 have q2:=p2.length_le
 have k2:=k1.suffix p2
 generalize (r0 s1).1=x at*
 generalize (r0 s1).2=s2 at*
 have e3:=jz hid [44] (s:=s2) (by omega)
 have p3:=ap [44] s2
 have q3:=p3.length_le
 have k3:=k2.suffix p3
 generalize aq [44] s2=s3 at*
 have e4:=o8 hid i1 k3 (by omega)
 have p4:=v1 s3
 have q4:=p4.length_le
 have k4:=k3.suffix p4
 generalize (r1 s3).1=y at*
 generalize (r1 s3).2=s4 at*
 have e5:=jz hid [41] (s:=s4) (by omega)
 generalize aq [41] s4=s5 at*
 simp at e2 e4
 rw[ab C0 (aj _ (by decide)) (by rw[ay];exact Tryz.func158) rfl (by rw[ae];rfl) (by rw[ae];rfl) (by decide) (by simp[Tryz.f158])]
 simp[Tryz.f158,a158,reg158,loop158,draw158,dok158,hid,hidk,ah,ad,aM,ag,hk,hl2,b1,b2,e1,e2,e3,e4,e5,Val.cellsL]
set_option maxHeartbeats 8000000 in
theorem zK{f:Fun}(hf:au f=true)(hk:f.kind=3)(hl2:f.args.length=2)(ih:∀g,g∈f.args→ROk id g (cg N g)):ROk id f (cg (N+1) f):=by
 intro s m ht hl hbx
 have hid:id<m.bx.length:=(List.getElem?_eq_some_iff.1 hbx).1
 have hg:m.bx[id]=rd s:=(List.getElem?_eq_some_iff.1 hbx).2
 have hset:m.bx.set id (rd s)=m.bx:=by rw[←hg];exact List.set_getElem_self hid
 have hidk:∀k,id<m.bx.length+k:=fun k=>by omega
 have f0:0<f.args.length:=by omega
 have f1:1<f.args.length:=by omega
 have b1:=Fun.at_cellsL f.args 0 f0
 have b2:=Fun.at_cellsL f.args 1 f1
 simp at b1 b2
 have g0:f.args.getD 0 bN=f.args[0]:=by rw[List.getD_eq_getElem?_getD,List.getElem?_eq_getElem f0];rfl
 have g1:f.args.getD 1 bN=f.args[1]:=by rw[List.getD_eq_getElem?_getD,List.getElem?_eq_getElem f1];rfl
 rw[cg,if_neg (by omega),if_neg (by omega),if_pos hk,g0,g1]
 have i0:=ih f.args[0] (List.getElem_mem f0)
 have i1:=ih f.args[1] (List.getElem_mem f1)
 generalize cg N f.args[0]=r0 at*
 generalize cg N f.args[1]=r1 at*
 unfold qR
 have e1:=FS hid [114] hl
 rw[hset] at e1
 have w2:IntKind.i64.wrap 2=2:=by decide
 rw[ab C0 (aj _ (by decide)) (by rw[ay];exact Tryz.func158) rfl (by rw[ae];rfl) (by rw[ae];rfl) (by decide) (by simp[Tryz.f158])]
 by_cases h1:s.1.head? =some [114]
 ·rw[if_pos h1]
  simp[h1] at e1
  have p2:=ap [114] s
  have e2:=jz hid [114] hl
  rw[hset] at e2
  have q2:=p2.length_le
  have k2:=ht.suffix p2
  generalize aq [114] s=s1 at*
  obtain⟨l1,b⟩:=s1
  cases b with
  |true=>
   simp at e2
   simp[Tryz.f158,a158,reg158,loop158,draw158,dok158,hid,hidk,ah,ad,aM,ag,hk,hl2,b1,b2,e1,e2,w2,Val.cellsL]
  |false=>
   have e3:=o8 hid i1 k2 (by omega)
   generalize (r1 (l1,false)).1=x at*
   generalize (r1 (l1,false)).2=s2 at*
   simp at e2 e3
   simp[Tryz.f158,a158,reg158,loop158,draw158,dok158,hid,hidk,ah,ad,aM,ag,hk,hl2,b1,b2,e1,e2,e3,w2,Val.cellsL]
 ·rw[if_neg h1]
  simp[h1] at e1
  have p2:=ap [108] s
  have e2:=jz hid [108] hl
  rw[hset] at e2
  have q2:=p2.length_le
  have k2:=ht.suffix p2
  generalize aq [108] s=s1 at*
  obtain⟨l1,b⟩:=s1
  cases b with
  |true=>
   simp at e2
   simp[Tryz.f158,a158,reg158,loop158,draw158,dok158,hid,hidk,ah,ad,aM,ag,hk,hl2,b1,b2,e1,e2,w2,Val.cellsL]
  |false=>
   have e3:=o8 hid i0 k2 (by omega)
   generalize (r0 (l1,false)).1=x at*
   generalize (r0 (l1,false)).2=s2 at*
   simp at e2 e3
   simp[Tryz.f158,a158,reg158,loop158,draw158,dok158,hid,hidk,ah,ad,aM,ag,hk,hl2,b1,b2,e1,e2,e3,w2,Val.cellsL]
set_option maxHeartbeats 8000000 in
theorem mW{f:Fun}(hf:au f=true)(hk:5≤f.kind)(hl2:f.args.length=1)(ih:∀g,g∈f.args→ROk id g (cg N g)):ROk id f (cg (N+1) f):=by
 intro s m ht hl hbx
 have hid:id<m.bx.length:=(List.getElem?_eq_some_iff.1 hbx).1
 have hg:m.bx[id]=rd s:=(List.getElem?_eq_some_iff.1 hbx).2
 have hset:m.bx.set id (rd s)=m.bx:=by rw[←hg];exact List.set_getElem_self hid
 have hidk:∀k,id<m.bx.length+k:=fun k=>by omega
 have f0:0<f.args.length:=by omega
 have g0:f.args.getD 0 bN=f.args[0]:=by rw[List.getD_eq_getElem?_getD,List.getElem?_eq_getElem f0];rfl
 have n4:¬f.kind=0∧¬f.kind=1∧¬f.kind=2∧¬f.kind=3∧¬f.kind=4:=by omega
 have hwk:wtd f.kind=decide (6≤f.kind):=by
  have:=ba hf
  unfold wtd
  rw[Bool.eq_iff_iff]
  simp
  omega
 rw[cg,if_neg (by omega),if_neg (by omega),if_neg (by omega),if_neg (by omega),g0]
 have i0:=ih f.args[0] (List.getElem_mem f0)
 have v0:=fR N f.args[0]
 generalize cg N f.args[0]=r0 at*
 generalize decide (6≤f.kind)=w at*
 have e1:=CG id (m.bx.length+2) (by omega) f hl2 r0 v0 f0 i0 w hwk s ht hl (m.bx++[f.cells,[.int .i64 0,.nils,.nils],[.int .i64 0,.nils,.nils]]) m.rw (by simp;omega) (by simp)
 have hy:=FR r0 w s
 generalize (kS r0 w s).1=y at*
 generalize (kS r0 w s).2=s2 at*
 obtain⟨hy0,hyf,hyt⟩:=hy
 have e1':∀z:List (List A),((m.bx++z).set id (rd s))=m.bx++z:=fun z=>by rw[ad _ _ hid,hset]
 rw[e1'] at e1
 simp[ad,hid,hl2] at e1
 rw[ab C0 (aj _ (by decide)) (by rw[ay];exact Tryz.func158) rfl (by rw[ae];rfl) (by rw[ae];rfl) (by decide) (by simp[Tryz.f158])]
 have hyc:y= .mk 0 y.args y.ws:=by rw[←hy0];exact y.eta
 cases ha:y.args with
 |nil=>
  have hw0:y.ws=[]:=by
   cases w
   ·exact hyf rfl
   ·exact List.eq_nil_of_length_eq_zero (by rw[hyt rfl,ha];rfl)
  rw[ha,hw0] at hyc
  simp[ha,xA,lvW,lvR] at e1
  rw[hyc]
  simp[Tryz.f158,a158,reg158,loop158,draw158,dok158,hid,hidk,ah,ad,aM,ag,n4,hl2,e1]
 |cons b r=>
  have hall:List.take ((r.length+1)*3) (Val.cellsL (b::r))=Val.cellsL (b::r):=List.take_of_length_le (by simp)
  cases w with
  |false=>
   rw[ha,hyf rfl] at hyc
   simp[ha,xA,lvW,lvR] at e1
   rw[hyc]
   simp[Tryz.f158,a158,reg158,loop158,draw158,dok158,hid,hidk,ah,ad,aF,aD,aL,aJ,aM,ag,n4,hl2,e1,hall]
  |true=>
   have hwl:=hyt rfl
   rw[ha] at hyc hwl
   have hallw:List.take y.ws.length (az y.ws)=az y.ws:=uZ y.ws
   simp[ha,xA,lvW,lvR] at e1
   generalize y.ws=u at*
   rw[hyc]
   simp[Tryz.f158,a158,reg158,loop158,draw158,dok158,hid,hidk,ah,ad,aF,aD,aL,aJ,aM,ag,n4,hl2,e1,hall]
set_option maxHeartbeats 8000000 in
theorem zu{f:Fun}(hf:au f=true)(hk:f.kind=4)(hl2:f.args.length=1)(ih:∀g,g∈f.args→ROk id g (cg N g)):ROk id f (cg (N+1) f):=by
 intro s m ht hl hbx
 have hid:id<m.bx.length:=(List.getElem?_eq_some_iff.1 hbx).1
 have hg:m.bx[id]=rd s:=(List.getElem?_eq_some_iff.1 hbx).2
 have hset:m.bx.set id (rd s)=m.bx:=by rw[←hg];exact List.set_getElem_self hid
 have hidk:∀k,id<m.bx.length+k:=fun k=>by omega
 have f0:0<f.args.length:=by omega
 have b1:=Fun.at_cellsL f.args 0 f0
 simp at b1
 have g0:f.args.getD 0 bN=f.args[0]:=by rw[List.getD_eq_getElem?_getD,List.getElem?_eq_getElem f0];rfl
 have hnum:=(dZ hf).2.2.1 hk
 obtain⟨K,hK⟩:∃K:Nat,f.num=K:=⟨f.num.toNat,by omega⟩
 rw[cg,if_neg (by omega),if_neg (by omega),if_neg (by omega),if_pos hk,g0,hK,Int.toNat_natCast]
 have i0:=ih f.args[0] (List.getElem_mem f0)
 have v0:=fR N f.args[0]
 generalize cg N f.args[0]=r0 at*
 have p1:=ap [91] s
 have e1:=jz hid [91] hl
 rw[hset] at e1
 have q1:=p1.length_le
 have k1:=ht.suffix p1
 generalize aq [91] s=s1 at*
 rw[ab C0 (aj _ (by decide)) (by rw[ay];exact Tryz.func158) rfl (by rw[ae];rfl) (by rw[ae];rfl) (by decide) (by simp[Tryz.f158])]
 simp[Tryz.f158,a158,reg158,loop158,draw158,dok158,hid,hidk,ah,ad,hk,hK,hl2,e1]
 rw[mz (fun x:List Val×RS=>⟨[(1,.ptr id 0),(2,.ptr m.bx.length 0),(4,.ptr (m.bx.length+1) 0),(5,.ptr (m.bx.length+2) 0),(7,.int .i64 x.1.length)],⟨m.bx.set id (rd x.2)++[f.cells,[.int .i64 0,.nils,.nils],[.int .i64 0,xA m.rw.length x.1,.nils]],m.rw++xR x.1⟩⟩)
  (fun x=>some (.normal,⟨[(1,.ptr id 0),(2,.ptr m.bx.length 0),(4,.ptr (m.bx.length+1) 0),(5,.ptr (m.bx.length+2) 0),(7,.int .i64 (fm r0 (K-x.1.length) x.1 x.2).1.args.length),(84,.bool false)],⟨m.bx.set id (rd (fm r0 (K-x.1.length) x.1 x.2).2)++[f.cells,[.int .i64 0,.nils,.nils],[.int .i64 0,xA m.rw.length (fm r0 (K-x.1.length) x.1 x.2).1.args,.nils]],m.rw++xR (fm r0 (K-x.1.length) x.1 x.2).1.args⟩⟩))
  (fun x=>K-x.1.length) (fun x=>gH x.2.1∧x.2.1.length≤1000000∧x.1.length≤K) ([],s1) ?_ rfl ?_ ?_ ?_]
 ·have hm:=A9 r0 (K-0) [] s1
  have p2:=l7 v0 (K-0) [] s1
  have q2:=p2.length_le
  have e9:=jz hid [93] (s:=(fm r0 (K-0) [] s1).2) (by omega)
  simp only[List.length_nil,Nat.sub_zero] at hm e9⊢
  generalize (fm r0 K [] s1).1=y at*
  generalize (fm r0 K [] s1).2=s2 at*
  cases ha:y.args with
  |nil=>
   rw[ha] at hm
   rw[hm]
   simp[Tryz.f158,a158,reg158,loop158,draw158,dok158,hid,hidk,ah,ad,aM,ag,hk,hK,hl2,e9,xA,xR]
  |cons b r=>
   have hall:List.take ((r.length+1)*3) (Val.cellsL (b::r))=Val.cellsL (b::r):=List.take_of_length_le (by simp)
   rw[ha] at hm
   rw[hm]
   simp[Tryz.f158,a158,reg158,loop158,draw158,dok158,hid,hidk,ah,ad,aF,aD,aL,aJ,aM,ag,hk,hK,hl2,e9,xA,xR,hall]
 ·simp[Tryz.f158,a158,reg158,loop158,draw158,dok158,xA,xR,hk,hK,hl2]
 ·exact⟨k1,by simp only;omega,by simp⟩
 ·intro x;simp[Tryz.f158,a158,reg158,loop158,draw158,dok158]
 ·rintro⟨a,t⟩ ⟨hta,htl,hak⟩ hrec
  simp only at hta htl hak⊢
  obtain⟨tl,tb⟩:=t
  by_cases hgo:a.length<K∧tb=false
  case neg=>
   clear hrec
   have ho:fm r0 (K-a.length) a (tl,tb)=(.mk 0 a [],(tl,tb)):=by
    cases htb:tb with
    |true=>exact fB _ _ rfl
    |false=>
     have:K-a.length=0:=by
      have h9:¬a.length<K:=fun h=>hgo ⟨h,htb⟩
      omega
     rw[this]
     rfl
   rw[ho]
   by_cases h1:a.length<K
   ·have htb:tb=true:=by
     cases h:tb
     ·exact absurd ⟨h1,h⟩ hgo
     ·rfl
    subst htb
    simp[round,Tryz.f158,a158,reg158,loop158,draw158,dok158,hid,hidk,ah,ad,hk,hK,hl2,h1]
   ·simp[round,Tryz.f158,a158,reg158,loop158,draw158,dok158,hid,hidk,ah,ad,hk,hK,hl2,h1]
  case pos=>
   obtain⟨h1,rfl⟩:=hgo
   have w2:IntKind.i64.wrap (a.length+1)=a.length+1:=al _ (by omega)
   obtain⟨j,hj⟩:∃j,K-a.length=j+1:=⟨K-a.length-1,by omega⟩
   rw[hj,fm,if_neg (by simp)]
   have hjj:K-(a.length+1)=j:=by omega
   cases a with
   |nil=>
    simp at h1 hjj
    simp only[List.length_nil,if_true]
    have e2:=o8 hid i0 (s:=(tl,false)) hta htl
    have q2:=(v0 (tl,false)).length_le
    have k2:gH (r0 (tl,false)).2.1:=hta.suffix (v0 (tl,false))
    generalize (r0 (tl,false)).1=x at*
    generalize (r0 (tl,false)).2=u at*
    simp only at q2 htl
    simp at e2
    simp[round,Tryz.f158,a158,reg158,loop158,draw158,dok158,hid,hidk,ah,ad,aF,aD,aL,aJ,hk,hK,hl2,h1,b1,e2,xA,xR,eK,fd]
    refine hrec ([x],u) _ _ ?_ ?_ ?_ ?_
    ·simp;omega
    ·exact⟨k2,by simp only;omega,by simp;omega⟩
    ·simp[xA,xR,Val.cellsL,hk,hK,hl2]
    ·simp[hjj,xA,xR,hk,hK,hl2]
   |cons b r=>
    simp at h1 hjj w2
    have hsz:(r.length+1+1)*56≤70368744177664∧r.length+1+1≤70368744177664:=by omega
    have hi1:(0:Int)≤(r.length:Int)+1:=by omega
    have hi2:(r.length:Int)<(r.length:Int)+1:=by omega
    have hi3:(r.length+1)*3+3=(r.length+1+1)*3:=by omega
    have ht1:∀l:List A,List.take ((r.length+1)*3) (Val.cellsL (b::r)++l)=Val.cellsL (b::r):=fun l=>List.take_left' (by simp)
    have hd1:∀c1 c2 c3:A,List.drop ((r.length+1)*3+3) (Val.cellsL (b::r)++[c1,c2,c3])=[]:=fun c1 c2 c3=>List.drop_eq_nil_of_le (by simp)
    have hd2:∀c1 c2 c3:A,List.drop ((r.length+1+1)*3) (Val.cellsL (b::r)++[c1,c2,c3])=[]:=fun c1 c2 c3=>List.drop_eq_nil_of_le (by simp;omega)
    have hall:List.take ((r.length+1)*3) (Val.cellsL (b::r))=Val.cellsL (b::r):=List.take_of_length_le (by simp)
    have hr0:(0:Int)<(r.length:Int)+1:=by omega
    have h1':(r.length:Int)+1<K:=by omega
    have e4:=jz hid [44] (s:=(tl,false)) htl
    have p4:=ap [44] (tl,false)
    have q4:=p4.length_le
    have k4:=hta.suffix p4
    simp only[List.length_cons,Nat.succ_ne_zero,if_false,Nat.add_eq_zero_iff,reduceCtorEq,and_false]
    generalize aq [44] (tl,false)=u4 at*
    simp only at q4 htl
    have e2:=o8 hid i0 (s:=u4) k4 (by omega)
    have q2:=(v0 u4).length_le
    have k2:gH (r0 u4).2.1:=k4.suffix (v0 u4)
    generalize (r0 u4).1=x at*
    generalize (r0 u4).2=u at*
    simp at e2 e4
    simp[round,Tryz.f158,a158,reg158,loop158,draw158,dok158,hid,hidk,ah,ad,aF,aD,aL,aJ,hk,hK,hl2,h1,h1',hr0,hi1,hi2,hi3,ht1,hd1,hd2,hall,w2,hsz,b1,e2,e4,xA,xR,eK,fd]
    refine hrec (b::r++[x],u) _ _ ?_ ?_ ?_ ?_
    ·simp;omega
    ·exact⟨k2,by simp only;omega,by simp;omega⟩
    ·simp[xA,xR,Val.cellsL,Val.cellsL_append,hk,hK,hl2]
    ·simp[hjj,xA,xR,hk,hK,hl2]
end
theorem CJ(id:Nat):∀(N:Nat) (f:Fun),f.nodes≤N→au f=true→ROk id f (cg N f):=by
 intro N
 induction N with
 |zero=>intro f hN;have:=f.nodes_pos;omega
 |succ N ih=>
 intro f hN hf
 have H:∀g,g∈f.args→ROk id g (cg N g):=fun g hg=>by
  obtain⟨i,hi,rfl⟩:=List.getElem_of_mem hg
  exact ih _ (by have:=Fun.nodes_arg hg;omega) (aN hf hi)
 rcases ba hf with⟨h,hl⟩|⟨h,hl⟩|⟨h,hl⟩|⟨h,hl⟩|⟨h,hl⟩|⟨h,hl⟩|⟨h,hl⟩|⟨h,hl⟩
 ·exact qw (.inl h)
 ·exact qw (.inr h)
 ·exact xP hf h hl H
 ·exact zK hf h hl H
 ·exact zu hf h hl H
 ·exact mW hf (by omega) hl H
 ·exact mW hf (by omega) hl H
 ·exact mW hf (by omega) hl H
theorem tI{l:List (List UInt8)}{i:Nat}(h:i<l.length)(x:List UInt8):setCells (bv l) i [.str x]=bv (l.set i x):=by
 unfold setCells bv
 rw[List.set_eq_take_append_cons_drop,if_pos h]
 simp[List.map_take,List.map_drop]
theorem qD{l:List Nat}{B L L':List (List A)}{R:List Row}{id:Nat}{r r':Row}{tm:List (Nat×A)}(hr:r'.cs.all (closed 0 0)=true)(hL:L.length≤L'.length)(hl:l.all (fun t=>closed (B.length+L.length) R.length (lk t tm))=true)(hc:(L'.take L.length).all (fun cs=>cs.all (closed (B.length+L.length) R.length))=true):
  endRound (some l) ⟨B++L,R.set id r⟩ ⟨tm,⟨B++L',R.set id r'⟩⟩=some ⟨prune (some l) tm,⟨B++L'.take L.length,R.set id r'⟩⟩:=by
 refine dK (B:=B++L'.take L.length) (J:=L'.drop L.length) (by simp) (by simp;omega) (by simpa using List.all_eq_true.1 hl) (fun j hj=> ?_) (fun j hj=> ?_)
 ·simp only[List.length_append] at hj⊢
  by_cases h:j<B.length
  ·left;rw[List.getElem?_append_left h,List.getElem?_append_left h]
  ·right
   have:=jT (B:=B) hc (by simpa using h) (by simpa using hj) hL
   simpa using this
 ·simp only[List.length_set] at hj
  by_cases h:id=j
  ·subst h
   right
   exact⟨r',by simp[hj],gX hr⟩
  ·left
   simp[h]
theorem xz{bx b:List (List A)}{R:List Row}{id:Nat}{r':Row}{t:List UInt8}(hr:r'.cs.all (closed 0 0)=true):
  bC Tryz.prog true ⟨bx,R⟩ (.ret (.str t)) ⟨bx++b,R.set id r'⟩=some (.ret (.str t),⟨bx,R.set id r'⟩):=by
 refine jm _ ⟨bx,R⟩ b (R.set id r') _ (fun j hj=> ?_) (by simp[Res.val])
 simp only[List.length_set] at hj
 by_cases h:id=j
 ·subst h
  right
  exact⟨r',by simp[hj],gX hr⟩
 ·left
  simp[h]
theorem fe{bx b:List (List A)}{R:List Row}{t:List UInt8}:
  bC Tryz.prog true ⟨bx,R⟩ (.ret (.str t)) ⟨bx++b,R⟩=some (.ret (.str t),⟨bx,R⟩):=
 jm _ ⟨bx,R⟩ b R _ (kL.refl _ _) (by simp[Res.val])
theorem H7{m:Mem}{b:List (List A)}{t:List UInt8}:bC Tryz.prog true m (.ret (.str t)) ⟨m.bx++b,m.rw⟩=some (.ret (.str t),m):=fe (bx:=m.bx) (R:=m.rw)
theorem wX(kind:Int)(ts:List (List UInt8))(ws:List Int)(hw:wtd kind=false→ws=[])(hw1:wtd kind=true→ws.length=ts.length)(h5:5≤kind)(h7:kind≤7):∃D:Nat→List (List UInt8),D 0=ts∧D ws.length=de kind ts ws∧(∀i,i≤ws.length→(D i).length=ts.length)∧
  ∀(i:Nat) (h:i<ws.length),∃h':i<ts.length,((bv (D i)).drop i).take 1=[.str ts[i]]∧setCells (bv (D i)) i [.str (ts[i]++([32,58,32]++Lib.itoa ws[i]))]=bv (D (i+1)):=by
 cases hk:wtd kind with
 |false=>
  have hk5:¬6≤kind:=fun h=>by unfold wtd at hk;simp at hk;omega
  rw[hw hk]
  refine⟨fun _=>ts,rfl, ?_,fun _ _=>rfl,fun i h=>by simp at h⟩
  unfold de
  rw[if_neg hk5]
 |true=>
  have hk6:6≤kind:=by unfold wtd at hk;simp at hk;omega
  have hl:=hw1 hk
  have hwl:=ji ts ws
  refine⟨fun i=>(wtx ts ws).take i++ts.drop i,by simp, ?_,fun i h=>by simp;omega,fun i h=>⟨by omega, ?_⟩⟩
  ·unfold de
   dsimp only
   rw[if_pos hk6,List.take_of_length_le (by omega),List.drop_eq_nil_of_le (by omega),List.append_nil]
  ·have hi:i<((wtx ts ws).take i++ts.drop i).length:=by simp;omega
   have hti:i<ts.length:=by omega
   have hge:((wtx ts ws).take i++ts.drop i)[i]=ts[i]:=by
    rw[List.getElem_append_right (by simp;omega)]
    simp
    congr 1
    omega
   refine⟨by rw[BC hi,hge], ?_⟩
   rw[tI hi]
   congr 1
   have hx:=AG ts ws i hti h
   dsimp only
   rw[List.take_succ_eq_append_getElem (by omega),hx,List.set_append_right _ _ (by simp;omega)]
   have h0:i-((wtx ts ws).take i).length=0:=by simp;omega
   rw[h0,List.drop_eq_getElem_cons hti,List.set_cons_zero,List.append_assoc]
   rfl
set_option maxHeartbeats 4000000 in
theorem Ar(kind:Int)(v:Val)(ts:List (List UInt8))(id:Nat)(bx:List (List A))(R:List Row)(hR:R[id]? =some ⟨9,bv ts⟩)(ht0:0<ts.length)(h2:2≤kind)(h7:kind≤7)(h3:kind=3→v.num=0∨v.num=1)(hw:wtd kind=false→v.ws=[])(hw1:wtd kind=true→v.ws.length=ts.length)(hwr:∀x,x∈v.ws→0≤x∧x<10000000)(hs:cy ts+20*ts.length≤100000000):
  ∃r':Row,r'.cs.all (closed 0 0)=true∧ai C0 97 [.int .i64 kind,.agg v.cells,.sl id ts.length 0 ts.length] ⟨bx,R⟩=some (.ret (.str (cj kind v.num ts v.ws)),⟨bx,R.set id r'⟩):=by
 have hid:id<R.length:=(List.getElem?_eq_some_iff.1 hR).1
 have hR2:=(List.getElem?_eq_some_iff.1 hR).2
 have hset:R.set id ⟨9,bv ts⟩=R:=by rw[←hR2];exact List.set_getElem_self hid
 have hjl:=iM ts
 by_cases k5:kind<5
 ·refine⟨⟨9,bv ts⟩,by simp, ?_⟩
  rw[hset]
  have ej:=fun b=>uO ts id (by omega) ⟨bx++b,R⟩ hR
  unfold cj
  rw[ab C0 (aj _ (by decide)) (by rw[ay];exact Tryz.func97) rfl (by rw[ae];rfl) (by rw[ae];rfl) (by decide) (by simp[Tryz.f97])]
  by_cases k2:kind=2
  ·rw[if_pos k2]
   subst k2
   simp[Tryz.f97,a97,reg97,loop97,draw97,dok97,ej,hid,fe]
   repeat (rw[if_pos (by omega)];simp[Tryz.f97,a97,reg97,loop97,draw97,dok97,ej,hid,fe])
  by_cases k3:kind=3
  ·rw[if_neg k2,if_pos k3]
   subst k3
   obtain⟨t,tr,rfl⟩:∃t tr,ts=t::tr:=by
    cases ts with
    |nil=>simp at ht0
    |cons t tr=>exact⟨t,tr,rfl⟩
   have w2:IntKind.i64.wrap 2=2:=by decide
   have hm:=gk (l:=t::tr) List.mem_cons_self
   simp at hR2
   rcases h3 rfl with h|h
   ·simp[Tryz.f97,a97,reg97,loop97,draw97,dok97,hid,hR2,h,fe,w2]
    repeat (rw[if_pos (by omega)];simp[Tryz.f97,a97,reg97,loop97,draw97,dok97,hid,hR2,h,fe,w2])
   ·simp[Tryz.f97,a97,reg97,loop97,draw97,dok97,hid,hR2,h,fe,w2]
    repeat (rw[if_pos (by omega)];simp[Tryz.f97,a97,reg97,loop97,draw97,dok97,hid,hR2,h,fe,w2])
  have k4:kind=4:=by omega
  rw[if_neg k2,if_neg k3,if_pos k4]
  subst k4
  simp[Tryz.f97,a97,reg97,loop97,draw97,dok97,ej,hid,fe]
  repeat (rw[if_pos (by omega)];simp[Tryz.f97,a97,reg97,loop97,draw97,dok97,ej,hid,fe])
 ·have n4:¬kind=2∧¬kind=3∧¬kind=4:=by omega
  obtain⟨D,hD0,hDn,hDl,hDs⟩:=wX kind ts v.ws hw hw1 (by omega) h7
  refine⟨⟨9,bv (de kind ts v.ws)⟩,by simp, ?_⟩
  have hel:(de kind ts v.ws).length=ts.length:=by rw[←hDn];exact hDl _ (Nat.le_refl _)
  have hes:cy (de kind ts v.ws)≤cy ts+10*ts.length:=by
   unfold de
   split
   ·exact q8 _ _ hwr
   ·omega
  have hjl2:=iM (de kind ts v.ws)
  have ej:=fun b=>uO (de kind ts v.ws) id (by omega) ⟨bx++b,R.set id ⟨9,bv (de kind ts v.ws)⟩⟩ (by simp[hid])
  rw[hel] at ej
  unfold cj
  rw[if_neg n4.1,if_neg n4.2.1,if_neg n4.2.2]
  rw[ab C0 (aj _ (by decide)) (by rw[ay];exact Tryz.func97) rfl (by rw[ae];rfl) (by rw[ae];rfl) (by decide) (by simp[Tryz.f97])]
  simp[Tryz.f97,a97,reg97,loop97,draw97,dok97,n4]
  refine aC (fun i:Nat=>⟨[(2,.sl id ts.length 0 ts.length),(4,.ptr bx.length 0),(34,.int .i64 v.ws.length),(35,.int .i64 i)],⟨bx++[v.cells],R.set id ⟨9,bv (D i)⟩⟩⟩)
   (fun i=>some (.ret (.str (123::(bR (de kind ts v.ws)++[125]))),⟨bx,R.set id ⟨9,bv (de kind ts v.ws)⟩⟩)) (fun i=>v.ws.length-i) (fun i=>i≤v.ws.length) 0 ?_ ?_ ?_ ?_ ?_
  ·simp[hD0,hset]
  ·simp
  ·simp
  ·intro x;simp[Tryz.f97,a97,reg97,loop97,draw97,dok97]
  ·intro i hi hrec
   by_cases hlt:i<v.ws.length
   ·obtain⟨hti,d1,d2⟩:=hDs i hlt
    have w2:IntKind.i64.wrap (i+1)=i+1:=al _ (by omega)
    have hwx:=hwr _ (List.getElem_mem hlt)
    have hat:=bq hlt
    have hdg:=mq v.ws[i] hwx.1 hwx.2
    have hdl:=je hwx.1 hwx.2
    have hm:=gk (List.getElem_mem hti)
    have hDi:=hDl i (by omega)
    have hst:=wU (D i)
    rw[hDi] at hst
    generalize bv (D i)=S at*
    generalize ts[i]=T at*
    generalize Lib.itoa v.ws[i]=W at*
    simp[setCells] at d2
    simp[round,Tryz.f97,a97,reg97,loop97,draw97,dok97,hlt,hti,w2,hid,hat,hdg,d1,d2,hst,show i+1≤ts.length by omega,show i+1≤v.ws.length by omega,qD]
    repeat (rw[if_pos (by omega)];simp[round,Tryz.f97,a97,reg97,loop97,draw97,dok97,hlt,hti,w2,hid,hat,hdg,d1,d2,hst,show i+1≤ts.length by omega,show i+1≤v.ws.length by omega,qD])
    refine hrec (i+1) _ _ ?_ ?_ ?_ ?_
    ·omega
    ·omega
    ·simp
    ·simp
   ·clear hrec
    obtain rfl:i=v.ws.length:=by omega
    rw[hDn]
    simp[round,Tryz.f97,a97,reg97,loop97,draw97,dok97,ej,xz]
    repeat (rw[if_pos (by omega)];simp[round,Tryz.f97,a97,reg97,loop97,draw97,dok97,ej,xz])
theorem zZ(kind:Int)(n:Int)(hk:kind=5∨kind=6)(m:Mem):ai C0 97 [.int .i64 kind,.agg (Val.mk n [] []).cells,.nils] m=some (.ret (.str [123,125]),m):=by
 have ej:=AJ
 rw[ab C0 (aj _ (by decide)) (by rw[ay];exact Tryz.func97) rfl (by rw[ae];rfl) (by rw[ae];rfl) (by decide) (by simp[Tryz.f97])]
 have n4:¬kind=2∧¬kind=3∧¬kind=4:=by omega
 simp[Tryz.f97,a97,reg97,loop97,draw97,dok97,n4]
 rw[aG]
 simp[round,Tryz.f97,a97,reg97,loop97,draw97,dok97,ej,H7]
theorem map_id{n:Int}{v:Val}{f:Fun}(hf:au f=true)(h:okV exN n v f=true):eg idV v f=v:=by
 have h1:=sD n v f hf (xL n v f h)
 rw[rg n v f h] at h1
 exact(Option.some.inj h1).symm
def nw(F:Val→Bool):List (Val×Int)→Int
 |[]=>0
 |p::r=>(if F p.1 then p.2 else 0)+nw F r
theorem zb(F:Val→Bool)(a:Val)(w:Int):∀o:List (Val×Int),nw F (bg a w o)=nw F o+(if F a then w else 0)
 |[]=>by simp[bg,nw]
 |x::r=>by
  rw[bg]
  split
  ·rename_i h
   rw[bM] at h
   subst h
   simp only[nw]
   split<;>omega
  ·split
   ·simp only[nw];omega
   ·simp only[nw,zb F a w r];omega
theorem tq(F:Val→Bool):∀l o:List (Val×Int),nw F (aI o l)=nw F l+nw F o
 |[],o=>by simp[aI,nw]
 |p::r,o=>by
  rw[show aI o (p::r)=aI (bg p.1 p.2 o) r from rfl,tq F r,zb,nw]
  omega
theorem vZ(φ:Val→Val)(u:Val):∀l:List (Val×Int),wtP u (l.map fun p=>(φ p.1,p.2))=nw (fun x=>decide (aY (φ x) u=0)) l
 |[]=>rfl
 |p::r=>by
  rw[List.map_cons,wtP,nw,vZ φ u r]
  simp
theorem yB(φ:Val→Val)(l:List (Val×Int)):aI [] ((aI [] l).map fun p=>(φ p.1,p.2))=aI [] (l.map fun p=>(φ p.1,p.2)):=
 tz (eC _ _ List.Pairwise.nil) (eC _ _ List.Pairwise.nil)
  (fun v=>by
   rw[fA,fA]
   simp only[List.not_mem_nil,false_and,exists_false,or_false,List.mem_map]
   constructor
   ·rintro⟨_,⟨p,hp,rfl⟩,rfl⟩
    obtain⟨q,hq,he⟩:=(fA p.1 l []).1 ⟨p,hp,rfl⟩|>.resolve_right (by rintro⟨_,h,_⟩;cases h)
    exact⟨_,⟨q,hq,rfl⟩,by simp only[he]⟩
   ·rintro⟨_,⟨p,hp,rfl⟩,rfl⟩
    obtain⟨q,hq,he⟩:=(fA p.1 l []).2 (.inl ⟨p,hp,rfl⟩)
    exact⟨_,⟨q,hq,rfl⟩,by simp only[he]⟩)
  (fun v=>by
   rw[jY,jY,vZ,vZ,tq]
   simp[nw,wtP])
theorem ux(g:Int)(u:Val)(w:Int):∀o:List (Val×Int),bg u (g*w) (o.map fun p=>(p.1,g*p.2))=(bg u w o).map fun p=>(p.1,g*p.2)
 |[]=>by simp[bg]
 |x::r=>by
  rw[List.map_cons,bg,bg]
  simp only
  split
  ·simp[Int.mul_add]
  ·split
   ·simp
   ·rw[ux g u w r];simp
theorem pT(g:Int):∀l o:List (Val×Int),aI (o.map fun p=>(p.1,g*p.2)) (l.map fun p=>(p.1,g*p.2))=(aI o l).map fun p=>(p.1,g*p.2)
 |[],o=>rfl
 |p::r,o=>by
  rw[List.map_cons,show aI o (p::r)=aI (bg p.1 p.2 o) r from rfl,←pT g r]
  show aI (bg p.1 (g*p.2) (o.map fun p=>(p.1,g*p.2))) _=_
  rw[ux]
theorem ue(g:Nat):∀(l:List Int) (a:Nat),mH (g*a) (l.map fun w=>(g:Int)*w)=g*mH a l
 |[],a=>rfl
 |w::r,a=>by
  have:((g:Int)*w).natAbs=g*w.natAbs:=by rw[Int.natAbs_mul];rfl
  show mH (Nat.gcd (g*a) ((g:Int)*w).natAbs) _=g*mH (Nat.gcd a w.natAbs) r
  rw[this,Nat.gcd_mul_left,ue g r]
theorem CL{g:Nat}(hg:0<g)(l:List Int):bH (l.map fun w=>(g:Int)*w)=bH l:=by
 unfold bH
 rw[List.map_map]
 have h:dz (l.map fun w=>(g:Int)*w)=g*dz l:=by
  have:=ue g l 0
  rwa [Nat.mul_zero] at this
 rw[h]
 apply List.map_congr_left
 intro w _
 show((g:Int)*w).tdiv ((g*dz l:Nat):Int)=_
 rw[Int.natCast_mul]
 exact Int.mul_tdiv_mul_of_pos _ _ (by omega)
theorem ib(φ:Val→Val):∀(xs:List Val) (w:List Int),(xs.map φ).zip w=(xs.zip w).map fun p=>(φ p.1,p.2)
 |[],w=>by simp
 |x::r,[]=>by simp
 |x::r,k::q=>by simp[ib φ r q]
theorem jq:∀l:List (Val×Int),(l.map (·.1)).zip (l.map (·.2))=l
 |[]=>rfl
 |p::r=>by simp[jq r]
theorem oE(φ:Val→Val)(kind:Int)(xs:List Val)(w:List Int):bD kind (xs.map φ) w=bD kind xs w:=by
 unfold bD
 split
 ·rfl
 ·simp
theorem CX(φ:Val→Val){kind:Int}{xs:List Val}{w:List Int}(hk:bc kind=true)(hw:wtd kind=true→w.length=xs.length∧∀x,x∈w→1≤x)(h7:kind=7→0<xs.length):
  aW kind 0 ((aW kind 0 xs w).args.map φ) (aW kind 0 xs w).ws=aW kind 0 (xs.map φ) w:=by
 have hR:aE kind (xs.map φ) w=aI [] ((aE kind xs w).map fun p=>(φ p.1,p.2)):=by
  unfold aE
  rw[oE,ib,yB]
 have hwl:wtd kind=true→(xs.zip (bD kind xs w)).map (·.2)=w:=fun h=>by
  have:bD kind xs w=w:=by unfold bD;rw[if_pos h]
  rw[this]
  exact fK (hw h).1
 have hpos:wtd kind=true→∀p,p∈aE kind xs w→1≤p.2:=fun h=>kP _ _ (fun p hp=>(hw h).2 _ (by rw[←hwl h];exact List.mem_map_of_mem hp)) (fun p hp=>by cases hp)
 cases hwt:wtd kind
 ·have h5:kind=5:=by unfold bc at hk;rw[hwt,Bool.or_false] at hk;simpa using hk
  have hz:∀p,p∈aE kind xs w→p.2=0:=fun p hp=>by
   have h0:∀l o:List (Val×Int),(∀p,p∈l→p.2=0)→(∀p,p∈o→p.2=0)→∀p,p∈aI o l→p.2=0:=by
    have hi:∀(u:Val) (o:List (Val×Int)),(∀p,p∈o→p.2=0)→∀p,p∈bg u 0 o→p.2=0:=by
     intro u o
     induction o with
     |nil=>intro _ p hp;rw[bg,List.mem_singleton] at hp;rw[hp]
     |cons x r ih=>
      intro ho p hp
      rw[bg] at hp
      split at hp
      ·rcases List.mem_cons.1 hp with rfl|hp
       ·have:=ho x List.mem_cons_self;simp[this]
       ·exact ho p (List.mem_cons_of_mem _ hp)
      ·split at hp
       ·rcases List.mem_cons.1 hp with rfl|hp
        ·rfl
        ·exact ho p hp
       ·rcases List.mem_cons.1 hp with rfl|hp
        ·exact ho _ List.mem_cons_self
        ·exact ih (fun q hq=>ho q (List.mem_cons_of_mem _ hq)) p hp
    intro l
    induction l with
    |nil=>intro o _ ho p hp;exact ho p hp
    |cons x r ih=>
     intro o hl ho p hp
     have hx:=hl x List.mem_cons_self
     refine ih (bg x.1 x.2 o) (fun q hq=>hl q (List.mem_cons_of_mem _ hq)) ?_ p hp
     rw[hx]
     exact hi x.1 o ho
   refine h0 _ _ (fun q hq=> ?_) (fun q hq=>by cases hq) p hp
   have:=(mj hq).2
   unfold bD at this
   rw[hwt] at this
   simp at this
   exact this.2.symm
  have hL:aE kind ((aW kind 0 xs w).args.map φ) (aW kind 0 xs w).ws=aI [] ((aE kind xs w).map fun p=>(φ p.1,p.2)):=by
   show aI [] ((((aE kind xs w).map (·.1)).map φ).zip (bD kind (((aE kind xs w).map (·.1)).map φ) _))=_
   rw[oE,ib]
   congr 2
   have:∀(q:List Int),bD kind ((aE kind xs w).map (·.1)) q=(aE kind xs w).map (·.2):=fun q=>by
    unfold bD
    rw[hwt]
    simp only[Bool.false_eq_true,if_false,List.map_map]
    apply List.map_congr_left
    intro p hp
    rw[hz p hp]
    rfl
   rw[this,jq]
  show Val.mk 0 ((aE kind ((aW kind 0 xs w).args.map φ) (aW kind 0 xs w).ws).map (·.1)) _=Val.mk 0 ((aE kind (xs.map φ) w).map (·.1)) _
  rw[hL,←hR]
 ·by_cases h7':kind=7
  ·have hg:0<dz ((aE kind xs w).map (·.2)):=by
    refine jQ (fun h=> ?_) fun x hx=>by
     obtain⟨p,hp,rfl⟩:=List.mem_map.1 hx
     exact hpos hwt p hp
    have h1:=h7 h7'
    have h2:aE kind xs w≠[]:=jM _ _ (.inr fun h=>by
     have:=congrArg List.length h
     rw[List.length_zip] at this
     have hws:bD kind xs w=w:=by unfold bD;rw[if_pos hwt]
     rw[hws,(hw hwt).1] at this
     simp at this
     rw[this] at h1
     simp at h1)
    exact h2 (List.map_eq_nil_iff.1 h)
   generalize hgv:dz ((aE kind xs w).map (·.2))=g at hg
   have hdv:∀p,p∈aE kind xs w→(g:Int)*p.2.tdiv g=p.2:=fun p hp=>by
    have h1:=(fY ((aE kind xs w).map (·.2)) 0).2 _ (List.mem_map_of_mem hp)
    rw[show mH 0 ((aE kind xs w).map (·.2))=g from hgv] at h1
    have h2:=hpos hwt p hp
    obtain⟨c,hc⟩:=h1
    have h3:p.2=(g:Int)*(c:Int):=by
     have:p.2=(p.2.natAbs:Int):=by omega
     rw[this,hc,Int.natCast_mul]
    rw[h3,Int.mul_tdiv_cancel_left _ (by omega)]
   have hws:(aW kind 0 xs w).ws=(aE kind xs w).map fun p=>p.2.tdiv g:=by
    show(if kind=7 then bH ((aE kind xs w).map (·.2)) else _)=_
    rw[if_pos h7']
    unfold bH
    rw[hgv,List.map_map]
    rfl
   generalize hQ:((aE kind xs w).map fun p=>(p.1,p.2.tdiv g))=Q
   have hPQ:aE kind xs w=Q.map fun p=>(p.1,(g:Int)*p.2):=by
    rw[←hQ,List.map_map]
    conv=>lhs;rw[←List.map_id (aE kind xs w)]
    apply List.map_congr_left
    intro p hp
    simp only[Function.comp_apply,hdv p hp]
    rfl
   have hL:aE kind ((aW kind 0 xs w).args.map φ) (aW kind 0 xs w).ws=aI [] (Q.map fun p=>(φ p.1,p.2)):=by
    show aI [] ((((aE kind xs w).map (·.1)).map φ).zip (bD kind (((aE kind xs w).map (·.1)).map φ) _))=_
    rw[oE,ib,hws]
    congr 2
    have:bD kind ((aE kind xs w).map (·.1)) ((aE kind xs w).map fun p=>p.2.tdiv g)=(aE kind xs w).map fun p=>p.2.tdiv g:=by unfold bD;rw[if_pos hwt]
    rw[this]
    have h1:(aE kind xs w).map (·.1)=Q.map (·.1):=by rw[←hQ,List.map_map];rfl
    have h2:((aE kind xs w).map fun p=>p.2.tdiv g)=Q.map (·.2):=by rw[←hQ,List.map_map];rfl
    rw[h1,h2,jq]
   have hRR:aE kind (xs.map φ) w=(aI [] (Q.map fun p=>(φ p.1,p.2))).map fun p=>(p.1,(g:Int)*p.2):=by
    rw[hR,hPQ,←pT,List.map_map,List.map_map]
    rfl
   show Val.mk 0 ((aE kind ((aW kind 0 xs w).args.map φ) (aW kind 0 xs w).ws).map (·.1)) (if kind=7 then bH ((aE kind ((aW kind 0 xs w).args.map φ) (aW kind 0 xs w).ws).map (·.2)) else _)=Val.mk 0 ((aE kind (xs.map φ) w).map (·.1)) (if kind=7 then bH ((aE kind (xs.map φ) w).map (·.2)) else _)
   rw[if_pos h7',if_pos h7',hL,hRR,List.map_map,List.map_map]
   congr 1
   rw[←CL hg ((aI [] (Q.map fun p=>(φ p.1,p.2))).map (·.2)),List.map_map]
   rfl
  ·have hws:(aW kind 0 xs w).ws=(aE kind xs w).map (·.2):=by
    show(if kind=7 then _ else if wtd kind then _ else _)=_
    rw[if_neg h7',if_pos hwt]
   have hL:aE kind ((aW kind 0 xs w).args.map φ) (aW kind 0 xs w).ws=aI [] ((aE kind xs w).map fun p=>(φ p.1,p.2)):=by
    show aI [] ((((aE kind xs w).map (·.1)).map φ).zip (bD kind (((aE kind xs w).map (·.1)).map φ) _))=_
    rw[oE,ib,hws]
    congr 2
    have:bD kind ((aE kind xs w).map (·.1)) ((aE kind xs w).map (·.2))=(aE kind xs w).map (·.2):=by unfold bD;rw[if_pos hwt]
    rw[this,jq]
   show Val.mk 0 ((aE kind ((aW kind 0 xs w).args.map φ) (aW kind 0 xs w).ws).map (·.1)) (if kind=7 then _ else if wtd kind then(aE kind ((aW kind 0 xs w).args.map φ) (aW kind 0 xs w).ws).map (·.2) else _)=Val.mk 0 ((aE kind (xs.map φ) w).map (·.1)) (if kind=7 then _ else if wtd kind then(aE kind (xs.map φ) w).map (·.2) else _)
   rw[if_neg h7',if_neg h7',if_pos hwt,if_pos hwt,hL,←hR]
theorem nz{t:Int→Val}{c:Fun}:∀(l:List Val) (g:Nat→Fun) (i:Nat),(∀j,g j=c)→ci t l g i=l.map fun x=>eg t x c
 |[],g,i,_=>by rw[ci];rfl
 |v::r,g,i,h=>by rw[ci,h,nz r g (i+1) h,List.map_cons]
mutual
theorem map_map{ex:Fun→List Val→List Int→Bool}{n:Int}(to:Int→Int)(t:Int→Val):∀(v:Val) (f:Fun),au f=true→okV ex n v f=true→eg t (eg (fun x=>idV (to x)) v f) f=eg (fun x=>t (to x)) v f
 | .mk k l w,f,hf,h=>by
   rw[okV,Bool.and_eq_true,Bool.and_eq_true] at h
   obtain⟨⟨hh,_⟩,hl⟩:=h
   rw[eg,eg]
   by_cases h0:f.kind=0
   ·rw[if_pos h0,if_pos h0]
    unfold idV
    rw[eg,if_pos h0]
   rw[if_neg h0,if_neg h0]
   by_cases h1:f.kind=1
   ·rw[if_pos h1,if_pos h1,eg,if_neg h0,if_pos h1]
   rw[if_neg h1,if_neg h1]
   have ih:=xb to t l (aB f k) 0 (eR hf h0 h1 hh) hl
   by_cases h2:f.kind=2
   ·rw[if_pos h2,if_pos h2,eg,if_neg h0,if_neg h1,if_pos h2]
    have:aB f 0=aB f k:=by funext i;unfold aB;rw[if_pos h2,if_pos h2]
    rw[this,ih]
   rw[if_neg h2,if_neg h2]
   by_cases h3:f.kind=3
   ·rw[if_pos h3,if_pos h3,eg,if_neg h0,if_neg h1,if_neg h2,if_pos h3,ih]
   rw[if_neg h3,if_neg h3]
   have hg:∀N j,aB f N j=f.args.getD 0 bN:=fun N j=>by unfold aB;rw[if_neg h2,if_neg h3]
   by_cases h4:f.kind=4
   ·rw[if_pos h4,if_pos h4,eg,if_neg h0,if_neg h1,if_neg h2,if_neg h3,if_pos h4]
    have:aB f 0=aB f k:=by funext i;rw[hg,hg]
    rw[this,ih]
   rw[if_neg h4,if_neg h4]
   have hset:bc f.kind=true:=by
    have:=ba hf
    unfold bc wtd
    simp
    omega
   have hss:=(fO hset).1 hh
   have hml:=ju (fun x=>idV (to x)) l (aB f k) 0
   have hw:wtd f.kind=true→w.length=(ci (fun x=>idV (to x)) l (aB f k) 0).length∧∀x,x∈w→1≤x:=fun h=>by
    rw[if_pos h] at hss
    have h2:=(ee w 0 (by omega)).1 hss.2.1
    exact⟨by omega,h2.1⟩
   have h7:f.kind=7→0<(ci (fun x=>idV (to x)) l (aB f k) 0).length:=fun h=>by
    have hw7:wtd f.kind=true:=by rw[h];rfl
    rw[if_pos hw7] at hss
    have:=hss.2.2.2
    omega
   have key:=CX (fun x=>eg t x (f.args.getD 0 bN)) hset hw h7
   rw[←nz (ci (fun x=>idV (to x)) l (aB f k) 0) _ 0 (hg k),ih] at key
   rw[←key,wJ,if_neg h0,if_neg h1,if_neg h2,if_neg h3,if_neg h4,nz _ _ _ (hg _)]
theorem xb{ex:Fun→List Val→List Int→Bool}{n:Int}(to:Int→Int)(t:Int→Val):∀(l:List Val) (g:Nat→Fun) (i:Nat),(∀j,j<l.length→au (g (i+j))=true)→okL ex n l g i=true→ci t (ci (fun x=>idV (to x)) l g i) g i=ci (fun x=>t (to x)) l g i
 |[],g,i,_,_=>by rw[ci,ci,ci]
 |v::r,g,i,hs,h=>by
  rw[okL,Bool.and_eq_true] at h
  rw[ci,ci,ci,map_map to t v (g i) (hs 0 (by simp)) h.1,xb to t r g (i+1) (fun j hj=>by have:=hs (j+1) (by simpa using hj);rwa [show i+(j+1)=i+1+j by omega] at this) h.2]
end
section
variable {g:FuncId} {caps:List A}
end
section
variable {f:Fun} {n:Int} {v:Val}
end
theorem xY{l:List Nat}{M L L':List (List A)}{R J':List Row}{tm:List (Nat×A)}(hJ:J'.all (fun r=>r.cs.all (closed 0 0))=true)(hL:L.length≤L'.length)(hl:l.all (fun t=>closed (M.length+L.length) (R.length+J'.length) (lk t tm))=true)(hc:(L'.take L.length).all (fun cs=>cs.all (closed (M.length+L.length) (R.length+J'.length)))=true):
  endRound (some l) ⟨M++L,R⟩ ⟨tm,⟨M++L',R++J'⟩⟩=some ⟨prune (some l) tm,⟨M++L'.take L.length,R++J'⟩⟩:=by
 have:=aK (J:=[]) hJ hL hl hc
 simpa using this
def xf(l:List (List UInt8)):List Row:=if l.length=0 then [] else [⟨9,bv l⟩]
def sA(id:Nat)(l:List (List UInt8)):A:=if l.length=0 then .nils else .sl id l.length 0 l.length
def wy(ex:Fun→List Val→List Int→Bool)(n:Int)(v:Val):Prop:=∀f,au f=true→okV ex n v f=true→∀m:Mem,ai C0 54 [.agg f.cells,.agg v.cells] m=some (.ret (.str (dL v f)),m)
theorem yf(L:List (List UInt8)):∃K:Nat→List (List UInt8),K 0=[]∧(∀i,i≤L.length→(K i).length=i)∧(∀(i:Nat) (h:i<L.length),bv (K (i+1))=bv (K i)++[.str L[i]])∧K L.length=L:=
 ⟨fun i=>L.take i,by simp,fun i h=>by simp;omega,fun i h=>by dsimp only;rw[List.take_succ_eq_append_getElem h,bP];rfl,by simp⟩
set_option maxHeartbeats 8000000 in
theorem AA{ex:Fun→List Val→List Int→Bool}{n:Int}(hn:n≤1000000)(v:Val)(hb:v.nodes≤1000000)(H:∀u,u∈v.args→wy ex n u):wy ex n v:=by
 intro f hf hok m
 have hlen:=gI hn v f hf hok
 rw[nJ,Bool.and_eq_true,Bool.and_eq_true] at hok
 obtain⟨⟨hh,_⟩,hokl⟩:=hok
 have hr:=ng hf hn hh
 have hws:=v8 hh
 have hlna:=v.length_args
 obtain⟨hd1,hd2,hd3⟩:=eT hh
 have hk7:0≤f.kind∧f.kind≤7:=by have:=ba hf;omega
 rw[ab C0 (aj _ (by decide)) (by rw[ay];exact Tryz.func54) rfl (by rw[ae];rfl) (by rw[ae];rfl) (by decide) (by simp[Tryz.f54])]
 by_cases h01:f.kind=0∨f.kind=1
 ·have hdg:=mq v.num hr.1 hr.2.1
  rw[oH,if_pos h01]
  rcases h01 with h|h
  ·simp[Tryz.f54,a54,reg54,loop54,draw54,dok54,h,hdg]
  ·simp[Tryz.f54,a54,reg54,loop54,draw54,dok54,h,hdg]
 have hk0:¬f.kind=0:=fun h=>h01 (.inl h)
 have hk1:¬f.kind=1:=fun h=>h01 (.inr h)
 have hpb:kH f v=true:=by
  rw[ni hf,Bool.and_eq_true,Bool.and_eq_true] at hh
  exact hh.1.1
 have hp:=tj f v hf (by omega)
 obtain⟨hPl,hPa⟩:=sZ hf hpb
 simp[hpb] at hp
 generalize ip f v=P at hp hPl hPa
 have hs4:=eR hf hk0 hk1 hh
 have hsum:=mF hn v.args (aB f v.num) 0 hs4 hokl
 have hvn:=v.nodes_eq
 have htl:=d8 v.args (aB f v.num) 0
 have hta:=fun j h=>kc v.args (aB f v.num) 0 j h
 rw[oH,if_neg h01]
 obtain⟨K,hK0,hKl,hKs,hKe⟩:=yf (cK v.args (aB f v.num) 0)
 have hKx:∀(i:Nat) (h:i<v.args.length),bv (K (i+1))=bv (K i)++[.str (dL v.args[i] (aB f v.num i))]:=fun i h=>by
  rw[hKs i (by omega),hta i h,Nat.zero_add]
 clear hKs hta
 rw[htl] at hKl hKe
 generalize cK v.args (aB f v.num) 0=L at*
 simp[Tryz.f54,a54,reg54,loop54,draw54,dok54,hk0,hk1,hp]
 refine aC (fun i:Nat=>⟨[(2,.ptr m.bx.length 0),(3,.ptr (m.bx.length+1) 0),(5,.isl false P.length (Fun.cellsL P)),(7,sA m.rw.length (K i)),(28,.isl false v.args.length (Val.cellsL v.args)),(29,.int .i64 v.args.length),(30,.int .i64 i)],
   ⟨m.bx++[f.cells,v.cells],m.rw++xf (K i)⟩⟩)
  (fun i=>some (.ret (.str (cj f.kind v.num L v.ws)),m)) (fun i=>v.args.length-i) (fun i=>i≤v.args.length) 0 ?_ ?_ ?_ ?_ ?_
 ·simp[sA,xf,hK0]
 ·simp
 ·simp
 ·intro x;simp[Tryz.f54,a54,reg54,loop54,draw54,dok54]
 ·intro i hi hrec
  have hil:=hKl i hi
  by_cases hlt:i<v.args.length
  ·have w2:IntKind.i64.wrap (i+1)=i+1:=al _ (by omega)
   have h3:(i+1)*3≤v.args.length*3:=by omega
   have hiP:i<P.length:=by omega
   have hgi:=hPa i hiP
   have hgs:=hs4 i hlt
   have o0:=d7 hokl i hlt
   rw[Nat.zero_add] at hgs o0
   have he:=H v.args[i] (List.getElem_mem hlt) (aB f v.num i) hgs o0
   have b3:=Val.at_cellsL v.args i hlt
   have b1:=Fun.at_cellsL P i hiP
   rw[hgi] at b1
   have hkx:=hKx i hlt
   have hil2:=hKl (i+1) (by omega)
   simp at he b1 b3
   cases hKi:K i with
   |nil=>
    rw[hKi] at hil hkx
    have hi0:i=0:=by simpa using hil.symm
    subst hi0
    simp at b1 b3
    simp[round,Tryz.f54,a54,reg54,loop54,draw54,dok54,hlt,w2,h3,hiP,show 3≤P.length*3 by omega,show 3≤v.args.length*3 by omega,b1,b3,he,sA,xf,xY]
    refine hrec 1 _ _ ?_ ?_ ?_ ?_
    ·omega
    ·omega
    ·simp[sA,xf,hil2,hkx]
    ·simp
   |cons y r=>
    rw[hKi] at hil hkx
    have hr1:r.length+1=i:=by simpa using hil
    simp[round,Tryz.f54,a54,reg54,loop54,draw54,dok54,hlt,w2,h3,hiP,show(i+1)*3≤P.length*3 by omega,b1,b3,he,sA,xf,show(r.length+1+1)*16≤70368744177664 by omega,show r.length+1+1≤70368744177664 by omega,aK]
    refine hrec (i+1) _ _ ?_ ?_ ?_ ?_
    ·omega
    ·omega
    ·simp[sA,xf,hil2,hkx,hr1]
    ·simp
  ·clear hrec
   obtain rfl:i=v.args.length:=by omega
   rw[hKe]
   by_cases hz0:v.args.length=0
   ·have hL0:L=[]:=List.eq_nil_of_length_eq_zero (by omega)
    have ha0:v.args=[]:=List.eq_nil_of_length_eq_zero hz0
    have hss:=fO (n:=n) (f:=f) (k:=v.num) (m:=v.args.length) (w:=v.ws)
    have hk56:f.kind=5∨f.kind=6:=by
     have hk:=ba hf
     have hn4:=(dZ hf).2.2.1
     unfold bn at hh
     simp only[Bool.and_eq_true] at hh
     obtain⟨⟨q1,q2⟩,q3⟩:=hh
     rw[hz0] at q1 q3
     rw[if_neg h01] at q1
     by_cases h2:f.kind=2
     ·rw[if_pos h2,decide_eq_true_eq] at q1;omega
     rw[if_neg h2] at q1
     by_cases h3:f.kind=3
     ·rw[if_pos h3] at q1;simp at q1
     rw[if_neg h3] at q1
     by_cases h4:f.kind=4
     ·rw[if_pos h4] at q1;simp at q1;have:=hn4 h4;omega
     by_cases h7:f.kind=7
     ·rw[if_pos (by rw[h7];rfl)] at q3
      simp[h7] at q3
     omega
    have hw0:v.ws=[]:=by
     cases h:wtd f.kind
     ·exact hd2 h
     ·exact List.eq_nil_of_length_eq_zero (by rw[hws.2 h];exact hz0)
    have hn0:v.num=0:=hd1 hk0 hk1 (by omega)
    have he:=zZ f.kind v.num hk56
    have har:cj f.kind v.num L v.ws=[123,125]:=by
     rw[hL0,hw0]
     unfold cj
     rcases hk56 with h|h<;>rw[h]<;>rfl
    rw[har]
    simp at he
    simp[round,Tryz.f54,a54,reg54,loop54,draw54,dok54,sA,xf,hL0,ha0,hw0,he,hz0]
   ·have hL1:0<L.length:=by omega
    have hsb:cy L+20*L.length≤100000000:=by omega
    obtain⟨r',hr',he⟩:=Ar f.kind v L m.rw.length (m.bx++[f.cells,v.cells]) (m.rw++[⟨9,bv L⟩]) (by simp) hL1 (by omega) hk7.2 (fun h=>by have:=hr.2.2;rw[if_neg hk0,if_neg hk1,if_pos h] at this;omega) hd2 (fun h=>by rw[hws.2 h];omega) (fun x hx=>by have:=hws.1 x hx;omega) hsb
    rw[htl] at he
    simp at he
    simp[round,Tryz.f54,a54,reg54,loop54,draw54,dok54,sA,xf,htl,hz0,he]
theorem BS(s:List UInt8):∀b,b∈s.take (bd s)→be b=true:=fun b h=>yo h
theorem wo:∀(N:Nat) (s:List UInt8) (l:List (List UInt8)),s.length≤N→s.length≤1000000→tok s=some l→gH l∧l.length≤s.length
 |0,s,l,hN,hs,h=>by
  have:s=[]:=List.eq_nil_of_length_eq_zero (by omega)
  subst this
  rw[kR] at h
  cases h
  exact⟨fun t ht=>(by cases ht),by simp⟩
 |N+1,[],l,hN,hs,h=>by
  rw[kR] at h
  cases h
  exact⟨fun t ht=>(by cases ht),by simp⟩
 |N+1,c::r,l,hN,hs,h=>by
  rw[jb] at h
  simp only[List.length_cons] at hN hs⊢
  split at h
  ·obtain⟨h1,h2⟩:=wo N r l (by omega) (by omega) h
   exact⟨h1,by omega⟩
  ·split at h
   ·rename_i hd
    obtain⟨q,h1,rfl⟩:=Option.map_eq_some_iff.1 h
    obtain⟨h2,h3⟩:=wo N _ q (by simp;omega) (by simp;omega) h1
    refine⟨fun t ht=> ?_,by simp at h3⊢;omega⟩
    rcases List.mem_cons.1 ht with rfl|ht
    ·refine⟨c,_,rfl,by simp;omega,fun _ b hb=> ?_⟩
     rcases List.mem_cons.1 hb with rfl|hb
     ·exact hd
     ·exact BS r b hb
    ·exact h2 t ht
   ·rename_i hd
    split at h
    ·obtain⟨q,h1,rfl⟩:=Option.map_eq_some_iff.1 h
     obtain⟨h2,h3⟩:=wo N r q (by omega) (by omega) h1
     refine⟨fun t ht=> ?_,by simp;omega⟩
     rcases List.mem_cons.1 ht with rfl|ht
     ·exact⟨c,[],rfl,by simp,fun hc=>absurd hc hd⟩
     ·exact h2 t ht
    ·cases h
set_option maxHeartbeats 4000000 in
theorem DR(f:Fun)(hf:au f=true)(s:List UInt8)(hs:Sm s)(m:Mem):
  ai C0 111 [.agg f.cells,.str s] m=some (.ret (.tup [.agg (mM f s).1.cells,.bool (mM f s).2]),m):=by
 rw[ab C0 (aj _ (by decide)) (by rw[ay];exact Tryz.func111) rfl (by rw[ae];rfl) (by rw[ae];rfl) (by decide) (by simp[Tryz.f111])]
 have hs':s.length≤1000000:=hs
 have e1:=CH s hs'
 unfold mM
 cases ht:tok s with
 |none=>
  rw[ht] at e1
  simp[dJ,qT] at e1
  simp[Tryz.f111,a111,reg111,draw111,dok111,e1]
 |some l=>
  rw[ht] at e1
  obtain⟨h1,h2⟩:=wo s.length s l (Nat.le_refl _) hs' ht
  simp[dJ,qT] at e1
  have e2:=CJ (m.bx.length+2) f.nodes f (Nat.le_refl _) hf (l,false) ⟨m.bx++[f.cells,[.int .i64 0,.nils,.nils],rd (l,false)],m.rw⟩ h1 (by simp only;omega) (by simp)
  simp only
  generalize (cg f.nodes f (l,false)).1=v at*
  generalize (cg f.nodes f (l,false)).2=q at*
  obtain⟨ql,qb⟩:=q
  simp at e2
  cases qb with
  |true=>simp[Tryz.f111,a111,reg111,draw111,dok111,e1,e2]
  |false=>
   by_cases h0:ql.length=0
   ·have h00:ql=[]:=List.eq_nil_of_length_eq_zero h0
    subst h00
    simp[Tryz.f111,a111,reg111,draw111,dok111,e1,e2]
   ·have h00:¬ql=[]:=fun h=>h0 (by rw[h];rfl)
    simp[Tryz.f111,a111,reg111,draw111,dok111,e1,e2,h0,h00]
set_option maxHeartbeats 4000000 in
theorem zW(f:Fun)(hf:au f=true)(n:Int)(hn0:0≤n)(hn1:n≤1000000)(s:List UInt8)(hs:Sm s)(m:Mem):
  ai C0 64 [.agg f.cells,.int .i64 n,.str s] m=some (.ret (.tup [.agg (jc f n s).1.cells,.int .i64 (jc f n s).2]),m):=by
 rw[ab C0 (aj _ (by decide)) (by rw[ay];exact Tryz.func64) rfl (by rw[ae];rfl) (by rw[ae];rfl) (by decide) (by simp[Tryz.f64])]
 unfold jc
 by_cases hb:40000<s.length
 ·have hb':(40000:Int)<s.length:=by omega
  simp[Tryz.f64,a64,reg64,hb,hb',bO]
 have hb':¬(40000:Int)<s.length:=by omega
 have e1:=DR f hf s hs
 obtain⟨r1,r2⟩:=pq hf hs
 have hc:=kU (f:=f) hs
 cases hok:(mM f s).2 with
 |false=>
  rw[hok] at e1
  simp at e1
  simp[Tryz.f64,a64,reg64,hb,hb',e1,bO]
 |true=>
  have h3:(bz f s).2=true:=by rw[←r1];exact hok
  rw[←r2 h3] at hc
  have e2:=rL f n (mM f s).1 hf hn0 hn1 (by omega) hc.2
  rw[hok] at e1
  simp at e1 e2
  simp[Tryz.f64,a64,reg64,hb,hb',e1,e2]
theorem DS{ex:Fun→List Val→List Int→Bool}{n:Int}(hn:n≤1000000)(N:Nat):∀(v:Val),v.nodes≤N→v.nodes≤1000000→wy ex n v:=by
 induction N with
 |zero=>intro v hN;have:=v.nodes_pos;omega
 |succ N ih=>
 intro v hN hb
 exact AA hn v hb fun u hu=>ih u (by have:=Val.nodes_arg hu;omega) (by have:=Val.nodes_arg hu;omega)
theorem qh(k:Nat)(h:k≤9):(Utf8.encode (48+k:Int)).data.toList=[UInt8.ofNat (48+k)]:=by
 have:k=0∨k=1∨k=2∨k=3∨k=4∨k=5∨k=6∨k=7∨k=8∨k=9:=by omega
 rcases this with rfl|rfl|rfl|rfl|rfl|rfl|rfl|rfl|rfl|rfl<;>decide
set_option maxHeartbeats 2000000 in
theorem rz(k:Nat)(h:k≤9)(m:Mem):ai C0 53 [.int .i64 k] m=some (.ret (.str [UInt8.ofNat (48+k)]),m):=by
 rw[ab C0 (aj _ (by decide)) (by rw[ay];exact Tryz.func53) rfl (by rw[ae];rfl) (by rw[ae];rfl) (by decide) (by simp[Tryz.f53])]
 have h1:(k:Int).tmod 10=k:=Int.tmod_eq_of_lt (by omega) (by omega)
 have w1:IntKind.i64.wrap (48+k)=48+k:=al _ (by omega)
 have w2:IntKind.u8.wrap (48+k)=48+k:=Bx _ (by omega)
 have hl:(k:Int)<10:=by omega
 have hu:=qh k h
 simp[Tryz.f53,a53,reg53,h1,w1,w2,hl,hu]
set_option maxHeartbeats 2000000 in
theorem qu(k:Int)(h0:0≤k)(h1:k≤16)(m:Mem):ai C0 53 [.int .i64 k] m=some (.ret (.str (tn k)),m):=by
 obtain⟨n,rfl⟩:∃n:Nat,k=n:=⟨k.toNat,by omega⟩
 by_cases hn:n≤9
 ·rw[rz n hn]
  have:(n:Int)<10:=by omega
  simp[tn,this]
 ·rw[ab C0 (aj _ (by decide)) (by rw[ay];exact Tryz.func53) rfl (by rw[ae];rfl) (by rw[ae];rfl) (by decide) (by simp[Tryz.f53])]
  obtain⟨j,rfl⟩:∃j:Nat,n=10+j:=⟨n-10,by omega⟩
  have hj:j≤6:=by omega
  have e1:=rz 1 (by omega)
  have h1:((10+j:Nat):Int).tmod 10=j:=by
   have:((10+j:Nat):Int).tmod 10=((10+j) % 10:Nat):=by rw[Int.tmod_eq_emod_of_nonneg (by omega)];omega
   rw[this];omega
  have h2:((10+j:Nat):Int).tdiv 10=1:=by rw[Int.tdiv_eq_ediv_of_nonneg (by omega)];omega
  have w1:IntKind.i64.wrap (48+j)=48+j:=al _ (by omega)
  have w2:IntKind.u8.wrap (48+j)=48+j:=Bx _ (by omega)
  have hl:¬((10+j:Nat):Int)<10:=by omega
  have hu:=qh j (by omega)
  have hdg:tn ((10+j:Nat):Int)=[49,UInt8.ofNat (48+j)]:=by
   have h6:((10+j:Nat):Int).toNat=10+j:=by omega
   have h7:38+(10+j)=48+j:=by omega
   unfold tn
   rw[if_neg hl,h6,h7]
  generalize hq:((10+j:Nat):Int)=q at*
  have e1':∀m,ai C0 53 [.int .i64 1] m=some (.ret (.str [49]),m):=fun m=>e1 m
  simp[Tryz.f53,a53,reg53,h1,h2,w1,w2,hl,hu,e1',hdg]
theorem zF{k n:Int}{a b:Fun}:aH (.mk k n [a,b]) false=40::(aH (.mk k n [a,b]) true++[41]):=by
 rw[aH,aH,if_neg (by decide),if_pos rfl];rfl
set_option maxHeartbeats 8000000 in
theorem FV(N:Nat):∀(f:Fun),f.nodes≤N→f.nodes≤1000000→au f=true→(∀m:Mem,ai C0 96 [.agg f.cells] m=some (.ret (.str (aH f false)),m))∧∀m:Mem,ai C0 52 [.agg f.cells] m=some (.ret (.str (aH f true)),m):=by
 induction N with
 |zero=>intro f hN;have:=f.nodes_pos;omega
 |succ N ih=>
 intro f hN hb hsh
 rcases y9 hsh with rfl|⟨n,n1,n2,rfl⟩|⟨k,a,b,hk,ha,hb',rfl⟩|⟨n,a,n1,n2,ha,rfl⟩|⟨k,a,hk,ha,rfl⟩
 ·have hi:∀m:Mem,ai C0 96 [.agg (Fun.mk 0 0 []).cells] m=some (.ret (.str (aH (.mk 0 0 []) false)),m):=by
   intro m
   rw[ab C0 (aj _ (by decide)) (by rw[ay];exact Tryz.func96) rfl (by rw[ae];rfl) (by rw[ae];rfl) (by decide) (by simp[Tryz.f96])]
   simp[Tryz.f96,a96,reg96,aH]
  refine⟨hi,fun m=> ?_⟩
  rw[ab C0 (aj _ (by decide)) (by rw[ay];exact Tryz.func52) rfl (by rw[ae];rfl) (by rw[ae];rfl) (by decide) (by simp[Tryz.f52])]
  simp[aH] at hi
  simp[Tryz.f52,a52,reg52,draw52,dok52,aH,hi]
 ·have hdg:=qu n (by omega) n2
  have hi:∀m:Mem,ai C0 96 [.agg (Fun.mk 1 n []).cells] m=some (.ret (.str (aH (.mk 1 n []) false)),m):=by
   intro m
   rw[ab C0 (aj _ (by decide)) (by rw[ay];exact Tryz.func96) rfl (by rw[ae];rfl) (by rw[ae];rfl) (by decide) (by simp[Tryz.f96])]
   simp[Tryz.f96,a96,reg96,aH,hdg]
  refine⟨hi,fun m=> ?_⟩
  rw[ab C0 (aj _ (by decide)) (by rw[ay];exact Tryz.func52) rfl (by rw[ae];rfl) (by rw[ae];rfl) (by decide) (by simp[Tryz.f52])]
  simp[aH] at hi
  simp[Tryz.f52,a52,reg52,draw52,dok52,aH,hi]
 ·have hna:a.nodes≤N∧b.nodes≤N∧a.nodes≤1000000∧b.nodes≤1000000:=by
   rw[Fun.nodes_eq] at hN hb
   simp only[Fun.args_mk,Fun.nodesL] at hN hb
   omega
  have ea:=(ih a hna.1 hna.2.2.1 ha).1
  have eb:=(ih b hna.2.1 hna.2.2.2 hb').1
  have la:=aU a false
  have lb:=aU b false
  simp at ea eb
  have hs:∀m:Mem,ai C0 52 [.agg (Fun.mk k 0 [a,b]).cells] m=some (.ret (.str (aH (.mk k 0 [a,b]) true)),m):=by
   intro m
   rw[ab C0 (aj _ (by decide)) (by rw[ay];exact Tryz.func52) rfl (by rw[ae];rfl) (by rw[ae];rfl) (by decide) (by simp[Tryz.f52])]
   rcases hk with rfl|rfl
   ·simp[Tryz.f52,a52,reg52,draw52,dok52,aH,ea,eb]
    repeat (rw[if_pos (by omega)];simp[Tryz.f52,a52,reg52,draw52,dok52,aH,ea,eb])
   ·simp[Tryz.f52,a52,reg52,draw52,dok52,aH,ea,eb]
    repeat (rw[if_pos (by omega)];simp[Tryz.f52,a52,reg52,draw52,dok52,aH,ea,eb])
  refine⟨fun m=> ?_,hs⟩
  rw[ab C0 (aj _ (by decide)) (by rw[ay];exact Tryz.func96) rfl (by rw[ae];rfl) (by rw[ae];rfl) (by decide) (by simp[Tryz.f96])]
  have lt:=aU (.mk k 0 [a,b]) true
  rw[zF]
  generalize aH (.mk k 0 [a,b]) true=T at hs lt⊢
  simp at hs
  rcases hk with rfl|rfl
  ·simp[Tryz.f96,a96,reg96,hs]
   repeat (rw[if_pos (by omega)];simp[Tryz.f96,a96,reg96,hs])
  ·simp[Tryz.f96,a96,reg96,hs]
   repeat (rw[if_pos (by omega)];simp[Tryz.f96,a96,reg96,hs])
 ·have hna:a.nodes≤N∧a.nodes≤1000000:=by
   rw[Fun.nodes_eq] at hN hb
   simp only[Fun.args_mk,Fun.nodesL] at hN hb
   omega
  have ea:=(ih a hna.1 hna.2 ha).1
  have la:=aU a false
  have ld:=jx n
  have hdg:=qu n (by omega) (by omega)
  simp at ea
  have hi:∀m:Mem,ai C0 96 [.agg (Fun.mk 4 n [a]).cells] m=some (.ret (.str (aH (.mk 4 n [a]) false)),m):=by
   intro m
   rw[ab C0 (aj _ (by decide)) (by rw[ay];exact Tryz.func96) rfl (by rw[ae];rfl) (by rw[ae];rfl) (by decide) (by simp[Tryz.f96])]
   by_cases c4:a.kind=4
   ·have c4':=eq_true c4
    simp[Tryz.f96,a96,reg96,aH,ea,hdg,c4']
    repeat (rw[if_pos (by omega)];simp[Tryz.f96,a96,reg96,aH,ea,hdg,c4'])
   ·simp[Tryz.f96,a96,reg96,aH,ea,hdg,c4]
    repeat (rw[if_pos (by omega)];simp[Tryz.f96,a96,reg96,aH,ea,hdg,c4])
  have ht:aH (.mk 4 n [a]) true=aH (.mk 4 n [a]) false:=pZ hsh (by simp)
  refine⟨hi,fun m=> ?_⟩
  rw[ab C0 (aj _ (by decide)) (by rw[ay];exact Tryz.func52) rfl (by rw[ae];rfl) (by rw[ae];rfl) (by decide) (by simp[Tryz.f52])]
  rw[ht]
  generalize aH (.mk 4 n [a]) false=T at hi⊢
  simp at hi
  simp[Tryz.f52,a52,reg52,draw52,dok52,hi]
 ·have hna:a.nodes≤N∧a.nodes≤1000000:=by
   rw[Fun.nodes_eq] at hN hb
   simp only[Fun.args_mk,Fun.nodesL] at hN hb
   omega
  have ea:=(ih a hna.1 hna.2 ha).2
  have la:=aU a true
  simp at ea
  have hi:∀m:Mem,ai C0 96 [.agg (Fun.mk k 0 [a]).cells] m=some (.ret (.str (aH (.mk k 0 [a]) false)),m):=by
   intro m
   rw[ab C0 (aj _ (by decide)) (by rw[ay];exact Tryz.func96) rfl (by rw[ae];rfl) (by rw[ae];rfl) (by decide) (by simp[Tryz.f96])]
   rcases hk with rfl|rfl|rfl
   ·simp[Tryz.f96,a96,reg96,aH,ea,gP]
    repeat (rw[if_pos (by omega)];simp[Tryz.f96,a96,reg96,aH,ea,gP])
   ·simp[Tryz.f96,a96,reg96,aH,ea,gP]
    repeat (rw[if_pos (by omega)];simp[Tryz.f96,a96,reg96,aH,ea,gP])
   ·simp[Tryz.f96,a96,reg96,aH,ea,gP]
    repeat (rw[if_pos (by omega)];simp[Tryz.f96,a96,reg96,aH,ea,gP])
  have ht:aH (.mk k 0 [a]) true=aH (.mk k 0 [a]) false:=pZ hsh (by simp;omega)
  refine⟨hi,fun m=> ?_⟩
  rw[ab C0 (aj _ (by decide)) (by rw[ay];exact Tryz.func52) rfl (by rw[ae];rfl) (by rw[ae];rfl) (by decide) (by simp[Tryz.f52])]
  rw[ht]
  generalize aH (.mk k 0 [a]) false=T at hi⊢
  simp at hi
  rcases hk with rfl|rfl|rfl<;>simp[Tryz.f52,a52,reg52,draw52,dok52,hi]
set_option maxHeartbeats 4000000 in
theorem xW(f:Fun)(vs:List Val)(hf:f.nodes≤10000)(hb:Val.nodesL vs≤100000)(hn:vs.length≤1000)(hsh:au f=true)(hok:∀v∈vs,okV exS vs.length v f=true)(m:Mem):
  ai C0 18 [.agg (eG f (.isl false vs.length (Val.cellsL vs)))] m=some (.ret (.str (sj f vs)),m):=by
 rw[ab C0 (aj _ (by decide)) (by rw[ay];exact Tryz.func18) rfl (by rw[ae];rfl) (by rw[ae];rfl) (by decide) (by simp[Tryz.f18])]
 have hT:=(FV f.nodes f (Nat.le_refl _) (by omega) hsh).2
 have hl:=aU f true
 simp at hT
 have c1:5+(aH f true).length≤9223372036854775807:=by omega
 have c3:(aH f true).length≤9223372036854775801:=by omega
 simp[Tryz.f18,a18,reg18,loop18,draw18,dok18,hT,c1,c3]
 refine aC (fun i:Nat=>⟨[(1,.ptr m.bx.length 0),(3,.str (ig f++eD f 0 (vs.take i))),(12,.isl false vs.length (Val.cellsL vs)),(13,.int .i64 vs.length),(14,.int .i64 i)],
  ⟨m.bx++[[.int .i64 f.kind,.int .i64 f.num,.isl false f.args.length (Fun.cellsL f.args),.isl false vs.length (Val.cellsL vs)]],m.rw⟩⟩)
  (fun i=>some (.ret (.str (sj f vs)),m)) (fun i=>vs.length-i) (fun i=>i≤vs.length) 0 ?_ ?_ ?_ ?_ ?_
 ·simp[ig,eD]
 ·rfl
 ·simp
 ·intro x;simp[Tryz.f18,a18,reg18,loop18,draw18,dok18]
 ·intro i hi hrec
  by_cases hlt:i<vs.length
  ·have w2:IntKind.i64.wrap (i+1)=i+1:=al _ (by omega)
   have hmem:=List.getElem_mem hlt
   have hnv:=Val.nodes_mem hmem
   have g3:=Val.at_cellsL vs i hlt
   have h3:(i+1)*3≤vs.length*3:=by omega
   have hi1:=mq (i:Int) (by omega) (by omega)
   have hv1:=DS (ex:=exS) (n:=vs.length) (by omega) vs[i].nodes vs[i] (Nat.le_refl _) (by omega) f hsh (hok _ hmem)
   simp at hv1 hi1
   have hl1:(Lib.itoa (i:Int)).length≤7:=je (n:=i) (by omega) (by omega)
   have hl2:=gI (by omega) vs[i] f hsh (hok _ hmem)
   have hl3:=ko (n:=vs.length) (by omega) hsh (vs.take i) 0 (by simp;omega) fun v hv=>hok v (List.mem_of_mem_take hv)
   have hl4:Val.nodesL (vs.take i)≤Val.nodesL vs:=lG vs i
   have hl5:(ig f).length≤200000:=mh f hf
   have hb1:(Lib.itoa (i:Int)).length≤9223372036854775804:=by omega
   have hb2:(Lib.itoa (i:Int)).length+3+(dL vs[i] f).length≤9223372036854775807:=by omega
   have hb3:(Lib.itoa (i:Int)).length+((dL vs[i] f).length+1+1+1)≤9223372036854775806:=by omega
   have hb4:(ig f).length+(eD f 0 (vs.take i)).length+((Lib.itoa (i:Int)).length+((dL vs[i] f).length+1+1+1+1))≤9223372036854775807:=by omega
   simp[round,Tryz.f18,a18,reg18,loop18,draw18,dok18,hlt,w2,h3,g3,hi1,hv1,hb1,hb2,hb3,hb4,aZ]
   refine hrec (i+1) _ _ ?_ ?_ ?_ ?_
   ·omega
   ·omega
   ·rw[qd hlt]
    simp[nT]
   ·rfl
  ·clear hrec
   have hl:i=vs.length:=by omega
   subst hl
   simp[round,Tryz.f18,a18,reg18,loop18,draw18,dok18,sj]
theorem sW(s:List UInt8)(hs:s.length≤1000000000)(m:Mem):ai C0 61 [.str s] m=some (.ret (.str (aw 32 s)),m):=by
 rw[ab C0 (aj _ (by decide)) (by rw[ay];exact Tryz.func61) rfl (by rw[ae];rfl) (by rw[ae];rfl) (by decide) (by simp[Tryz.f61])]
 simp[Tryz.f61,a61,reg61,loop61]
 refine aC (fun q:List UInt8=>⟨[(0,.str q)],m⟩) (fun q=>some (.ret (.str (aw 32 q)),m)) (fun q=>q.length) (fun q=>q.length≤1000000000) s ?_ rfl hs ?_ ?_
 ·simp
 ·intro x;simp[Tryz.f61,a61,reg61,loop61]
 ·intro q hq hrec
  cases q with
  |nil=>
   simp[round,Tryz.f61,a61,reg61,loop61,aw]
  |cons c r=>
   by_cases hc:c=32
   ·subst hc
    simp at hq
    have h1:(1:Int)≤r.length+1:=by omega
    simp[round,Tryz.f61,a61,reg61,loop61,h1,aA]
    refine hrec r _ _ ?_ ?_ ?_ ?_
    ·simp
    ·omega
    ·rfl
    ·simp[aw]
   ·clear hrec
    have h2:¬(c.toNat:Int)=32:=fun e=>hc ((dX c 32).1 e)
    have h3:aw 32 (c::r)=c::r:=eu hc r
    simp[round,Tryz.f61,a61,reg61,loop61,h2,h3]
def wh(m:Mem)(l L:List (List UInt8)):Option (Res×Mem):=some (.ret (.isl false (l.length+L.length) (bv l++bv L)),m)
theorem EN{s:List UInt8}{a j:Nat}(ha:a≤j)(hj:j<s.length):(s.take (j+1)).drop a=(s.take j).drop a++[s[j]]:=by
 rw[List.take_succ_eq_append_getElem hj,List.drop_append_of_le_length (by simp;omega)]
set_option maxHeartbeats 4000000 in
theorem B4(s:List UInt8)(hs:s.length≤1000000)(m:Mem):ai C0 60 [.str s] m=wh m [] (eI [] s):=by
 rw[ab C0 (aj _ (by decide)) (by rw[ay];exact Tryz.func60) rfl (by rw[ae];rfl) (by rw[ae];rfl) (by decide) (by simp[Tryz.f60])]
 simp[Tryz.f60,a60,reg60,loop60]
 refine aC (fun x:Nat×Nat×List (List UInt8)=>⟨[(0,.str s),(3,cE m x.2.2),(4,.int .i64 x.2.1),(7,.int .i64 s.length),(8,.int .i64 x.1)],⟨m.bx,m.rw++cC x.2.2⟩⟩)
  (fun x=>wh m x.2.2 (eI ((s.take x.1).drop x.2.1) (s.drop x.1))) (fun x=>s.length-x.1) (fun x=>x.1≤s.length∧x.2.1≤x.1∧x.2.2.length≤x.1) (0,0,[]) ?_ ?_ ?_ ?_ ?_
 ·simp[cE,cC]
 ·simp
 ·simp
 ·intro x;simp[Tryz.f60,a60,reg60,loop60]
 ·rintro⟨j,a,l⟩ ⟨hj,ha,hl⟩ hrec
  simp only at hj ha hl
  by_cases hlt:j<s.length
  ·have w2:IntKind.i64.wrap (j+1)=j+1:=al _ (by omega)
   rw[List.drop_eq_getElem_cons hlt,eI]
   have h1:(a:Int)≤j:=by omega
   have h2:(j:Int)≤s.length:=by omega
   by_cases hc:s[j]=10
   ·have hc':(s[j].toNat:Int)=10:=by rw[hc];rfl
    rw[if_pos hc]
    cases l with
    |nil=>
     simp[round,Tryz.f60,a60,reg60,loop60,hlt,w2,cE,cC,eq_true hc',h1,h2,fq]
     refine hrec (j+1,j+1,[(s.take j).drop a]) _ _ ?_ ?_ ?_ ?_
     ·simp;omega
     ·simp;omega
     ·simp[cE,cC]
     ·simp[wh];omega
    |cons t l=>
     have h4:(l.length+1+1)*16≤70368744177664:=by simp at hl;omega
     have h5:l.length+1+1≤70368744177664:=by omega
     simp[round,Tryz.f60,a60,reg60,loop60,hlt,w2,cE,cC,eq_true hc',h1,h2,h4,h5,eN]
     refine hrec (j+1,j+1,t::l++[(s.take j).drop a]) _ _ ?_ ?_ ?_ ?_
     ·simp;omega
     ·simp at hl⊢;omega
     ·simp[cE,cC,bP]
     ·simp[wh,bP];omega
   ·have hc':¬(s[j].toNat:Int)=10:=fun e=>hc ((dX _ 10).1 e)
    rw[if_neg hc,←EN ha hlt]
    cases l with
    |nil=>
     simp[round,Tryz.f60,a60,reg60,loop60,hlt,w2,cE,cC,hc',aA]
     refine hrec (j+1,a,[]) _ _ ?_ ?_ ?_ ?_
     ·simp;omega
     ·simp;omega
     ·simp[cE,cC]
     ·simp
    |cons t l=>
     simp[round,Tryz.f60,a60,reg60,loop60,hlt,w2,cE,cC,hc',aA]
     refine hrec (j+1,a,t::l) _ _ ?_ ?_ ?_ ?_
     ·simp;omega
     ·simp at hl⊢;omega
     ·simp[cE,cC]
     ·simp
  ·clear hrec
   have he:j=s.length:=by omega
   subst he
   rw[List.drop_length,eI,List.take_length]
   by_cases haj:a<s.length
   ·have hne:¬s.drop a=[]:=fun e=>by have:=congrArg List.length e;simp at this;omega
    have h1:(a:Int)<s.length:=by omega
    have h2:(a:Int)≤s.length:=by omega
    rw[if_neg hne]
    cases l with
    |nil=>simp[round,Tryz.f60,a60,reg60,loop60,cE,cC,h1,h2,haj,wh]
    |cons t l=>
     have h4:(l.length+1+1)*16≤70368744177664:=by simp at hl;omega
     have h5:l.length+1+1≤70368744177664:=by omega
     simp[round,Tryz.f60,a60,reg60,loop60,cE,cC,h1,h2,haj,h4,h5,wh]
     exact List.take_of_length_le (by simp)
   ·have hne:s.drop a=[]:=List.drop_eq_nil_of_le (by omega)
    have h1:¬(a:Int)<s.length:=by omega
    rw[if_pos hne]
    cases l with
    |nil=>simp[round,Tryz.f60,a60,reg60,loop60,cE,cC,h1,haj,wh]
    |cons t l=>simp[round,Tryz.f60,a60,reg60,loop60,cE,cC,h1,haj,wh]
def jl(l:List UInt8)(x:Nat):List UInt8×Bool:=match lj l x with|some s=>(s,true)|none=>([],false)
set_option maxHeartbeats 4000000 in
theorem kq(l:List UInt8)(hl:l.length≤1000000)(x:Nat)(hx:x≤1000000)(m:Mem):ai C0 63 [.str l,.int .i64 x] m=some (.ret (.tup [.str (jl l x).1,.bool (jl l x).2]),m):=by
 rw[ab C0 (aj _ (by decide)) (by rw[ay];exact Tryz.func63) rfl (by rw[ae];rfl) (by rw[ae];rfl) (by decide) (by simp[Tryz.f63])]
 have ht:=sW l (by omega)
 have hd:=bf 32 l
 have hdg:=mq (x:Int) (by omega) (by omega)
 by_cases h1:(Lib.itoa (x:Int)).isPrefixOf (aw 32 l)=true
 case neg=>
  have hb:jl l x=([],false):=by simp[jl,lj,aO,h1]
  by_cases h2:(aw 32 l).length<(Lib.itoa (x:Int)).length
  ·simp[Tryz.f63,a63,reg63,ht,hdg,h2,hb]
  ·have h3:¬(aw 32 l).take (Lib.itoa (x:Int)).length=Lib.itoa (x:Int):=fun e=>h1 (gS.2 ⟨by omega,e⟩)
   have h4:(Lib.itoa (x:Int)).length≤(aw 32 l).length:=by omega
   simp[Tryz.f63,a63,reg63,ht,hdg,h2,h3,h4,hb]
 obtain⟨h2,h3⟩:=gS.1 h1
 have h5:¬(aw 32 l).length<(Lib.itoa (x:Int)).length:=by omega
 have ht2:=sW ((aw 32 l).drop (Lib.itoa (x:Int)).length) (by simp;omega)
 cases hq:aw 32 ((aw 32 l).drop (Lib.itoa (x:Int)).length) with
 |nil=>
  have hb:jl l x=([],false):=by simp[jl,lj,aO,h1,hq]
  simp[Tryz.f63,a63,reg63,ht,hdg,h2,h3,h5,ht2,hq,hb]
 |cons c r=>
  by_cases hc:c=61
  ·subst hc
   have hb:jl l x=(r,true):=by simp[jl,lj,aO,h1,hq]
   have h6:(1:Int)≤r.length+1:=by omega
   simp[Tryz.f63,a63,reg63,ht,hdg,h2,h3,h5,ht2,hq,hb,h6]
  ·have hc':¬(c.toNat:Int)=61:=fun e=>hc ((dX c 61).1 e)
   have hc2:¬(61:UInt8)=c:=fun e=>hc e.symm
   have hb:jl l x=([],false):=by simp[jl,lj,aO,h1,hq,hc2]
   simp[Tryz.f63,a63,reg63,ht,hdg,h2,h3,h5,ht2,hq,hb,hc']
end AE
end Go.Proofs.YtmfdpijmholedaaGreatDoor
