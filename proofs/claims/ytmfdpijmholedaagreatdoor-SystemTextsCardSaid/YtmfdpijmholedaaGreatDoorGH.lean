/- The reference: too large values, Normal, Is; evaluated. -/
import Derived.Test.YtmfdpijmholedaaGreatDoorGG
import Derived.Test.YtmfdpijmholedaaGreatDoorGF
set_option linter.unusedVariables false
set_option linter.unusedSimpArgs false
namespace Go.Proofs.YtmfdpijmholedaaGreatDoor
namespace AE
open Go
set_option maxHeartbeats 4000000 in
theorem FY(ex:Fun→List Val→List Int→Bool)(n:Int)(N:Nat):∀(v:Val),v.nodes≤N→v.nodes≤1000000→∀(f:Fun),au f=true→okV ex n v f=true→∀(m:Mem),ai C0 160 [.agg f.cells,.agg v.cells] m=some (.ret (.bool (eo v f)),m):=by
 induction N with
 |zero=>intro v hN;have:=v.nodes_pos;omega
 |succ N ih=>
 intro v hN hb f hf hok m
 have hlen:=v.length_args
 rw[nJ,Bool.and_eq_true,Bool.and_eq_true] at hok
 obtain⟨⟨hh,_⟩,hokl⟩:=hok
 have hpb:kH f v=true:=by
  rw[ni hf,Bool.and_eq_true,Bool.and_eq_true] at hh
  exact hh.1.1
 have hp:=tj f v hf (by omega)
 obtain⟨hPl,hPa⟩:=sZ hf hpb
 have hst:=BK f.kind
 simp[hpb] at hp
 generalize ip f v=P at hp hPl hPa
 rw[ab C0 (aj _ (by decide)) (by rw[ay];exact Tryz.func160) rfl (by rw[ae];rfl) (by rw[ae];rfl) (by decide) (by simp[Tryz.f160])]
 rw[kf]
 by_cases hw:bc f.kind=true∧100<v.args.length
 ·have h1:(100:Int)<v.args.length:=by omega
  rw[hw.1] at hst
  simp[Tryz.f160,a160,reg160,loop160,draw160,dok160,hst,h1,hw.1,hw.2]
 ·have hr:(bc f.kind&&decide (100<v.args.length))=false:=by
   rw[Bool.eq_false_iff]
   intro h
   rw[Bool.and_eq_true,decide_eq_true_eq] at h
   exact hw h
  rw[hr,Bool.false_or]
  cases hs:bc f.kind
  case' false=>
   rw[hs] at hst
   simp[Tryz.f160,a160,reg160,loop160,draw160,dok160,hst,hp]
  case' true=>
   have h2:¬(100:Int)<v.args.length:=by
    intro h
    exact hw ⟨hs,by omega⟩
   rw[hs] at hst
   simp[Tryz.f160,a160,reg160,loop160,draw160,dok160,hst,hp,h2]
  all_goals
   refine aC (fun i:Nat=>⟨[(5,.isl false P.length (Fun.cellsL P)),(25,.isl false v.args.length (Val.cellsL v.args)),(26,.int .i64 v.args.length),(27,.int .i64 i)],⟨m.bx++[f.cells,v.cells],m.rw⟩⟩)
    (fun i=>some (.ret (.bool (fT (v.args.drop i) (aB f v.num) i)),m)) (fun i=>v.args.length-i) (fun i=>i≤v.args.length) 0 ?_ ?_ ?_ ?_ ?_
   ·simp
   ·simp
   ·omega
   ·intro x;simp[Tryz.f160,a160,reg160,loop160,draw160,dok160]
   ·intro i hi hrec
    by_cases hlt:i<v.args.length
    ·have w2:IntKind.i64.wrap (i+1)=i+1:=al _ (by omega)
     have h3:(i+1)*3≤v.args.length*3:=by omega
     have hiP:i<P.length:=by omega
     have hgi:=hPa i hiP
     have hk01:¬f.kind=0∧¬f.kind=1:=by
      refine⟨fun h=> ?_,fun h=> ?_⟩
      ·have:=(eT hh).2.2 (.inl h);omega
      ·have:=(eT hh).2.2 (.inr h);omega
     have hgs:=eR hf hk01.1 hk01.2 hh i hlt
     have o0:=d7 hokl i hlt
     rw[Nat.zero_add] at hgs o0
     have hm:=Val.nodes_arg (List.getElem_mem hlt)
     have he:=ih v.args[i] (by omega) (by omega) (aB f v.num i) hgs o0
     simp at he
     rw[km hlt]
     cases hc:eo v.args[i] (aB f v.num i)
     ·simp[hc] at he
      simp[round,Tryz.f160,a160,reg160,loop160,draw160,dok160,hlt,w2,h3,hiP,show(i+1)*3≤P.length*3 by omega,hgi,he,aZ]
      refine hrec (i+1) _ _ ?_ ?_ ?_ ?_
      ·omega
      ·omega
      ·simp
      ·simp
     ·clear hrec
      simp[hc] at he
      simp[round,Tryz.f160,a160,reg160,loop160,draw160,dok160,hlt,w2,h3,hiP,show(i+1)*3≤P.length*3 by omega,hgi,he]
    ·clear hrec
     simp[round,Tryz.f160,a160,reg160,loop160,draw160,dok160,hlt]
     rw[List.drop_eq_nil_of_le (by omega),fT]
def bw(f:Fun)(n:Int)(v:Val):Val×Int:=if v.nodes≤2000 then(match ez n v f with|none=>(bO,20)|some w=>if eo w f then(bO,2) else(w,0)) else(bO,20)
theorem rL(f:Fun)(n:Int)(v:Val)(hf:au f=true)(hn0:0≤n)(hn1:n≤1000000)(hb:v.nodes≤1000000)(hs:aP v)(m:Mem):ai C0 112 [.agg f.cells,.int .i64 n,.agg v.cells] m=some (.ret (.tup [.agg (bw f n v).1.cells,.int .i64 (bw f n v).2]),m):=by
 rw[ab C0 (aj _ (by decide)) (by rw[ay];exact Tryz.func112) rfl (by rw[ae];rfl) (by rw[ae];rfl) (by decide) (by simp[Tryz.f112])]
 have hl:=yS v.nodes v (Nat.le_refl _) 2001
 rw[jt v 2001 (by omega)] at hl
 have hn:=Cu n hn0 hn1 v.nodes v (Nat.le_refl _) hb hs f hf
 unfold bw
 unfold BM at hn
 by_cases h1:v.nodes≤2000
 case neg=>
  have h2:max (2001-(v.nodes:Int)) 0=0:=by omega
  rw[h2] at hl
  simp at hl
  simp[Tryz.f112,a112,reg112,hl,h1,bO]
 have h2:¬max (2001-(v.nodes:Int)) 0=0:=by omega
 simp at hl
 generalize max (2001-(v.nodes:Int)) 0=q at hl h2
 cases hc:ez n v f with
 |none=>
  rw[hc] at hn
  simp[bO] at hn
  simp[Tryz.f112,a112,reg112,hl,h1,h2,hn,bO]
 |some w=>
  rw[hc] at hn
  have hno:=kk n v f w hs (by omega) hc
  have hw:=FY exN n w.nodes w (Nat.le_refl _) (by omega) f hf (rj n v f w hc)
  simp at hn hw
  cases hx:eo w f
  ·simp[hx] at hw
   simp[Tryz.f112,a112,reg112,hl,h1,h2,hn,hw,hx]
  ·simp[hx] at hw
   simp[Tryz.f112,a112,reg112,hl,h1,h2,hn,hw,hx,bO]
theorem BG(f:Fun)(n:Int)(v:Val)(hf:au f=true)(hn0:0≤n)(hn1:n≤1000000)(hb:v.nodes≤1000000)(hs:aP v)(m:Mem):ai C0 72 [.agg f.cells,.int .i64 n,.agg v.cells] m=some (.ret (.bool (cB exS n v f 2000).1),m):=by
 rw[ab C0 (aj _ (by decide)) (by rw[ay];exact Tryz.func72) rfl (by rw[ae];rfl) (by rw[ae];rfl) (by decide) (by simp[Tryz.f72])]
 have hn:=rL f n v hf hn0 hn1 hb hs
 have hsp:=(iJ exS n v f 2000 (by omega)).1
 rw[←E5] at hsp
 have hgoal:(cB exS n v f 2000).1=(decide ((bw f n v).2=0)&&decide (aY (bw f n v).1 v=0)):=by
  rw[Bool.eq_iff_iff,hsp]
  unfold E6 bw
  by_cases h1:v.nodes≤2000
  ·rw[if_pos h1]
   cases hc:ez n v f with
   |none=>simp
   |some w=>
    cases hx:eo w f
    ·simp[hx];omega
    ·simp[hx]
  ·rw[if_neg h1]
   simp
   omega
 rw[hgoal]
 have hnn:(bw f n v).1.nodes≤1000000∧aP (bw f n v).1:=by
  unfold bw
  have hz:bO.nodes≤1000000∧aP bO:=by
   refine⟨by rw[Val.nodes_eq];simp[bO,Val.nodesL], ?_⟩
   rw[bj]
   exact⟨by simp[bO],by simp[bO,bS]⟩
  split
  ·cases hc:ez n v f with
   |none=>exact hz
   |some w=>
    have hno:=kk n v f w hs (by omega) hc
    simp only
    split
    ·exact hz
    ·exact⟨by simp only;omega,hno.2⟩
  ·exact hz
 generalize bw f n v=r at hn hnn⊢
 obtain⟨w,e⟩:=r
 simp only at hn hnn⊢
 have he:=uJ w v (by omega) hnn.2
 simp at hn he
 by_cases h0:e=0
 ·subst h0
  simp[Tryz.f72,a72,reg72,hn,he]
 ·simp[Tryz.f72,a72,reg72,hn,h0]
structure StS where
 R:List Row
 id:Nat
 l:List Int
def Grow(R R':List Row):Prop:=R.length≤R'.length∧∀i,i<R'.length→R'[i]? =R[i]? ∨∃r,R'[i]? =some r∧r.cs.all (closed 0 0)=true
theorem Grow.refl(R:List Row):Grow R R:=⟨Nat.le_refl _,fun _ _=> .inl rfl⟩
theorem Grow.trans{a b c:List Row}(h:Grow a b)(k:Grow b c):Grow a c:=by
 refine⟨Nat.le_trans h.1 k.1,fun i hi=> ?_⟩
 rcases k.2 i hi with h1|h1
 ·by_cases hb:i<b.length
  ·rcases h.2 i hb with h2|⟨r,h2,h3⟩
   ·exact .inl (h1.trans h2)
   ·exact .inr ⟨r,h1.trans h2,h3⟩
  ·rw[List.getElem?_eq_none (show b.length≤i by omega)] at h1
   rw[List.getElem?_eq_getElem hi] at h1
   cases h1
 ·exact .inr h1
theorem Grow.rows{R R':List Row}(h:Grow R R')(nb:Nat):kL nb R R':=fun i hi=>by
 rcases h.2 i hi with h1|⟨r,h1,h2⟩
 ·exact .inl h1
 ·exact .inr ⟨r,h1,gX h2⟩
theorem xq{u:Val}{w:Int}{r:List (Val×Int)}:∀{o:List (Val×Int)},(∀p,p∈o→aY p.1 u<0)→bg u w (o++r)=o++bg u w r
 |[],_=>rfl
 |p::o,h=>by
  have h1:=h p List.mem_cons_self
  have h2:=cR p.1 u
  rw[List.cons_append,bg,if_neg (by omega),if_neg (by omega),xq fun q hq=>h q (List.mem_cons_of_mem _ hq)]
  rfl
theorem Dr{u:Val}{w:Int}{o:List (Val×Int)}(hs:o.Pairwise LtP)(h:∀q,q∈o→aY q.1 u≤0)(hl:0<o.length):
  bg u w o=if aY (o[o.length-1]).1 u=0 then o.set (o.length-1) ((o[o.length-1]).1,(o[o.length-1]).2+w) else o++[(u,w)]:=by
 have hne:o≠[]:=List.length_pos_iff.1 hl
 obtain⟨q,r,rfl⟩:∃q r,o=r++[q]:=⟨o.getLast hne,o.dropLast,(List.dropLast_concat_getLast hne).symm⟩
 have hq:(r++[q])[(r++[q]).length-1]=q:=by simp
 rw[hq]
 have hr:∀p,p∈r→aY p.1 q.1<0:=fun p hp=>(List.pairwise_append.1 hs).2.2 p hp q (by simp)
 have hqu:=h q (by simp)
 by_cases hc:aY q.1 u=0
 ·rw[if_pos hc]
  have hu:=(bM _ _).1 hc
  rw[xq fun p hp=>by rw[←hu];exact hr p hp,bg,if_pos (by rw[hu];exact mA _)]
  simp
 ·rw[if_neg hc]
  refine tF fun p hp=> ?_
  rcases List.mem_append.1 hp with hp|hp
  ·exact gZ (hr p hp) (by omega)
  ·rw[List.mem_singleton.1 hp]
   omega
theorem uI:∀(l:List (Val×Int)) (i:Nat) (h:i<l.length),((bh l).drop (i*4)).take 4=cO l[i]
 |p::r,0,_=>by
  show(cO p++bh r).take 4=_
  rw[←eZ p,List.take_left]
  rfl
 |p::r,i+1,h=>by
  have:=uI r i (by simpa using h)
  show(List.drop ((i+1)*4) (cO p++bh r)).take 4=_
  rw[show(i+1)*4=(cO p).length+i*4 by simp;omega,←List.drop_drop,List.drop_left]
  simpa using this
theorem mV(l r:List (Val×Int)):bh (l++r)=bh l++bh r:=by unfold bh;rw[List.map_append,List.flatten_append]
theorem iQ(p:Val×Int):bh [p]=cO p:=by unfold bh;simp
theorem yy(p:Val×Int):cO p=[.int .i64 p.1.num,.isl false p.1.args.length (Val.cellsL p.1.args),.isl false p.1.ws.length (az p.1.ws),.int .i64 p.2]:=by unfold cO;rw[Val.cells_eq];rfl
theorem g9(nb nr:Nat):∀l:List (Val×Int),(bh l).all (closed nb nr)=true
 |[]=>rfl
 |p::r=>by
  show(cO p++bh r).all _=true
  rw[List.all_append,g9 nb nr r]
  unfold cO
  rw[List.all_append,Val.closed_cells]
  rfl
theorem p7:∀l:List (Val×Int),(bh l).all flat=true
 |[]=>rfl
 |p::r=>by
  show(cO p++bh r).all _=true
  rw[List.all_append,p7 r]
  unfold cO
  rw[List.all_append,Val.cells_eq]
  rfl
theorem aL{α:Type}(R J:List α):(R++J)[R.length]? =J[0]? :=by
 rw[List.getElem?_append_right (Nat.le_refl _),Nat.sub_self]
theorem aJ{α:Type}(R J:List α)(x:α):(R++J).set R.length x=R++J.set 0 x:=by
 rw[List.set_append_right _ _ (Nat.le_refl _),Nat.sub_self]
theorem Eh(u v:Val)(hb:u.nodes≤1000000000)(hs:aP u)(m:Mem):ai C0 38 [.agg u.cells,.agg v.cells] m=some (.ret (.bool (decide (aY u v=0))),m):=by
 rw[ab C0 (aj _ (by decide)) (by rw[ay];exact Tryz.func38) rfl (by rw[ae];rfl) (by rw[ae];rfl) (by decide) (by simp[Tryz.f38])]
 have he:=sP u.nodes u (Nat.le_refl _) hb hs v
 simp at he
 simp[Tryz.f38,a38,reg38,he]
set_option maxHeartbeats 1000000 in
theorem Ej(l:List Int)(id:Nat)(hl:l.length≤1000000000)(hp:∀w,w∈l→1≤w∧w≤1048576)(m:Mem)(hR:m.rw[id]? =some ⟨3,az l⟩):ai C0 169 [.sl id l.length 0 l.length] m=some (.ret (.int .i64 (dz l)),m):=by
 have hid:id<m.rw.length:=(List.getElem?_eq_some_iff.1 hR).1
 have hR2:=(List.getElem?_eq_some_iff.1 hR).2
 rw[ab C0 (aj _ (by decide)) (by rw[ay];exact Tryz.func169) rfl (by rw[ae];rfl) (by rw[ae];rfl) (by decide) (by simp[Tryz.f169])]
 simp[Tryz.f169,a169,reg169,loop169,draw169,dok169]
 refine aC (fun x:Nat×Nat=>⟨[(3,.int .i64 x.2),(6,.sl id l.length 0 l.length),(7,.int .i64 l.length),(8,.int .i64 x.1)],m⟩)
  (fun x=>some (.ret (.int .i64 (mH x.2 (l.drop x.1))),m)) (fun x=>l.length-x.1) (fun x=>x.1≤l.length∧x.2≤1048576) (0,0) ?_ ?_ ?_ ?_ ?_
 ·simp
 ·simp[dz]
 ·simp
 ·intro x;simp[Tryz.f169,a169,reg169,loop169,draw169,dok169]
 ·rintro⟨i,q⟩ hI hrec
  simp only at hI
  obtain⟨hi,hq⟩:=hI
  by_cases hlt:i<l.length
  ·have w2:IntKind.i64.wrap (i+1)=i+1:=al _ (by omega)
   have hx:=hp l[i] (List.getElem_mem hlt)
   have hat:=bq hlt
   simp only
   rw[oX hlt]
   obtain⟨n,hn⟩:∃n:Nat,l[i]=n:=⟨l[i].toNat,by omega⟩
   rw[hn] at hx hat⊢
   simp only[Int.natAbs_natCast]
   have hle:Nat.gcd q n≤1048576:=Nat.le_trans (Nat.le_of_dvd (by omega) (Nat.gcd_dvd_right q n)) (by omega)
   simp[round,Tryz.f169,a169,reg169,loop169,draw169,dok169,hlt,w2,hat,hid,hR2,show i+1≤l.length by omega]
   rw[mz (fun y:Nat×Nat=>⟨[(3,.int .i64 y.1),(5,.int .i64 y.2),(6,.sl id l.length 0 l.length),(7,.int .i64 l.length),(8,.int .i64 i)],m⟩)
    (fun y=>some (.normal,⟨[(3,.int .i64 (Nat.gcd y.1 y.2:Nat)),(5,.int .i64 0),(6,.sl id l.length 0 l.length),(7,.int .i64 l.length),(8,.int .i64 i),(13,.bool false)],m⟩)) (fun y=>y.2) (fun y=>y.1≤1048576∧y.2≤1048576) (q,n) ?_ rfl ?_ ?_ ?_]
   ·simp[Tryz.f169,a169,reg169,loop169,draw169,dok169,w2,aA,hid]
    refine hrec (i+1,Nat.gcd q n) _ _ ?_ ?_ ?_ ?_
    ·simp;omega
    ·exact⟨by simp;omega,hle⟩
    ·simp
    ·simp
   ·simp[Tryz.f169,a169,reg169,loop169,draw169,dok169]
   ·exact⟨hq,by omega⟩
   ·intro x;simp[Tryz.f169,a169,reg169,loop169,draw169,dok169]
   ·rintro⟨a,c⟩ ⟨ha,hc⟩ hrec2
    clear hrec
    by_cases h0:c=0
    ·subst h0
     simp[round,Tryz.f169,a169,reg169,loop169,draw169,dok169]
    ·have ht:(a:Int).tmod (c:Int)=((a % c:Nat):Int):=sk a c
     have hne:¬(c:Int)=0:=by omega
     have hm:a % c<c:=Nat.mod_lt _ (by omega)
     simp[round,Tryz.f169,a169,reg169,loop169,draw169,dok169,h0,ht,aA,hid]
     refine hrec2 (c,a % c) _ _ ?_ ?_ ?_ ?_
     ·exact hm
     ·exact⟨hc,by simp only;omega⟩
     ·simp
     ·simp only
      rw[Nat.gcd_comm c,←Nat.gcd_rec,Nat.gcd_comm]
  ·clear hrec
   simp[round,Tryz.f169,a169,reg169,loop169,draw169,dok169,hlt]
   rw[List.drop_eq_nil_of_le (by omega)]
   rfl
theorem yR(N:Nat):∀(f:Val),f.nodes≤N→f.nodes≤1000000000→∀(m:Mem),ai C0 92 [.agg f.cells] m=some (.ret (.int .i64 f.nodes),m):=by
 induction N with
 |zero=>intro f hN;have:=f.nodes_pos;omega
 |succ N ih=>
 intro f hN hb m
 rw[ab C0 (aj _ (by decide)) (by rw[ay];exact Tryz.func92) rfl (by rw[ae];rfl) (by rw[ae];rfl) (by decide) (by simp[Tryz.f92])]
 simp[Tryz.f92,a92,reg92,loop92]
 have hn:=Val.nodes_eq f
 refine aC (fun x:Nat×Nat=>⟨[(3,.int .i64 x.2),(7,.isl false f.args.length (Val.cellsL f.args)),(8,.int .i64 f.args.length),(9,.int .i64 x.1)],⟨m.bx++[f.cells],m.rw⟩⟩)
  (fun x=>some (.ret (.int .i64 (x.2+Val.nodesL (f.args.drop x.1):Nat)),m)) (fun x=>f.args.length-x.1) (fun x=>x.1≤f.args.length∧x.2+Val.nodesL (f.args.drop x.1)≤1000000000) (0,1) ?_ ?_ ?_ ?_ ?_
 ·simp
 ·simp[hn]
 ·simp;omega
 ·intro x;simp[Tryz.f92,a92,reg92,loop92]
 ·rintro⟨i,a⟩ hI hrec
  simp only at hI
  obtain⟨hi,ha⟩:=hI
  have hlen:=f.length_args
  by_cases hlt:i<f.args.length
  ·have w2:IntKind.i64.wrap (i+1)=i+1:=al _ (by omega)
   have hmem:=Val.nodes_arg (List.getElem_mem hlt)
   have he:=ih f.args[i] (by omega) (by omega)
   simp at he
   rw[Val.nodesL_drop hlt] at ha
   have w3:IntKind.i64.wrap (a+f.args[i].nodes)=a+f.args[i].nodes:=al _ (by omega)
   clear ih
   have h3:(i+1)*3≤f.args.length*3:=by omega
   simp[round,Tryz.f92,a92,reg92,loop92,hlt,w2,w3,h3,he]
   refine hrec (i+1,a+f.args[i].nodes) _ _ ?_ ?_ ?_ ?_
   ·simp;omega
   ·simp;omega
   ·simp
   ·simp only
    rw[Val.nodesL_drop hlt]
    simp;omega
  ·clear hrec ih
   simp[round,Tryz.f92,a92,reg92,loop92,hlt]
   rw[List.drop_eq_nil_of_le (by omega),Val.nodesL]
   simp
theorem pJ(N:Nat):∀(f:Val),f.nodes≤N→f.nodes≤1000000000→∀(m:Mem),ai C0 73 [.agg f.cells] m=some (.ret (.int .i64 f.nodes),m):=by
 induction N with
 |zero=>intro f hN;have:=f.nodes_pos;omega
 |succ N ih=>
 intro f hN hb m
 rw[ab C0 (aj _ (by decide)) (by rw[ay];exact Tryz.func73) rfl (by rw[ae];rfl) (by rw[ae];rfl) (by decide) (by simp[Tryz.f73])]
 simp[Tryz.f73,a73,reg73,loop73]
 have hn:=Val.nodes_eq f
 refine aC (fun x:Nat×Nat=>⟨[(3,.int .i64 x.2),(7,.isl false f.args.length (Val.cellsL f.args)),(8,.int .i64 f.args.length),(9,.int .i64 x.1)],⟨m.bx++[f.cells],m.rw⟩⟩)
  (fun x=>some (.ret (.int .i64 (x.2+Val.nodesL (f.args.drop x.1):Nat)),m)) (fun x=>f.args.length-x.1) (fun x=>x.1≤f.args.length∧x.2+Val.nodesL (f.args.drop x.1)≤1000000000) (0,1) ?_ ?_ ?_ ?_ ?_
 ·simp
 ·simp[hn]
 ·simp;omega
 ·intro x;simp[Tryz.f73,a73,reg73,loop73]
 ·rintro⟨i,a⟩ hI hrec
  simp only at hI
  obtain⟨hi,ha⟩:=hI
  have hlen:=f.length_args
  by_cases hlt:i<f.args.length
  ·have w2:IntKind.i64.wrap (i+1)=i+1:=al _ (by omega)
   have hmem:=Val.nodes_arg (List.getElem_mem hlt)
   have he:=ih f.args[i] (by omega) (by omega)
   simp at he
   rw[Val.nodesL_drop hlt] at ha
   have w3:IntKind.i64.wrap (a+f.args[i].nodes)=a+f.args[i].nodes:=al _ (by omega)
   clear ih
   have h3:(i+1)*3≤f.args.length*3:=by omega
   simp[round,Tryz.f73,a73,reg73,loop73,hlt,w2,w3,h3,he]
   refine hrec (i+1,a+f.args[i].nodes) _ _ ?_ ?_ ?_ ?_
   ·simp;omega
   ·simp;omega
   ·simp
   ·simp only
    rw[Val.nodesL_drop hlt]
    simp;omega
  ·clear hrec ih
   simp[round,Tryz.f73,a73,reg73,loop73,hlt]
   rw[List.drop_eq_nil_of_le (by omega),Val.nodesL]
   simp
def eG(f:Fun)(x:A):List A:=f.cells++[x]
@[simp] theorem KQ(f:Fun)(x:A):eG f x=f.cells++[x]:=_root_.id rfl
def nG(f:Fun)(n:Nat)(vs:List Val):Bool:=vs.all fun v=>(cB exS n v f 2000).1
def okS(f:Fun)(vs:List Val):Bool:=okF f&&decide (vs.length≤100)&&nG f vs.length vs&&decide (Val.nodesL vs≤20000)
theorem mG{f:Fun}{n:Nat}{vs:List Val}{i:Nat}(h:i<vs.length):nG f n (vs.drop i)=((cB exS n vs[i] f 2000).1&&nG f n (vs.drop (i+1))):=by
 unfold nG
 rw[List.drop_eq_getElem_cons h,List.all_cons]
theorem jp{f:Fun}(h:okF f=true):au f=true:=((og f).1 h).2.2
set_option maxHeartbeats 1000000 in
theorem B6(f:Fun)(vs:List Val)(hf:f.nodes≤1000000)(hb:Val.nodesL vs≤1000000)(hs:∀v∈vs,aP v)(m:Mem):ai C0 43 [.agg (eG f (.isl false vs.length (Val.cellsL vs)))] m=some (.ret (.bool (okS f vs)),m):=by
 rw[ab C0 (aj _ (by decide)) (by rw[ay];exact Tryz.func43) rfl (by rw[ae];rfl) (by rw[ae];rfl) (by decide) (by simp[Tryz.f43])]
 have hv:=oA f (by omega)
 have hl:=Val.length_nodesL vs
 simp at hv
 unfold okS
 cases hc:okF f
 ·simp[Tryz.f43,a43,reg43,loop43,hv,hc]
 by_cases h100:vs.length≤100
 ·have hsh:=jp hc
  have h100':¬(100:Int)<vs.length:=by omega
  simp[Tryz.f43,a43,reg43,loop43,hv,hc,h100,h100']
  refine aC (fun x:Nat×Nat=>⟨[(1,.ptr m.bx.length 0),(3,.int .i64 x.2),(17,.isl false vs.length (Val.cellsL vs)),(18,.int .i64 vs.length),(19,.int .i64 x.1)],⟨m.bx++[eG f (.isl false vs.length (Val.cellsL vs))],m.rw⟩⟩)
   (fun x=>some (.ret (.bool (nG f vs.length (vs.drop x.1)&&decide (x.2+Val.nodesL (vs.drop x.1)≤20000))),m)) (fun x=>vs.length-x.1) (fun x=>x.1≤vs.length∧x.2+Val.nodesL (vs.drop x.1)≤1000000) (0,0) ?_ ?_ ?_ ?_ ?_
  ·simp
  ·simp
  ·simp;omega
  ·intro x;simp[Tryz.f43,a43,reg43,loop43]
  ·rintro⟨i,a⟩ hI hrec
   simp only at hI
   obtain⟨hi,ha⟩:=hI
   by_cases hlt:i<vs.length
   ·have w2:IntKind.i64.wrap (i+1)=i+1:=al _ (by omega)
    have hmem:=List.getElem_mem hlt
    have hnm:=Val.nodes_mem hmem
    have he:=uk f vs.length vs[i] hsh (by omega) (hs _ hmem)
    have hn:=yR vs[i].nodes vs[i] (Nat.le_refl _) (by omega)
    simp at he hn
    rw[Val.nodesL_drop hlt] at ha
    have w3:IntKind.i64.wrap (a+vs[i].nodes)=a+vs[i].nodes:=al _ (by omega)
    have h3:(i+1)*3≤vs.length*3:=by omega
    rw[mG hlt]
    cases hcv:(cB exS vs.length vs[i] f 2000).1
    ·simp[round,Tryz.f43,a43,reg43,loop43,hlt,w2,w3,h3,he,hn,hcv]
    ·simp[round,Tryz.f43,a43,reg43,loop43,hlt,w2,w3,h3,he,hn,hcv,aZ]
     refine hrec (i+1,a+vs[i].nodes) _ _ ?_ ?_ ?_ ?_
     ·simp;omega
     ·simp;omega
     ·simp
     ·simp only
      rw[Val.nodesL_drop hlt]
      simp[Nat.add_assoc]
   ·clear hrec
    simp[round,Tryz.f43,a43,reg43,loop43,hlt]
    rw[List.drop_eq_nil_of_le (by omega),Val.nodesL]
    simp[nG]
    omega
 ·have h100':(100:Int)<vs.length:=by omega
  simp[Tryz.f43,a43,reg43,loop43,hv,hc,h100,h100']
end AE
end Go.Proofs.YtmfdpijmholedaaGreatDoor
/- Systems that came in. -/
set_option linter.unusedVariables false
set_option linter.unusedSimpArgs false
namespace Go.Proofs.YtmfdpijmholedaaGreatDoor
namespace AE
open Go Go.RowKit
set_option maxRecDepth 1000000 in
theorem K9:Tryz.prog.cellsOf 27=4:=by kernel_rfl
set_option maxRecDepth 1000000 in
theorem J1:Tryz.prog.cellsOf 24=3:=by kernel_rfl
set_option maxRecDepth 100000 in
theorem DM{H:Type}{enc:TypeId×Value→H}{W:World}(N fuel:Nat)(hfu:fuel≤N)(cs:List Value)(x:DataW H×List MemPlace)(h:DataW.trod enc Tryz.prog W 0 (fun _=>true) true fuel 27 cs=some x):∃(f:Fun) (vs:List Val),VRs W (g0 W) (eG f (.isl false vs.length (Val.cellsL vs))) cs:=by
 cases fuel with
 |zero=>simp[DataW.trod] at h
 |succ N'=>
  obtain⟨xs,n,hn,rfl,hlen,hxl,hf⟩:=DataW.trod_struct Tryz.underlying27 h
  rw[K9] at hlen
  have hxl2:xs.length=2:=hxl
  clear hxl
  obtain⟨a0,a1,a2,a3,rfl⟩:∃a0 a1 a2 a3,cs=[a0,a1,a2,a3]:=by
   match cs,hlen with
   |[a0,a1,a2,a3],_=>exact⟨a0,a1,a2,a3,rfl⟩
  obtain⟨x0,x1,rfl⟩:∃x0 x1,xs=[x0,x1]:=by
   match xs,hxl2 with
   |[a0,a1],_=>exact⟨a0,a1,rfl⟩
  have h0:=hf 0 _ rfl
  have h1:=hf 1 _ rfl
  simp[J1,G6] at h0 h1
  obtain⟨f,hf0⟩:=DN _ _ (Nat.le_refl _) _ _ h0
  obtain⟨l,v,e1,hv⟩:=kj (by decide) Tryz.underlying25 Hm Val.cells Val.cells_length (fun n' hn' ds y hy=>EW _ _ (Nat.le_refl _) ds y hy) h1
  simp at e1
  subst e1
  rw[Val.flat] at hv
  exact⟨f,l,hf0.append (.one hv)⟩
end AE
end Go.Proofs.YtmfdpijmholedaaGreatDoor
/- The parser's small functions. -/
set_option linter.unusedVariables false
set_option linter.unusedSimpArgs false
namespace Go.Proofs.YtmfdpijmholedaaGreatDoor
namespace AE
open Go
def aw(c:UInt8)(s:List UInt8):List UInt8:=s.dropWhile fun b=>decide (b=c)
@[simp] theorem IC(c:UInt8):aw c []=[]:=rfl
theorem eU(c:UInt8)(r:List UInt8):aw c (c::r)=aw c r:=by simp[aw]
theorem eu{c b:UInt8}(h:¬b=c)(r:List UInt8):aw c (b::r)=b::r:=by simp[aw,h]
theorem bf(c:UInt8):∀s,(aw c s).length≤s.length
 |[]=>Nat.le_refl _
 |b::r=>by
  by_cases h:b=c
  ·subst h;rw[eU];have:=bf b r;simp;omega
  ·rw[eu h];exact Nat.le_refl _
theorem dX(b c:UInt8):((b.toNat:Int)=c.toNat)↔b=c:=by
 constructor
 ·intro h;exact UInt8.toNat_inj.1 (by omega)
 ·rintro rfl;rfl
theorem xX(c:UInt8)(s:List UInt8)(m:Mem):ai C0 140 [.str s,.int .u8 c.toNat] m=some (.ret (.str (aw c s)),m):=by
 rw[ab C0 (aj _ (by decide)) (by rw[ay];exact Tryz.func140) rfl (by rw[ae];rfl) (by rw[ae];rfl) (by decide) (by simp[Tryz.f140])]
 simp[Tryz.f140,a140,reg140,loop140]
 refine aC (fun s:List UInt8=>⟨[(0,.str s),(1,.int .u8 c.toNat)],m⟩) (fun s=>some (.ret (.str (aw c s)),m)) (fun s=>s.length) (fun s=>True) s ?_ ?_ ?_ ?_ ?_
 ·simp
 ·simp
 ·trivial
 ·intro x;simp[Tryz.f140,a140,reg140,loop140]
 ·intro s hi hrec
  cases s with
  |nil=>simp[round,Tryz.f140,a140,reg140,loop140]
  |cons b r=>
   by_cases h:b=c
   ·subst h
    have hp:(0:Int)<r.length+1:=by omega
    have hp2:(1:Int)≤r.length+1:=by omega
    simp[round,Tryz.f140,a140,reg140,loop140,hp,hp2,aA]
    refine hrec r _ _ ?_ ?_ ?_ ?_
    ·simp
    ·trivial
    ·simp
    ·rw[eU]
   ·have hp:(0:Int)<r.length+1:=by omega
    simp[round,Tryz.f140,a140,reg140,loop140,hp,dX,h,eu h]
theorem fQ(c:UInt8)(hc:c.toNat<128)(s:List UInt8)(m:Mem):ai C0 101 [.str s,.str [c]] m=some (.ret (.str (aw c s)),m):=by
 rw[ab C0 (aj _ (by decide)) (by rw[ay];exact Tryz.func101) rfl (by rw[ae];rfl) (by rw[ae];rfl) (by decide) (by simp[Tryz.f101])]
 have hc':(c.toNat:Int)<128:=by omega
 by_cases h:s=[]
 ·subst h;simp[Tryz.f101,a101,reg101]
 ·simp[Tryz.f101,a101,reg101,h,hc',xX]
def oM(s:List UInt8):Int:=match s with|[]=>0|b::_=>b.toNat
@[simp] theorem JD:oM []=0:=rfl
@[simp] theorem HW(b:UInt8)(r:List UInt8):oM (b::r)=b.toNat:=rfl
theorem oF(id:Nat)(s:List UInt8)(m:Mem)(hbx:m.bx[id]? =some [.str s]):ai C0 104 [.ptr id 0] m=some (.ret (.int .u8 (oM (aw 32 s))),⟨m.bx.set id [.str (aw 32 s)],m.rw⟩):=by
 have hid:id<m.bx.length:=(List.getElem?_eq_some_iff.1 hbx).1
 have hg:m.bx[id]=[.str s]:=(List.getElem?_eq_some_iff.1 hbx).2
 rw[ab C0 (aj _ (by decide)) (by rw[ay];exact Tryz.func104) rfl (by rw[ae];rfl) (by rw[ae];rfl) (by decide) (by simp[Tryz.f104])]
 have he:=fQ 32 (by decide) s
 cases h:aw 32 s with
 |nil=>simp[h] at he;simp[Tryz.f104,a104,reg104,hid,ah,ad,hg,he,av]
 |cons b r=>
  simp[h] at he
  have hp:(0:Int)<r.length+1:=by omega
  simp[Tryz.f104,a104,reg104,hid,ah,ad,hg,he,av]
def isC(c:UInt8)(s:List UInt8):Bool×List UInt8:=match aw 32 s with
 |[]=>(false,[])
 |b::r=>if b=c then(true,r) else(false,b::r)
theorem Bf(id:Nat)(c:UInt8)(h0:c≠0)(s:List UInt8)(m:Mem)(hbx:m.bx[id]? =some [.str s]):ai C0 145 [.ptr id 0,.int .u8 c.toNat] m=some (.ret (.bool (isC c s).1),⟨m.bx.set id [.str (isC c s).2],m.rw⟩):=by
 have hid:id<m.bx.length:=(List.getElem?_eq_some_iff.1 hbx).1
 have hg:m.bx[id]=[.str s]:=(List.getElem?_eq_some_iff.1 hbx).2
 rw[ab C0 (aj _ (by decide)) (by rw[ay];exact Tryz.func145) rfl (by rw[ae];rfl) (by rw[ae];rfl) (by decide) (by simp[Tryz.f145])]
 have he:=oF id s m hbx
 unfold isC
 cases h:aw 32 s with
 |nil=>
  have hc:¬(0:Int)=c.toNat:=by
   intro e
   apply h0
   exact UInt8.toNat_inj.1 (by simp;omega)
  simp[h] at he
  simp[Tryz.f145,a145,reg145,hid,ah,ad,hg,he,av,hc]
 |cons b r=>
  simp[h] at he
  by_cases hc:b=c
  ·subst hc
   have hp2:(1:Int)≤r.length+1:=by omega
   simp[Tryz.f145,a145,reg145,hid,ah,ad,hg,he,av,hp2]
  ·simp[Tryz.f145,a145,reg145,hid,ah,ad,hg,he,av,dX,hc]
def ct:A:= .ifc 133 (.agg [])
theorem my(id:Nat)(c:UInt8)(h0:c≠0)(s:List UInt8)(m:Mem)(hbx:m.bx[id]? =some [.str s]):ai C0 207 [.ptr id 0,.int .u8 c.toNat] m=some (if(isC c s).1 then .ret (.tup []) else .pan ct,⟨m.bx.set id [.str (isC c s).2],m.rw⟩):=by
 have hid:id<m.bx.length:=(List.getElem?_eq_some_iff.1 hbx).1
 rw[ab C0 (aj _ (by decide)) (by rw[ay];exact Tryz.func207) rfl (by rw[ae];rfl) (by rw[ae];rfl) (by decide) (by simp[Tryz.f207])]
 have he:=Bf id c h0 s m hbx
 cases h:(isC c s).1
 ·simp[h] at he
  simp[Tryz.f207,a207,reg207,hid,ah,ad,he,av,h,li,ct]
 ·simp[h] at he
  simp[Tryz.f207,a207,reg207,hid,ah,ad,he,av,h]
def be(b:UInt8):Bool:=decide (48≤b.toNat)&&decide (b.toNat≤57)
theorem gN{b:UInt8}:be b=true↔48≤b.toNat∧b.toNat≤57:=by simp[be]
def fC(n:Nat)(s:List UInt8):Nat:=s.foldl (fun n b=>n*10+(b.toNat-48)) n
@[simp] theorem tE(n:Nat):fC n []=n:=by unfold fC;exact List.foldl_nil
@[simp] theorem mB(n:Nat)(b:UInt8)(r:List UInt8):fC n (b::r)=fC (n*10+(b.toNat-48)) r:=by unfold fC;exact List.foldl_cons ..
def wF(s:List UInt8):List A:=s.map fun b=> .int .u8 (b.toNat:Int)
@[simp] theorem Fn(s:List UInt8):(wF s).length=s.length:=by simp[wF]
@[simp] theorem Fb(nb nr:Nat)(s:List UInt8):(wF s).all (closed nb nr)=true:=by simp[wF]
theorem EO{s:List UInt8}{i:Nat}(h:i<s.length)(n:Nat):fC n (s.drop i)=fC (n*10+(s[i].toNat-48)) (s.drop (i+1)):=by rw[List.drop_eq_getElem_cons h,mB]
theorem Bx(n:Int)(h:0≤n∧n≤255):IntKind.u8.wrap n=n:=by
 unfold IntKind.wrap
 simp[IntKind.signed,IntKind.bits]
 omega
theorem wj:∀(l:List UInt8) (n:Nat),n≤fC n l
 |[],n=>by simp
 |b::r,n=>by
  rw[mB]
  have:=wj r (n*10+(b.toNat-48))
  omega
theorem td:∀(l:List UInt8) (n:Nat),n<18446744073709551616→(∀b,b∈l→be b=true)→Lib.parseUint10 n l=if fC n l<18446744073709551616 then .ok (fC n l) else .range
 |[],n,hn,_=>by rw[Lib.parseUint10,tE,if_pos hn]
 |b::r,n,hn,h=>by
  have hb:=gN.1 (h b (by simp))
  have hg:=wj r (n*10+(b.toNat-48))
  rw[Lib.parseUint10,if_pos hb,mB]
  by_cases h1:1844674407370955162≤n
  ·rw[if_pos h1,if_neg (by omega)]
  ·rw[if_neg h1]
   by_cases h2:18446744073709551616≤n*10+(b.toNat-48)
   ·rw[if_pos h2,if_neg (by omega)]
   ·rw[if_neg h2]
    exact td r _ (by omega) fun x hx=>h x (by simp[hx])
theorem C8{l:List UInt8}(h0:l≠[])(h:∀b,b∈l→be b=true):Lib.atoiAll l=if fC 0 l<9223372036854775808 then .ok (fC 0 l:Int) else .range:=by
 cases l with
 |nil=>exact absurd rfl h0
 |cons c r=>
  have hc:=gN.1 (h c (by simp))
  have n1:¬c.toNat=43:=by omega
  have n2:¬c.toNat=45:=by omega
  have hp:=td (c::r) 0 (by omega) h
  generalize fC 0 (c::r)=v at hp⊢
  have hm:Lib.parseMag (c::r)=Lib.parseUint10 0 (c::r):=by unfold Lib.parseMag;rw[if_neg (by simp)]
  unfold Lib.atoiAll
  simp only[n1,n2,or_self,if_false,hm,hp]
  by_cases h1:v<18446744073709551616
  ·by_cases h2:v<9223372036854775808
   ·have h3:¬9223372036854775808≤v:=by omega
    simp[h1,h2,h3]
   ·have h3:9223372036854775808≤v:=by omega
    simp[h1,h2,h3]
  ·have h2:¬v<9223372036854775808:=by omega
   simp[h1,h2]
theorem nX(s:List UInt8)(h1:s≠[])(h2:s.length≤1000000)(hd:∀b,b∈s→be b=true)(m:Mem):ai C0 182 [.str s] m=some (.ret (.tup (if fC 0 s<9223372036854775808 then [.int .i64 (fC 0 s),.nili] else [.int .i64 (Lib.atoiSat s),.ifc 252 .undef])),m):=by
 have hx:C0.ext 182=some sq:=Bb
 rw[ai,hx]
 show sq [.str s] m=_
 simp only[sq]
 rw[if_pos h2,C8 h1 hd]
 by_cases hb:fC 0 s<9223372036854775808
 ·simp[hb]
 ·simp[hb]
def bd(s:List UInt8):Nat:=(s.takeWhile be).length
theorem jr(s:List UInt8):bd s≤s.length:=(List.takeWhile_prefix _).length_le
theorem kI:∀{s:List UInt8} {i:Nat} (h:i<s.length),i≤bd s→(i<bd s↔be s[i]=true)
 |b::r,0,_,_=>by
  unfold bd
  cases hb:be b<;>simp[hb]
 |b::r,i+1,h,hi=>by
  unfold bd at hi⊢
  cases hb:be b
  ·simp[hb] at hi
  ·simp only[List.takeWhile_cons,hb,if_true,List.length_cons] at hi⊢
   have:=kI (s:=r) (i:=i) (by simpa using h) (by unfold bd;omega)
   unfold bd at this
   simp only[List.getElem_cons_succ]
   rw[←this]
   omega
def gB(d:List UInt8):Int:=if d=[] then 0 else if fC 0 d<9223372036854775808 then fC 0 d else 17
def gy(s:List UInt8):Option Int×List UInt8:=
 let t:=aw 32 s
 if bd t=0 then(none,t) else(some (gB (aw 48 (t.take (bd t)))),t.drop (bd t))
theorem F9{s:List UInt8}{b:UInt8}(h:b∈aw 48 (s.take (bd s))):be b=true:=by
 have h1:b∈s.take (bd s):=by
  have:∀l:List UInt8,b∈aw 48 l→b∈l:=by
   intro l
   induction l with
   |nil=>intro h;exact h
   |cons c r ih=>
    intro h
    by_cases hc:c=48
    ·subst hc;rw[eU] at h;exact List.mem_cons_of_mem _ (ih h)
    ·rw[eu hc] at h;exact h
  exact this _ h
 have:s.take (bd s)=s.takeWhile be:=by
  unfold bd
  exact(List.prefix_iff_eq_take.1 (List.takeWhile_prefix _)).symm
 rw[this] at h1
 exact List.all_eq_true.1 (List.all_takeWhile) _ h1
set_option maxHeartbeats 1000000 in
theorem pD(id:Nat)(s:List UInt8)(hs:s.length≤1000000)(m:Mem)(hbx:m.bx[id]? =some [.str s]):
  ai C0 181 [.ptr id 0] m=some (match(gy s).1 with|some k=> .ret (.int .i64 k)|none=> .pan ct,⟨m.bx.set id [.str (gy s).2],m.rw⟩):=by
 have hid:id<m.bx.length:=(List.getElem?_eq_some_iff.1 hbx).1
 have hg:m.bx[id]=[.str s]:=(List.getElem?_eq_some_iff.1 hbx).2
 rw[ab C0 (aj _ (by decide)) (by rw[ay];exact Tryz.func181) rfl (by rw[ae];rfl) (by rw[ae];rfl) (by decide) (by simp[Tryz.f181])]
 have he:=oF id s m hbx
 have hlt:=bf 32 s
 unfold gy
 have hdm:∀b,b∈aw 48 ((aw 32 s).take (bd (aw 32 s)))→be b=true:=fun b h=>F9 h
 have h19:(aw 48 ((aw 32 s).take (bd (aw 32 s)))).length≤1000000:=by
  have h1:=bf 48 ((aw 32 s).take (bd (aw 32 s)))
  have h2:((aw 32 s).take (bd (aw 32 s))).length≤(aw 32 s).length:=by rw[List.length_take];omega
  omega
 generalize aw 32 s=t at he hlt h19 hdm
 have hnl:=jr t
 simp[Tryz.f181,a181,reg181,loop181,he]
 refine aC (fun i:Nat=>⟨[(0,.ptr id 0),(3,.int .i64 i)],⟨m.bx.set id [.str t],m.rw⟩⟩)
  (fun _=>some (match(if bd t=0 then(none,t) else(some (gB (aw 48 (t.take (bd t)))),t.drop (bd t)):Option Int×List UInt8).1 with|some k=> .ret (.int .i64 k)|none=> .pan ct,⟨m.bx.set id [.str (if bd t=0 then(none,t) else(some (gB (aw 48 (t.take (bd t)))),t.drop (bd t)):Option Int×List UInt8).2],m.rw⟩)) (fun i=>t.length-i) (fun i=>i≤bd t) 0 ?_ ?_ ?_ ?_ ?_
 ·simp
 ·simp
 ·simp
 ·intro x;simp[Tryz.f181,a181,reg181,loop181]
 ·intro i hi hrec
  have ext:∀(hh:i=bd t),True:=fun _=>trivial
  by_cases hlt:i<t.length
  ·by_cases hdg:i<bd t
   ·have hb:=gN.1 ((kI hlt hi).1 hdg)
    have w2:IntKind.i64.wrap (i+1)=i+1:=al _ (by omega)
    have d1:(48:Int)≤t[i].toNat:=by omega
    have d2:(t[i].toNat:Int)≤57:=by omega
    simp[round,Tryz.f181,a181,reg181,loop181,hlt,hid,w2,d1,d2,aA]
    refine hrec (i+1) _ _ ?_ ?_ ?_ ?_
    ·omega
    ·omega
    ·simp
    ·simp
   ·have hnd:¬be t[i]=true:=fun h=>hdg ((kI hlt hi).2 h)
    rw[gN] at hnd
    by_cases d1:(48:Int)≤t[i].toNat
    ·have d2:¬(t[i].toNat:Int)≤57:=by omega
     by_cases h0:bd t=0
     ·have hi0:i=0:=by omega
      subst hi0
      simp[round,Tryz.f181,a181,reg181,loop181,hid,hlt,h0,d1,d2,av,li,ct,ah,ad]
     ·have hin:i=bd t:=by omega
      have hi0:¬(i:Int)=0:=by omega
      have hle1:(i:Int)≤t.length:=by omega
      have hmin:min i t.length=i:=by omega
      rw[←hin] at h19 hdm h0⊢
      have htl:(i:Int).toNat=i:=by omega
      have het:=fQ 48 (by decide) (t.take i)
      generalize hdd:aw 48 (t.take i)=d at het h19 hdm
      by_cases hd0:d=[]
      ·subst hd0
       simp[round,Tryz.f181,a181,reg181,loop181,hid,hlt,h0,hi0,d1,d2,av,ah,ad,hle1,htl,het,gB,hmin]
      ·have hea:=nX d hd0 h19 hdm
       by_cases hbig:fC 0 d<9223372036854775808
       ·simp only[hbig,if_true] at hea
        simp[round,Tryz.f181,a181,reg181,loop181,hid,hlt,h0,hi0,d1,d2,av,ah,ad,hle1,htl,het,gB,hd0,hea,hmin,hbig]
       ·simp only[hbig,if_false] at hea
        simp[round,Tryz.f181,a181,reg181,loop181,hid,hlt,h0,hi0,d1,d2,av,ah,ad,hle1,htl,het,gB,hd0,hea,hmin,hbig]
    ·by_cases h0:bd t=0
     ·have hi0:i=0:=by omega
      subst hi0
      simp[round,Tryz.f181,a181,reg181,loop181,hid,hlt,h0,d1,av,li,ct,ah,ad]
     ·have hin:i=bd t:=by omega
      have hi0:¬(i:Int)=0:=by omega
      have hle1:(i:Int)≤t.length:=by omega
      have hmin:min i t.length=i:=by omega
      rw[←hin] at h19 hdm h0⊢
      have htl:(i:Int).toNat=i:=by omega
      have het:=fQ 48 (by decide) (t.take i)
      generalize hdd:aw 48 (t.take i)=d at het h19 hdm
      by_cases hd0:d=[]
      ·subst hd0
       simp[round,Tryz.f181,a181,reg181,loop181,hid,hlt,h0,hi0,d1,av,ah,ad,hle1,htl,het,gB,hmin]
      ·have hea:=nX d hd0 h19 hdm
       by_cases hbig:fC 0 d<9223372036854775808
       ·simp only[hbig,if_true] at hea
        simp[round,Tryz.f181,a181,reg181,loop181,hid,hlt,h0,hi0,d1,av,ah,ad,hle1,htl,het,gB,hd0,hea,hmin,hbig]
       ·simp only[hbig,if_false] at hea
        simp[round,Tryz.f181,a181,reg181,loop181,hid,hlt,h0,hi0,d1,av,ah,ad,hle1,htl,het,gB,hd0,hea,hmin,hbig]
  ·have hdg:True:=trivial
   by_cases h0:bd t=0
   ·have hi0:i=0:=by omega
    subst hi0
    simp[round,Tryz.f181,a181,reg181,loop181,hid,hlt,h0,hdg,av,li,ct,ah,ad]
   ·have hin:i=bd t:=by omega
    have hi0:¬(i:Int)=0:=by omega
    have hle1:(i:Int)≤t.length:=by omega
    have hmin:min i t.length=i:=by omega
    rw[←hin] at h19 hdm h0⊢
    have htl:(i:Int).toNat=i:=by omega
    have het:=fQ 48 (by decide) (t.take i)
    generalize hdd:aw 48 (t.take i)=d at het h19 hdm
    by_cases hd0:d=[]
    ·subst hd0
     simp[round,Tryz.f181,a181,reg181,loop181,hid,hlt,h0,hi0,hdg,av,ah,ad,hle1,htl,het,gB,hmin]
    ·have hea:=nX d hd0 h19 hdm
     by_cases hbig:fC 0 d<9223372036854775808
     ·simp only[hbig,if_true] at hea
      simp[round,Tryz.f181,a181,reg181,loop181,hid,hlt,h0,hi0,hdg,av,ah,ad,hle1,htl,het,gB,hd0,hea,hmin,hbig]
     ·simp only[hbig,if_false] at hea
      simp[round,Tryz.f181,a181,reg181,loop181,hid,hlt,h0,hi0,hdg,av,ah,ad,hle1,htl,het,gB,hd0,hea,hmin,hbig]
@[simp] theorem Fun.cellsL_cons(f:Fun)(r:List Fun):Fun.cellsL (f::r)=f.cells++Fun.cellsL r:=by rw[Fun.cellsL]
abbrev PR:=Option Fun×List UInt8
def dE(k:Fun→Fun)(x:PR):PR:=match x with
 |(some f,t)=>if(isC 41 t).1 then(some (k f),(isC 41 t).2) else(none,(isC 41 t).2)
 |(none,t)=>(none,t)
def cU(all:List UInt8→PR)(kind:Int)(r:List UInt8):PR:=if(isC 40 r).1 then dE (fun f=> .mk kind 0 [f]) (all (isC 40 r).2) else(none,(isC 40 r).2)
def bU(all:List UInt8→PR)(s:List UInt8):PR:=match aw 32 s with
 |[]=>(none,[])
 |c::r=>if c=88 then(some (.mk 0 0 []),r) else if c=40 then dE _root_.id (all r) else if c=80 then cU all 5 r else if c=66 then cU all 6 r else if c=68 then cU all 7 r else((gy (c::r)).1.map fun k=> .mk 1 k [],(gy (c::r)).2)
def db(all:List UInt8→PR)(s:List UInt8):PR:=match bU all s with
 |(none,t)=>(none,t)
 |(some f,t)=>if(isC 94 t).1 then((gy (isC 94 t).2).1.map fun k=> .mk 4 k [f],(gy (isC 94 t).2).2) else(some f,(isC 94 t).2)
def cX(all:List UInt8→PR)(kind:Int)(f:Fun)(u:List UInt8):PR:=match db all u with
 |(none,v)=>(none,v)
 |(some g,v)=>(some (.mk kind 0 [f,g]),v)
def fD:Nat→List UInt8→PR
 |0,s=>(none,s)
 |n+1,s=>match db (fD n) s with
  |(none,t)=>(none,t)
  |(some f,t)=>if(isC 42 t).1 then cX (fD n) 2 f (isC 42 t).2 else if(isC 43 (isC 42 t).2).1 then cX (fD n) 3 f (isC 43 (isC 42 t).2).2 else(some f,(isC 43 (isC 42 t).2).2)
def Sm(s:List UInt8):Prop:=s.length≤1000000
theorem Sm.suffix{s t:List UInt8}(h:Sm s)(k:t<:+s):Sm t:=by have:=k.length_le;unfold Sm at*;omega
theorem gw(c:UInt8)(s:List UInt8):aw c s<:+s:=List.dropWhile_suffix _
theorem am(c:UInt8)(s:List UInt8):(isC c s).2<:+s:=by
 have h:=gw 32 s
 unfold isC
 cases hd:aw 32 s with
 |nil=>exact List.nil_suffix
 |cons b r=>
  rw[hd] at h
  simp only
  split
  ·exact(List.suffix_cons b r).trans h
  ·exact h
theorem qv(s:List UInt8):(gy s).2<:+s:=by
 have h:=gw 32 s
 unfold gy
 simp only
 split
 ·exact h
 ·exact(List.drop_suffix _ _).trans h
theorem mR(k:Fun→Fun)(x:PR):(dE k x).2<:+x.2:=by
 unfold dE
 split
 ·split<;>exact am _ _
 ·exact List.suffix_refl _
section
variable {all:List UInt8→PR} (ha:∀s,(all s).2<:+s)
include ha
theorem jD(k:Int)(r:List UInt8):(cU all k r).2<:+r:=by
 unfold cU
 split
 ·exact(mR _ _).trans ((ha _).trans (am _ _))
 ·exact am _ _
theorem kX(s:List UInt8):(bU all s).2<:+s:=by
 have h:=gw 32 s
 unfold bU
 cases hd:aw 32 s with
 |nil=>exact List.nil_suffix
 |cons c r=>
  rw[hd] at h
  have hr:=(List.suffix_cons c r).trans h
  simp only
  repeat' split
  ·exact hr
  ·exact(mR _ _).trans ((ha _).trans hr)
  ·exact(jD ha _ _).trans hr
  ·exact(jD ha _ _).trans hr
  ·exact(jD ha _ _).trans hr
  ·exact(qv _).trans h
theorem hD(s:List UInt8):(db all s).2<:+s:=by
 have h:=kX ha s
 unfold db
 split
 ·rename_i t he;rw[he] at h;exact h
 ·rename_i f t he
  rw[he] at h
  split
  ·exact(qv _).trans ((am _ _).trans h)
  ·exact(am _ _).trans h
theorem mb(k:Int)(f:Fun)(s:List UInt8):(cX all k f s).2<:+s:=by
 have h:=hD ha s
 unfold cX
 split
 ·rename_i t he;rw[he] at h;exact h
 ·rename_i g t he;rw[he] at h;exact h
end
theorem dR:∀n s,(fD n s).2<:+s
 |0,s=>by rw[fD];exact List.suffix_refl _
 |n+1,s=>by
  have h:=hD (dR n) s
  rw[fD]
  split
  ·rename_i t he;rw[he] at h;exact h
  ·rename_i f t he
   rw[he] at h
   split
   ·exact(mb (dR n) _ _ _).trans ((am _ _).trans h)
   ·split
    ·exact(mb (dR n) _ _ _).trans ((am _ _).trans ((am _ _).trans h))
    ·exact(am _ _).trans ((am _ _).trans h)
theorem sd{c:UInt8}(h:¬c=32)(r:List UInt8):isC c (c::r)=(true,r):=by unfold isC;rw[eu h];simp
def C9(x:PR):Res:=match x.1 with
 |some f=> .ret (.agg f.cells)
 |none=> .pan ct
@[simp] theorem Ja(f:Fun)(t:List UInt8):C9 (some f,t)= .ret (.agg f.cells):=rfl
@[simp] theorem IY(t:List UInt8):C9 (none,t)= .pan ct:=rfl
def A3(id:Nat)(all:List UInt8→PR)(n:Nat):Prop:=∀s (m:Mem),Sm s→s.length<n→m.bx[id]? =some [.str s]→ai C0 103 [.ptr id 0] m=some (C9 (all s),⟨m.bx.set id [.str (all s).2],m.rw⟩)
theorem gp{c:UInt8}{s:List UInt8}(h:(isC c s).1=true):(isC c s).2.length<s.length:=by
 have hl:=bf 32 s
 unfold isC at h⊢
 cases hd:aw 32 s with
 |nil=>rw[hd] at h;cases h
 |cons b r=>
  rw[hd] at h hl
  simp only at h⊢
  split at h
  ·rename_i hb
   rw[if_pos hb]
   simp at hl⊢
   omega
  ·cases h
set_option maxHeartbeats 1000000 in
theorem l6{id n:Nat}{all:List UInt8→PR}(hall:A3 id all n)(q:Nat)(hq:¬id=q)(k:Int)(c:UInt8)(r:List UInt8)(m:Mem)(h0:c≠0)(h32:¬c=32)(hs:Sm (c::r))(hn:r.length≤n)(hbx:m.bx[id]? =some [.str (c::r)])(hbq:m.bx[q]? =some [.ptr id 0]):
  ai C0 206 [.int .i64 k,.ptr q 0] m=some (C9 (cU all k r),⟨m.bx.set id [.str (cU all k r).2],m.rw⟩):=by
 have hid:id<m.bx.length:=(List.getElem?_eq_some_iff.1 hbx).1
 have hqd:q<m.bx.length:=(List.getElem?_eq_some_iff.1 hbq).1
 have hg:m.bx[id]=[.str (c::r)]:=(List.getElem?_eq_some_iff.1 hbx).2
 have hgq:m.bx[q]=[.ptr id 0]:=(List.getElem?_eq_some_iff.1 hbq).2
 rw[ab C0 (aj _ (by decide)) (by rw[ay];exact Tryz.func206) rfl (by rw[ae];rfl) (by rw[ae];rfl) (by decide) (by simp[Tryz.f206])]
 have e1:=oF id (c::r) ⟨m.bx++[[.int .i64 0,.int .i64 0,.nils]],m.rw⟩ (by simp[ah,hid,hg])
 have e2:=my id c h0 (c::r) ⟨m.bx.set id [.str (c::r)]++[[.int .i64 0,.int .i64 0,.nils]],m.rw⟩ (by simp[ah,hid])
 have e3:=my id 40 (by decide) r ⟨m.bx.set id [.str r]++[[.int .i64 0,.int .i64 0,.nils]],m.rw⟩ (by simp[ah,hid])
 rw[eu h32] at e1
 rw[sd h32] at e2
 unfold cU
 cases h40:(isC 40 r).1 with
 |false=>
  simp[ad,hid,h40] at e1 e2 e3
  simp[Tryz.f206,a206,reg206,draw206,dok206,ah,ad,hid,hqd,hg,hgq,hq,e1,e2,e3,ag]
  simp[ct]
 |true=>
 have hlt:=gp h40
 have e4:=hall (isC 40 r).2 ⟨m.bx.set id [.str (isC 40 r).2]++[[.int .i64 0,.int .i64 0,.nils]],m.rw⟩ (hs.suffix ((am _ _).trans (List.suffix_cons c r))) (by omega) (by simp[ah,hid])
 simp only[if_true]
 cases hal:all (isC 40 r).2 with
 |mk o u=>
 rw[hal] at e4
 cases o with
 |none=>
  simp[ad,hid,h40] at e1 e2 e3 e4
  simp[dE]
  simp[Tryz.f206,a206,reg206,draw206,dok206,ah,ad,hid,hqd,hg,hgq,hq,e1,e2,e3,e4,ag]
  simp[ct]
 |some g=>
 have e5:=my id 41 (by decide) u ⟨m.bx.set id [.str u]++[[.int .i64 0,.int .i64 0,.nils],g.cells],m.rw⟩ (by simp[ah,hid])
 simp only[dE]
 cases h41:(isC 41 u).1 with
 |false=>
  simp[ad,hid,h40,h41] at e1 e2 e3 e4 e5
  simp[Tryz.f206,a206,reg206,draw206,dok206,ah,ad,hid,hqd,hg,hgq,hq,e1,e2,e3,e4,e5,ag]
  simp[ct]
 |true=>
 simp[ad,hid,h40,h41] at e1 e2 e3 e4 e5
 simp[Tryz.f206,a206,reg206,draw206,dok206,ah,ad,hid,hqd,hg,hgq,hq,e1,e2,e3,e4,e5,ag]
set_option maxHeartbeats 4000000 in
theorem zT{id n:Nat}{all:List UInt8→PR}(hall:A3 id all n)(s:List UInt8)(m:Mem)(hs:Sm s)(hn:s.length≤n)(hbx:m.bx[id]? =some [.str s]):
  ai C0 180 [.ptr id 0] m=some (C9 (bU all s),⟨m.bx.set id [.str (bU all s).2],m.rw⟩):=by
 have hid:id<m.bx.length:=(List.getElem?_eq_some_iff.1 hbx).1
 have hg:m.bx[id]=[.str s]:=(List.getElem?_eq_some_iff.1 hbx).2
 have hdl:=bf 32 s
 unfold bU
 rw[ab C0 (aj _ (by decide)) (by rw[ay];exact Tryz.func180) rfl (by rw[ae];rfl) (by rw[ae];rfl) (by decide) (by simp[Tryz.f180])]
 have e1:=oF id s ⟨m.bx++[[.ptr id 0],[.int .i64 0,.int .i64 0,.nils]],m.rw⟩ (by simp[ah,hid,hg])
 cases hd:aw 32 s with
 |nil=>
  rw[hd] at e1
  simp[ad,hid] at e1
  have e2:=pD id [] (by simp) ⟨m.bx.set id [.str []]++[[.ptr id 0],[.int .i64 0,.int .i64 0,.nils]],m.rw⟩ (by simp[ah,hid])
  have hn0:gy []=(none,[]):=rfl
  rw[hn0] at e2
  simp[ad,hid] at e2
  simp[Tryz.f180,a180,reg180,ah,ad,hid,e1,e2,ag]
  simp[ct]
 |cons c r=>
 rw[hd] at e1 hdl
 have hrl:r.length<n:=by simp at hdl;omega
 simp only
 have hs1:Sm (c::r):=hs.suffix (by rw[←hd];exact gw 32 s)
 have hsr:Sm r:=hs1.suffix (List.suffix_cons c r)
 simp[ad,hid] at e1
 by_cases c88:c=88
 ·subst c88
  have e2:=my id 88 (by decide) (88::r) ⟨m.bx.set id [.str (88::r)]++[[.ptr id 0],[.int .i64 0,.int .i64 0,.nils]],m.rw⟩ (by simp[ah,hid])
  rw[sd (by decide)] at e2
  simp[ad,hid] at e2
  simp[Tryz.f180,a180,reg180,ah,ad,hid,e1,e2,ag]
 rw[if_neg c88]
 have n88:¬(c.toNat:Int)=88:=fun h=>c88 ((dX c 88).1 h)
 by_cases c40:c=40
 ·subst c40
  rw[if_pos rfl]
  have e2:=my id 40 (by decide) (40::r) ⟨m.bx.set id [.str (40::r)]++[[.ptr id 0],[.int .i64 0,.int .i64 0,.nils]],m.rw⟩ (by simp[ah,hid])
  have e4:=hall r ⟨m.bx.set id [.str r]++[[.ptr id 0],[.int .i64 0,.int .i64 0,.nils]],m.rw⟩ hsr hrl (by simp[ah,hid])
  rw[sd (by decide)] at e2
  cases hal:all r with
  |mk o u=>
  rw[hal] at e4
  cases o with
  |none=>
   simp[ad,hid] at e2 e4
   simp[dE]
   simp[Tryz.f180,a180,reg180,ah,ad,hid,e1,e2,e4,ag]
   simp[ct]
  |some g=>
  have e5:=my id 41 (by decide) u ⟨m.bx.set id [.str u]++[[.ptr id 0],[.int .i64 0,.int .i64 0,.nils],g.cells],m.rw⟩ (by simp[ah,hid])
  simp only[dE]
  cases h41:(isC 41 u).1 with
  |false=>
   simp[ad,hid,h41] at e2 e4 e5
   simp[Tryz.f180,a180,reg180,ah,ad,hid,e1,e2,e4,e5,ag]
   simp[ct]
  |true=>
  simp[ad,hid,h41] at e2 e4 e5
  simp[Tryz.f180,a180,reg180,ah,ad,hid,e1,e2,e4,e5,ag]
 rw[if_neg c40]
 have n40:¬(c.toNat:Int)=40:=fun h=>c40 ((dX c 40).1 h)
 by_cases c80:c=80
 ·subst c80
  rw[if_pos rfl]
  have e2:=l6 hall (m.bx.length) (by omega) 5 80 r ⟨m.bx.set id [.str (80::r)]++[[.ptr id 0],[.int .i64 0,.int .i64 0,.nils]],m.rw⟩ (by decide) (by decide) hs1 (by omega) (by simp[ah,hid]) (by simp)
  cases hal:cU all 5 r with
  |mk o u=>
  rw[hal] at e2
  cases o with
  |none=>
   simp[ad,hid] at e2
   simp[Tryz.f180,a180,reg180,ah,ad,hid,e1,e2,ag]
   simp[ct]
  |some g=>
  simp[ad,hid] at e2
  simp[Tryz.f180,a180,reg180,ah,ad,hid,e1,e2,ag]
 rw[if_neg c80]
 have n80:¬(c.toNat:Int)=80:=fun h=>c80 ((dX c 80).1 h)
 by_cases c66:c=66
 ·subst c66
  rw[if_pos rfl]
  have e2:=l6 hall (m.bx.length) (by omega) 6 66 r ⟨m.bx.set id [.str (66::r)]++[[.ptr id 0],[.int .i64 0,.int .i64 0,.nils]],m.rw⟩ (by decide) (by decide) hs1 (by omega) (by simp[ah,hid]) (by simp)
  cases hal:cU all 6 r with
  |mk o u=>
  rw[hal] at e2
  cases o with
  |none=>
   simp[ad,hid] at e2
   simp[Tryz.f180,a180,reg180,ah,ad,hid,e1,e2,ag]
   simp[ct]
  |some g=>
  simp[ad,hid] at e2
  simp[Tryz.f180,a180,reg180,ah,ad,hid,e1,e2,ag]
 rw[if_neg c66]
 have n66:¬(c.toNat:Int)=66:=fun h=>c66 ((dX c 66).1 h)
 by_cases c68:c=68
 ·subst c68
  rw[if_pos rfl]
  have e2:=l6 hall (m.bx.length) (by omega) 7 68 r ⟨m.bx.set id [.str (68::r)]++[[.ptr id 0],[.int .i64 0,.int .i64 0,.nils]],m.rw⟩ (by decide) (by decide) hs1 (by omega) (by simp[ah,hid]) (by simp)
  cases hal:cU all 7 r with
  |mk o u=>
  rw[hal] at e2
  cases o with
  |none=>
   simp[ad,hid] at e2
   simp[Tryz.f180,a180,reg180,ah,ad,hid,e1,e2,ag]
   simp[ct]
  |some g=>
  simp[ad,hid] at e2
  simp[Tryz.f180,a180,reg180,ah,ad,hid,e1,e2,ag]
 rw[if_neg c68]
 have n68:¬(c.toNat:Int)=68:=fun h=>c68 ((dX c 68).1 h)
 have e2:=pD id (c::r) hs1 ⟨m.bx.set id [.str (c::r)]++[[.ptr id 0],[.int .i64 0,.int .i64 0,.nils]],m.rw⟩ (by simp[ah,hid])
 cases hn:gy (c::r) with
 |mk o u=>
 rw[hn] at e2
 cases o with
 |none=>
  simp[ad,hid] at e2
  simp[Tryz.f180,a180,reg180,ah,ad,hid,e1,e2,ag,n88,n40,n80,n66,n68]
  simp[ct]
 |some k=>
 simp[ad,hid] at e2
 simp[Tryz.f180,a180,reg180,ah,ad,hid,e1,e2,ag,n88,n40,n80,n66,n68]
set_option maxHeartbeats 4000000 in
theorem rI{id n:Nat}{all:List UInt8→PR}(ha:∀s,(all s).2<:+s)(hall:A3 id all n)(s:List UInt8)(m:Mem)(hs:Sm s)(hn:s.length≤n)(hbx:m.bx[id]? =some [.str s]):
  ai C0 144 [.ptr id 0] m=some (C9 (db all s),⟨m.bx.set id [.str (db all s).2],m.rw⟩):=by
 have hid:id<m.bx.length:=(List.getElem?_eq_some_iff.1 hbx).1
 have hg:m.bx[id]=[.str s]:=(List.getElem?_eq_some_iff.1 hbx).2
 unfold db
 have e1:=zT hall s ⟨m.bx++[[.int .i64 0,.int .i64 0,.nils]],m.rw⟩ hs hn (by simp[ah,hid,hg])
 have hsuf:=kX ha s
 rw[ab C0 (aj _ (by decide)) (by rw[ay];exact Tryz.func144) rfl (by rw[ae];rfl) (by rw[ae];rfl) (by decide) (by simp[Tryz.f144])]
 cases ho:bU all s with
 |mk o u=>
 rw[ho] at e1 hsuf
 cases o with
 |none=>
  simp[ad,hid] at e1
  simp[Tryz.f144,a144,reg144,draw144,dok144,ah,ad,hid,e1,ag]
  simp[ct]
 |some g=>
 have hu:Sm u:=hs.suffix hsuf
 have e2:=Bf id 94 (by decide) u ⟨m.bx.set id [.str u]++[[.int .i64 0,.int .i64 0,.nils],g.cells],m.rw⟩ (by simp[ah,hid])
 simp[ad,hid] at e1 e2
 simp only
 cases h94:(isC 94 u).1 with
 |false=>
  simp[h94] at e2
  simp[Tryz.f144,a144,reg144,draw144,dok144,ah,ad,hid,e1,e2,ag]
 |true=>
  simp[h94] at e2
  have hu2:Sm (isC 94 u).2:=hu.suffix (am _ _)
  have e3:=pD id (isC 94 u).2 hu2 ⟨m.bx.set id [.str (isC 94 u).2]++[[.int .i64 0,.int .i64 0,.nils],g.cells],m.rw⟩ (by simp[ah,hid])
  cases hn:gy (isC 94 u).2 with
  |mk o v=>
  rw[hn] at e3
  cases o with
  |none=>
   simp[ad,hid] at e3
   simp[Tryz.f144,a144,reg144,draw144,dok144,ah,ad,hid,e1,e2,e3,ag,dG,eH,hn,opA,qy]
   simp[ct]
  |some k=>
  simp[ad,hid] at e3
  simp[Tryz.f144,a144,reg144,draw144,dok144,ah,ad,hid,e1,e2,e3,ag,hn]
set_option maxHeartbeats 4000000 in
theorem HT(id:Nat):∀n,A3 id (fD n) n:=by
 intro n
 induction n with
 |zero=>intro s m hs hn;omega
 |succ n ih=>
 intro s m hs hn hbx
 have hid:id<m.bx.length:=(List.getElem?_eq_some_iff.1 hbx).1
 have hg:m.bx[id]=[.str s]:=(List.getElem?_eq_some_iff.1 hbx).2
 rw[fD]
 have e1:=rI (dR n) ih s ⟨m.bx++[[.int .i64 0,.int .i64 0,.nils]],m.rw⟩ hs (by omega) (by simp[ah,hid,hg])
 have hsuf:=hD (dR n) s
 rw[ab C0 (aj _ (by decide)) (by rw[ay];exact Tryz.func103) rfl (by rw[ae];rfl) (by rw[ae];rfl) (by decide) (by simp[Tryz.f103])]
 cases ho:db (fD n) s with
 |mk o u=>
 rw[ho] at e1 hsuf
 cases o with
 |none=>
  simp[ad,hid] at e1
  simp[Tryz.f103,a103,reg103,draw103,dok103,ah,ad,hid,e1,ag]
  simp[ct]
 |some g=>
 have hu:Sm u:=hs.suffix hsuf
 have hul:u.length≤s.length:=hsuf.length_le
 have e2:=Bf id 42 (by decide) u ⟨m.bx.set id [.str u]++[[.int .i64 0,.int .i64 0,.nils],g.cells],m.rw⟩ (by simp[ah,hid])
 simp[ad,hid] at e1 e2
 have hu2:Sm (isC 42 u).2:=hu.suffix (am _ _)
 have hu2l:=(am 42 u).length_le
 simp only
 cases h42:(isC 42 u).1 with
 |true=>
  simp only[if_true,cX]
  simp[h42] at e2
  have e3:=rI (dR n) ih (isC 42 u).2 ⟨m.bx.set id [.str (isC 42 u).2]++[[.int .i64 0,.int .i64 0,.nils],g.cells],m.rw⟩ hu2 (by omega) (by simp[ah,hid])
  cases hp:db (fD n) (isC 42 u).2 with
  |mk o v=>
  rw[hp] at e3
  cases o with
  |none=>
   simp[ad,hid] at e3
   simp[Tryz.f103,a103,reg103,draw103,dok103,ah,ad,hid,e1,e2,e3,ag,dG,eH]
   simp[ct]
  |some h=>
  simp[ad,hid] at e3
  simp[Tryz.f103,a103,reg103,draw103,dok103,ah,ad,hid,e1,e2,e3,ag]
 |false=>
  simp[h42] at e2
  have e3:=Bf id 43 (by decide) (isC 42 u).2 ⟨m.bx.set id [.str (isC 42 u).2]++[[.int .i64 0,.int .i64 0,.nils],g.cells],m.rw⟩ (by simp[ah,hid])
  have hu3:Sm (isC 43 (isC 42 u).2).2:=hu2.suffix (am _ _)
  have hu3l:=(am 43 (isC 42 u).2).length_le
  simp[ad,hid] at e3
  simp only[Bool.false_eq_true,if_false]
  cases h43:(isC 43 (isC 42 u).2).1 with
  |false=>
   simp[h43] at e3
   simp[Tryz.f103,a103,reg103,draw103,dok103,ah,ad,hid,e1,e2,e3,ag]
  |true=>
   simp only[if_true,cX]
   simp[h43] at e3
   have e4:=rI (dR n) ih (isC 43 (isC 42 u).2).2 ⟨m.bx.set id [.str (isC 43 (isC 42 u).2).2]++[[.int .i64 0,.int .i64 0,.nils],g.cells],m.rw⟩ hu3 (by omega) (by simp[ah,hid])
   cases hp:db (fD n) (isC 43 (isC 42 u).2).2 with
   |mk o v=>
   rw[hp] at e4
   cases o with
   |none=>
    simp[ad,hid] at e4
    simp[Tryz.f103,a103,reg103,draw103,dok103,ah,ad,hid,e1,e2,e3,e4,ag,dG,eH]
    simp[ct]
   |some h=>
   simp[ad,hid] at e4
   simp[Tryz.f103,a103,reg103,draw103,dok103,ah,ad,hid,e1,e2,e3,e4,ag]
theorem jf(b:UInt8)(m:Mem):ai C0 152 [.int .u8 b.toNat] m=some (.ret (.bool (be b)),m):=by
 rw[ab C0 (aj _ (by decide)) (by rw[ay];exact Tryz.func152) rfl (by rw[ae];rfl) (by rw[ae];rfl) (by decide) (by simp[Tryz.f152])]
 by_cases h1:48≤b.toNat
 ·have h1':(48:Int)≤b.toNat:=by omega
  by_cases h2:b.toNat≤57
  ·have h2':(b.toNat:Int)≤57:=by omega
   simp[Tryz.f152,a152,reg152,be,h1,h2,h1',h2']
  ·have h2':¬(b.toNat:Int)≤57:=by omega
   simp[Tryz.f152,a152,reg152,be,h1,h2,h1',h2']
 ·have h1':¬(48:Int)≤b.toNat:=by omega
  simp[Tryz.f152,a152,reg152,be,h1,h1']
set_option maxHeartbeats 1000000 in
theorem uG(s:List UInt8)(hs:s.length≤1000000)(c:UInt8)(m:Mem):ai C0 153 [.str s,.int .u8 c.toNat] m=some (.ret (.bool (decide (c∈s))),m):=by
 rw[ab C0 (aj _ (by decide)) (by rw[ay];exact Tryz.func153) rfl (by rw[ae];rfl) (by rw[ae];rfl) (by decide) (by simp[Tryz.f153])]
 simp[Tryz.f153,a153,reg153,loop153]
 refine aC (fun i:Nat=>⟨[(0,.str s),(1,.int .u8 c.toNat),(5,.int .i64 i)],m⟩)
  (fun i=>some (.ret (.bool (decide (c∈s.drop i))),m)) (fun i=>s.length-i) (fun i=>i≤s.length) 0 ?_ ?_ ?_ ?_ ?_
 ·simp
 ·simp
 ·omega
 ·intro x;simp[Tryz.f153,a153,reg153,loop153]
 ·intro i hi hrec
  by_cases hlt:i<s.length
  ·have w2:IntKind.i64.wrap (i+1)=i+1:=al _ (by omega)
   have hm:(c∈s.drop i)↔(c=s[i]∨c∈s.drop (i+1)):=by rw[List.drop_eq_getElem_cons hlt,List.mem_cons]
   by_cases hc:s[i]=c
   ·have hc':(s[i].toNat:Int)=c.toNat:=by rw[hc]
    simp[round,Tryz.f153,a153,reg153,loop153,hlt,w2,eq_true hc',hm,hc]
   ·have hc':¬(s[i].toNat:Int)=c.toNat:=fun e=>hc ((dX _ _).1 e)
    simp[round,Tryz.f153,a153,reg153,loop153,hlt,w2,hc',aA]
    refine hrec (i+1) _ _ ?_ ?_ ?_ ?_
    ·omega
    ·omega
    ·simp
    ·have:¬c=s[i]:=fun e=>hc e.symm
     simp[hm,this]
  ·clear hrec
   simp[round,Tryz.f153,a153,reg153,loop153,hlt]
   rw[List.drop_eq_nil_of_le (by omega)]
   simp
def gz(s:List UInt8):Int:=if fC 0 s<9223372036854775808 then fC 0 s else 9223372036854775807
set_option maxHeartbeats 2000000 in
theorem o9(s:List UInt8)(hs:s.length≤1000000)(hd:∀b,b∈s→be b=true)(m:Mem):ai C0 186 [.str s] m=some (.ret (.int .i64 (gz s)),m):=by
 rw[ab C0 (aj _ (by decide)) (by rw[ay];exact Tryz.func186) rfl (by rw[ae];rfl) (by rw[ae];rfl) (by decide) (by simp[Tryz.f186])]
 simp[Tryz.f186,a186,reg186,loop186]
 refine aC (fun x:Nat×Nat=>⟨[(0,.str s),(3,.int .i64 x.2),(4,.int .i64 x.1)],m⟩)
  (fun x=>some (.ret (.int .i64 (if fC x.2 (s.drop x.1)<9223372036854775808 then fC x.2 (s.drop x.1) else 9223372036854775807)),m)) (fun x=>s.length-x.1) (fun x=>x.1≤s.length∧x.2<9223372036854775808) (0,0) ?_ ?_ ?_ ?_ ?_
 ·simp
 ·simp[gz]
 ·simp
 ·intro x;simp[Tryz.f186,a186,reg186,loop186]
 ·rintro⟨i,n⟩ ⟨hi,hn⟩ hrec
  simp only at hi hn
  by_cases hlt:i<s.length
  ·have w2:IntKind.i64.wrap (i+1)=i+1:=al _ (by omega)
   have hb:=gN.1 (hd s[i] (List.getElem_mem hlt))
   obtain⟨d,hdd⟩:∃d:Nat,s[i].toNat=48+d:=⟨s[i].toNat-48,by omega⟩
   have hd9:d≤9:=by omega
   have e1:(s[i].toNat:Int)-48=d:=by omega
   have w3:IntKind.u8.wrap (s[i].toNat-48)=d:=by rw[e1];exact Bx _ (by omega)
   have w4:IntKind.i64.wrap d=d:=al _ (by omega)
   have w5:IntKind.i64.wrap (9223372036854775807-d)=9223372036854775807-d:=al _ (by omega)
   have q1:(9223372036854775807-(d:Int)).tdiv 10=((9223372036854775807-d) / 10:Nat):=by
    rw[Int.tdiv_eq_ediv_of_nonneg (by omega)]
    omega
   have w6:IntKind.i64.wrap (((9223372036854775807-d) / 10:Nat):Int)=((9223372036854775807-d) / 10:Nat):=al _ (by omega)
   have hv:=EO hlt n
   rw[hdd,show 48+d-48=d by omega] at hv
   by_cases hc:(9223372036854775807-d) / 10<n
   ·have hge:=wj (s.drop (i+1)) (n*10+d)
    have hbig:¬fC n (s.drop i)<9223372036854775808:=by rw[hv];omega
    have hc':(((9223372036854775807-d) / 10:Nat):Int)<n:=by omega
    generalize (9223372036854775807-d) / 10=q at q1 w6 hc'
    simp[round,Tryz.f186,a186,reg186,loop186,hlt,w2,w3,w4,w5,q1,w6,hc',hbig]
   ·have hc':¬(((9223372036854775807-d) / 10:Nat):Int)<n:=by omega
    have w7:IntKind.i64.wrap (10*n)=10*n:=al _ (by omega)
    have w8:IntKind.i64.wrap (10*n+d)=10*n+d:=al _ (by omega)
    have hn2:n*10+d<9223372036854775808:=by omega
    generalize (9223372036854775807-d) / 10=q at q1 w6 hc'
    simp[round,Tryz.f186,a186,reg186,loop186,hlt,w2,w3,w4,w5,q1,w6,hc',w7,w8,aA]
    refine hrec (i+1,n*10+d) _ _ ?_ ?_ ?_ ?_
    ·simp;omega
    ·simp only;omega
    ·simp;omega
    ·simp only
     rw[hv]
  ·clear hrec
   simp[round,Tryz.f186,a186,reg186,loop186,hlt]
   rw[List.drop_eq_nil_of_le (by omega),tE]
   simp[hn]
def bv(l:List (List UInt8)):List A:=l.map .str
@[simp] theorem wU(l:List (List UInt8)):(bv l).length=l.length:=by simp[bv]
@[simp] theorem Kt:bv []=[]:=rfl
@[simp] theorem IQ(t:List UInt8)(l:List (List UInt8)):bv (t::l)= .str t::bv l:=rfl
theorem bP(a b:List (List UInt8)):bv (a++b)=bv a++bv b:=by simp[bv]
@[simp] theorem GY(nb nr:Nat)(l:List (List UInt8)):(bv l).all (closed nb nr)=true:=by simp[bv]
@[simp] theorem KN(nb nr:Nat)(g)(l:List (List UInt8)):(bv l).map (er1 nb nr g)=bv l:=by
 unfold bv
 rw[List.map_map]
 exact List.map_congr_left fun x _=>rfl
@[simp] theorem I6(l:List (List UInt8)):(bv l).take l.length=bv l:=List.take_of_length_le (by simp)
def dJ:List UInt8:=[40,41,91,93,123,125,44,58,108,114]
theorem fq{l:List Nat}{m:Mem}{R':List Row}{tm:List (Nat×A)}(hl:l.all (fun t=>closed m.bx.length (m.rw.length+R'.length) (lk t tm))=true)(hr:R'.all (fun r=>r.cs.all (closed m.bx.length (m.rw.length+R'.length)))=true):
  endRound (some l) m ⟨tm,⟨m.bx,m.rw++R'⟩⟩=some ⟨prune (some l) tm,⟨m.bx,m.rw++R'⟩⟩:=by
 have:=dQ (l:=l) (B:=m.bx) (L:=[]) (L':=[]) (R:=m.rw) (R':=R') (tm:=tm) (by simp) (by simpa using hl) (by simp) (by simpa using hr)
 simpa using this
theorem eN{l:List Nat}{m:Mem}{R0 R':List Row}{tm:List (Nat×A)}(hl:l.all (fun t=>closed m.bx.length (m.rw.length+R'.length) (lk t tm))=true)(hr:R'.all (fun r=>r.cs.all (closed m.bx.length (m.rw.length+R'.length)))=true):
  endRound (some l) ⟨m.bx,m.rw++R0⟩ ⟨tm,⟨m.bx,m.rw++R'⟩⟩=some ⟨prune (some l) tm,⟨m.bx,m.rw++R'⟩⟩:=by
 have:=du (l:=l) (B:=m.bx) (L:=[]) (L':=[]) (R:=m.rw) (R0:=R0) (R':=R') (tm:=tm) (by simp) (by simpa using hl) (by simp) (by simpa using hr)
 simpa using this
theorem me {C:Cfg} {f nt:Nat} {σ:Type} (S:σ→St) (G:σ→Option (Ex×St)) (meas:σ→Nat) (I:σ→Prop) (x:σ) {b:Code} {id:Nat} {s0:St} {r:Option (Ex×St)}
  (hs:(⟨prune (C.ann.loop f (cu b)) s0.tm,s0.m⟩:St)=S x) (hr:G x=r) (hI:I x) (hp:∀x,prune (C.ann.loop f (cu b)) (S x).tm=(S x).tm)
  (h:∀x,I x→(∀y s r,meas y<meas x→I y→s=S y→G y=r→cp id (ak C f nt (.loop b) s)=r)→cp id (andThen (round C f nt b (S x)) (ak C f nt (.loop b)))=G x):
  cp id (ak C f nt (.loop b) s0)=r:=by
 have e:ak C f nt (.loop b) s0=ak C f nt (.loop b) (S x):=by
  rw[aG,aG (s:=S x),hs]
  have:(⟨prune (C.ann.loop f (cu b)) (S x).tm,(S x).m⟩:St)=S x:=by rw[hp]
  rw[this]
 rw[e]
 exact xV S G meas I x rfl hr hI hp h
def tok:List UInt8→Option (List (List UInt8))
 |[]=>some []
 |c::r=>
  if c=32 then tok r
  else if be c then(tok (r.drop (bd r))).map ((c::r.take (bd r)):: ·)
  else if c∈dJ then(tok r).map ([c]:: ·)
  else none
 termination_by s=>s.length
 decreasing_by all_goals (simp;try omega)
theorem kR:tok []=some []:=by rw[tok]
theorem jb(c:UInt8)(r:List UInt8):tok (c::r)=if c=32 then tok r
  else if be c then(tok (r.drop (bd r))).map ((c::r.take (bd r)):: ·)
  else if c∈dJ then(tok r).map ([c]:: ·)
  else none:=by rw[tok]
theorem vo{s:List UInt8}{i:Nat}(h:i<s.length)(n:Nat):(s.take (i+1+n)).drop i=s[i]::(s.drop (i+1)).take n:=by
 rw[List.drop_take,show i+1+n-i=n+1 by omega,List.drop_eq_getElem_cons h,List.take_succ_cons]
def qT(m:Mem)(l:List (List UInt8))(o:Option (List (List UInt8))):Option (Res×Mem):=match o with
 |none=>some (.ret (.tup [.isl false 0 [],.bool false]),m)
 |some l'=>some (.ret (.tup [.isl false (l.length+l'.length) (bv l++bv l'),.bool true]),m)
def cE(m:Mem)(l:List (List UInt8)):A:=match l with
 |[]=> .nils
 |l=> .sl m.rw.length l.length 0 l.length
def cC(l:List (List UInt8)):List Row:=match l with
 |[]=>[]
 |l=>[⟨9,bv l⟩]
set_option maxHeartbeats 16000000 in
theorem CH(s:List UInt8)(hs:s.length≤1000000)(m:Mem):ai C0 109 [.str s,.str dJ] m=qT m [] (tok s):=by
 rw[ab C0 (aj _ (by decide)) (by rw[ay];exact Tryz.func109) rfl (by rw[ae];rfl) (by rw[ae];rfl) (by decide) (by simp[Tryz.f109])]
 simp[Tryz.f109,a109,reg109,loop109]
 refine aC (fun x:Nat×List (List UInt8)=>⟨[(0,.str s),(1,.str dJ),(6,cE m x.2),(7,.int .i64 x.1)],⟨m.bx,m.rw++cC x.2⟩⟩)
  (fun x=>qT m x.2 (tok (s.drop x.1))) (fun x=>s.length-x.1) (fun x=>x.1≤s.length∧x.2.length≤x.1) (0,[]) ?_ ?_ ?_ ?_ ?_
 ·simp[cE,cC]
 ·simp
 ·simp
 ·intro x;simp[Tryz.f109,a109,reg109,loop109]
 ·rintro⟨i,l⟩ ⟨hi,hll⟩ hrec
  simp only at hi hll
  have hmk:=uG dJ (by decide)
  by_cases hlt:i<s.length
  case neg=>
   clear hrec
   have hd:s.drop i=[]:=List.drop_eq_nil_of_le (by omega)
   rw[hd,kR]
   cases l with
   |nil=>simp[round,Tryz.f109,a109,reg109,loop109,hlt,cE,cC,qT]
   |cons t l=>
    simp[round,Tryz.f109,a109,reg109,loop109,hlt,cE,cC,qT]
  have w2:IntKind.i64.wrap (i+1)=i+1:=al _ (by omega)
  rw[List.drop_eq_getElem_cons hlt,jb]
  by_cases hc32:s[i]=32
  ·have hc':(s[i].toNat:Int)=32:=by rw[hc32];rfl
   rw[if_pos hc32]
   cases l with
   |nil=>
    simp[round,Tryz.f109,a109,reg109,loop109,hlt,w2,cE,cC,eq_true hc',aA]
    refine hrec (i+1,[]) _ _ ?_ ?_ ?_ ?_
    ·simp;omega
    ·simp;omega
    ·simp[cE,cC]
    ·simp
   |cons t l=>
    simp[round,Tryz.f109,a109,reg109,loop109,hlt,w2,cE,cC,eq_true hc',aA]
    refine hrec (i+1,t::l) _ _ ?_ ?_ ?_ ?_
    ·simp;omega
    ·simp at hll⊢;omega
    ·simp[cE,cC]
    ·simp
  have hc':¬(s[i].toNat:Int)=32:=fun e=>hc32 ((dX _ 32).1 e)
  rw[if_neg hc32]
  have hdg:=jf s[i]
  cases hid:be s[i] with
  |false=>
   simp only[hid] at hdg
   simp only[Bool.false_eq_true,if_false]
   have hw:=hmk s[i]
   by_cases hmm:s[i]∈dJ
   ·simp only[hmm,decide_true] at hw
    rw[if_pos hmm]
    have hsl:=vo hlt 0
    simp only[Nat.add_zero,List.take_zero] at hsl
    have h3:(i:Int)+1≤s.length:=by omega
    have h6:(i:Int)≤i+1:=by omega
    cases l with
    |nil=>
     simp[round,Tryz.f109,a109,reg109,loop109,hlt,w2,cE,cC,hc',hdg,hw,h3,h6,hsl,fq]
     refine hrec (i+1,[[s[i]]]) _ _ ?_ ?_ ?_ ?_
     ·simp;omega
     ·simp;omega
     ·simp[cE,cC]
     ·cases htk:tok (s.drop (i+1))<;>simp[qT];omega
    |cons t l=>
     have h4:(l.length+1+1)*16≤70368744177664:=by simp at hll;omega
     have h5:l.length+1+1≤70368744177664:=by omega
     simp[round,Tryz.f109,a109,reg109,loop109,hlt,w2,cE,cC,hc',hdg,hw,h3,h6,h4,h5,hsl,eN]
     refine hrec (i+1,t::l++[[s[i]]]) _ _ ?_ ?_ ?_ ?_
     ·simp;omega
     ·simp at hll⊢;omega
     ·simp[cE,cC,bP]
     ·cases htk:tok (s.drop (i+1))<;>simp[qT,bP];omega
   ·simp only[hmm,decide_false] at hw
    rw[if_neg hmm]
    clear hrec
    cases l with
    |nil=>simp[round,Tryz.f109,a109,reg109,loop109,hlt,w2,cE,cC,hc',hdg,hw,qT]
    |cons t l=>simp[round,Tryz.f109,a109,reg109,loop109,hlt,w2,cE,cC,hc',hdg,hw,qT]
  |true=>
   simp only[hid] at hdg
   simp only[if_true]
   have hdn:=jr (s.drop (i+1))
   rw[List.length_drop] at hdn
   obtain⟨k1,hk1⟩:∃k1,k1=i+1+bd (s.drop (i+1)):=⟨_,rfl⟩
   have hk1s:k1≤s.length:=by omega
   have hsl:=vo hlt (bd (s.drop (i+1)))
   rw[←hk1] at hsl
   have hdd:(s.drop (i+1)).drop (bd (s.drop (i+1)))=s.drop k1:=by rw[List.drop_drop,hk1]
   rw[hdd]
   have hat:∀k,i+1≤k→k≤k1→∀h:k<s.length,be s[k]=decide (k<k1):=fun k q1 q2 q3=>by
    have q4:k-(i+1)<(s.drop (i+1)).length:=by rw[List.length_drop];omega
    have q5:=kI q4 (by omega)
    have q6:(s.drop (i+1))[k-(i+1)]=s[k]:=by rw[List.getElem_drop];congr 1;omega
    rw[q6] at q5
    rw[Bool.eq_iff_iff,←q5,decide_eq_true_eq]
    omega
   generalize (s.drop (i+1)).take (bd (s.drop (i+1)))=ds at hsl
   cases l with
   |nil=>
    simp[round,Tryz.f109,a109,reg109,loop109,hlt,w2,cE,cC,hc',hdg]
    rw[me (fun k:Nat=>⟨[(0,.str s),(1,.str dJ),(6,.nils),(7,.int .i64 i),(8,.int .i64 k)],m⟩) (fun _=>some (.normal,⟨[(0,.str s),(1,.str dJ),(6,.nils),(7,.int .i64 i),(8,.int .i64 k1),(36,.bool false)],m⟩)) (fun k=>s.length-k) (fun k=>i+1≤k∧k≤k1) (i+1) ?_ rfl ?_ ?_ ?_]
    ·have h3:i≤k1:=by omega
     simp[Tryz.f109,a109,reg109,loop109,hk1s,h3,hsl,fq]
     refine hrec (k1,[s[i]::ds]) _ _ ?_ ?_ ?_ ?_
     ·simp;omega
     ·simp;omega
     ·simp[cE,cC]
     ·cases htk:tok (s.drop k1)<;>simp[qT];omega
    ·simp[Tryz.f109,a109,reg109,loop109]
    ·exact⟨Nat.le_refl _,by omega⟩
    ·intro x;simp[Tryz.f109,a109,reg109,loop109]
    ·intro k hk hrec2
     clear hrec
     by_cases hks:k<s.length
     ·have hdk:=jf s[k]
      have w3:IntKind.i64.wrap (k+1)=k+1:=al _ (by omega)
      rw[hat k hk.1 hk.2 hks] at hdk
      by_cases hkk:k<k1
      ·simp only[hkk,decide_true] at hdk
       simp[round,Tryz.f109,a109,reg109,loop109,hks,hdk,w3,aA]
       refine hrec2 (k+1) _ _ ?_ ?_ ?_ ?_
       ·omega
       ·omega
       ·simp
       ·simp
      ·have:k=k1:=by omega
       subst this
       simp only[hkk,decide_false] at hdk
       simp[round,Tryz.f109,a109,reg109,loop109,hks,hdk]
     ·have:k=k1:=by omega
      subst this
      simp[round,Tryz.f109,a109,reg109,loop109,hks]
   |cons t l=>
    have h4:(l.length+1+1)*16≤70368744177664:=by simp at hll;omega
    have h5:l.length+1+1≤70368744177664:=by omega
    simp[round,Tryz.f109,a109,reg109,loop109,hlt,w2,cE,cC,hc',hdg]
    rw[me (fun k:Nat=>⟨[(0,.str s),(1,.str dJ),(6,.sl m.rw.length (l.length+1) 0 (l.length+1)),(7,.int .i64 i),(8,.int .i64 k)],⟨m.bx,m.rw++[⟨9,.str t::bv l⟩]⟩⟩) (fun _=>some (.normal,⟨[(0,.str s),(1,.str dJ),(6,.sl m.rw.length (l.length+1) 0 (l.length+1)),(7,.int .i64 i),(8,.int .i64 k1),(36,.bool false)],⟨m.bx,m.rw++[⟨9,.str t::bv l⟩]⟩⟩)) (fun k=>s.length-k) (fun k=>i+1≤k∧k≤k1) (i+1) ?_ rfl ?_ ?_ ?_]
    ·have h3:i≤k1:=by omega
     simp[Tryz.f109,a109,reg109,loop109,hk1s,h3,hsl,h4,h5,eN]
     refine hrec (k1,t::l++[s[i]::ds]) _ _ ?_ ?_ ?_ ?_
     ·simp;omega
     ·simp at hll⊢;omega
     ·simp[cE,cC,bP]
     ·cases htk:tok (s.drop k1)<;>simp[qT,bP];omega
    ·simp[Tryz.f109,a109,reg109,loop109]
    ·exact⟨Nat.le_refl _,by omega⟩
    ·intro x;simp[Tryz.f109,a109,reg109,loop109]
    ·intro k hk hrec2
     clear hrec
     by_cases hks:k<s.length
     ·have hdk:=jf s[k]
      have w3:IntKind.i64.wrap (k+1)=k+1:=al _ (by omega)
      rw[hat k hk.1 hk.2 hks] at hdk
      by_cases hkk:k<k1
      ·simp only[hkk,decide_true] at hdk
       simp[round,Tryz.f109,a109,reg109,loop109,hks,hdk,w3,aA]
       refine hrec2 (k+1) _ _ ?_ ?_ ?_ ?_
       ·omega
       ·omega
       ·simp
       ·simp
      ·have:k=k1:=by omega
       subst this
       simp only[hkk,decide_false] at hdk
       simp[round,Tryz.f109,a109,reg109,loop109,hks,hdk]
     ·have:k=k1:=by omega
      subst this
      simp[round,Tryz.f109,a109,reg109,loop109,hks]
theorem tD(id:Nat)(s:List UInt8)(m:Mem)(hbx:m.bx[id]? =some [.str s]):ai C0 107 [.ptr id 0] m=some (.ret (.int .u8 (oM (aw 32 s))),⟨m.bx.set id [.str (aw 32 s)],m.rw⟩):=by
 have hid:id<m.bx.length:=(List.getElem?_eq_some_iff.1 hbx).1
 have hg:m.bx[id]=[.str s]:=(List.getElem?_eq_some_iff.1 hbx).2
 rw[ab C0 (aj _ (by decide)) (by rw[ay];exact Tryz.func107) rfl (by rw[ae];rfl) (by rw[ae];rfl) (by decide) (by simp[Tryz.f107])]
 have he:=fQ 32 (by decide) s
 cases h:aw 32 s with
 |nil=>simp[h] at he;simp[Tryz.f107,a107,reg107,hid,ah,ad,hg,he,av]
 |cons b r=>
  simp[h] at he
  have hp:(0:Int)<r.length+1:=by omega
  simp[Tryz.f107,a107,reg107,hid,ah,ad,hg,he,av]
theorem we(id:Nat)(c:UInt8)(h0:c≠0)(s:List UInt8)(m:Mem)(hbx:m.bx[id]? =some [.str s]):ai C0 148 [.ptr id 0,.int .u8 c.toNat] m=some (.ret (.bool (isC c s).1),⟨m.bx.set id [.str (isC c s).2],m.rw⟩):=by
 have hid:id<m.bx.length:=(List.getElem?_eq_some_iff.1 hbx).1
 have hg:m.bx[id]=[.str s]:=(List.getElem?_eq_some_iff.1 hbx).2
 rw[ab C0 (aj _ (by decide)) (by rw[ay];exact Tryz.func148) rfl (by rw[ae];rfl) (by rw[ae];rfl) (by decide) (by simp[Tryz.f148])]
 have he:=tD id s m hbx
 unfold isC
 cases h:aw 32 s with
 |nil=>
  have hc:¬(0:Int)=c.toNat:=by
   intro e
   apply h0
   exact UInt8.toNat_inj.1 (by simp;omega)
  simp[h] at he
  simp[Tryz.f148,a148,reg148,hid,ah,ad,hg,he,av,hc]
 |cons b r=>
  simp[h] at he
  by_cases hc:b=c
  ·subst hc
   have hp2:(1:Int)≤r.length+1:=by omega
   simp[Tryz.f148,a148,reg148,hid,ah,ad,hg,he,av,hp2]
  ·simp[Tryz.f148,a148,reg148,hid,ah,ad,hg,he,av,dX,hc]
def bp:A:= .ifc 140 (.agg [])
theorem gj(id:Nat)(c:UInt8)(h0:c≠0)(s:List UInt8)(m:Mem)(hbx:m.bx[id]? =some [.str s]):ai C0 147 [.ptr id 0,.int .u8 c.toNat] m=some (if(isC c s).1 then .ret (.tup []) else .pan bp,⟨m.bx.set id [.str (isC c s).2],m.rw⟩):=by
 have hid:id<m.bx.length:=(List.getElem?_eq_some_iff.1 hbx).1
 rw[ab C0 (aj _ (by decide)) (by rw[ay];exact Tryz.func147) rfl (by rw[ae];rfl) (by rw[ae];rfl) (by decide) (by simp[Tryz.f147])]
 have he:=we id c h0 s m hbx
 cases h:(isC c s).1
 ·simp[h] at he
  simp[Tryz.f147,a147,reg147,hid,ah,ad,he,av,h,li,bp]
 ·simp[h] at he
  simp[Tryz.f147,a147,reg147,hid,ah,ad,he,av,h]
def jV(s:List UInt8):Option Int×List UInt8:=
 if bd (aw 32 s)=0∨(oM (aw 32 s)=48∧1<bd (aw 32 s)) then(none,aw 32 s) else(some (gz ((aw 32 s).take (bd (aw 32 s)))),(aw 32 s).drop (bd (aw 32 s)))
theorem yo{s:List UInt8}{b:UInt8}(h:b∈s.take (bd s)):be b=true:=by
 have:s.take (bd s)=s.takeWhile be:=by
  unfold bd
  exact(List.prefix_iff_eq_take.1 (List.takeWhile_prefix _)).symm
 rw[this] at h
 exact List.all_eq_true.1 (List.all_takeWhile) _ h
set_option maxHeartbeats 2000000 in
theorem nk(id:Nat)(s:List UInt8)(hs:s.length≤1000000)(m:Mem)(hbx:m.bx[id]? =some [.str s]):
  ai C0 146 [.ptr id 0] m=some (match(jV s).1 with|some k=> .ret (.int .i64 k)|none=> .pan bp,⟨m.bx.set id [.str (jV s).2],m.rw⟩):=by
 have hid:id<m.bx.length:=(List.getElem?_eq_some_iff.1 hbx).1
 have hg:m.bx[id]=[.str s]:=(List.getElem?_eq_some_iff.1 hbx).2
 rw[ab C0 (aj _ (by decide)) (by rw[ay];exact Tryz.func146) rfl (by rw[ae];rfl) (by rw[ae];rfl) (by decide) (by simp[Tryz.f146])]
 have he:=tD id s m hbx
 have hlt:=bf 32 s
 unfold jV
 have hdm:∀b,b∈(aw 32 s).take (bd (aw 32 s))→be b=true:=fun b h=>yo h
 generalize aw 32 s=t at he hlt hdm
 have hnl:=jr t
 simp[Tryz.f146,a146,reg146,loop146,he]
 refine aC (fun i:Nat=>⟨[(0,.ptr id 0),(3,.int .i64 i)],⟨m.bx.set id [.str t],m.rw⟩⟩)
  (fun _=>some (match(if bd t=0∨(oM t=48∧1<bd t) then(none,t) else(some (gz (t.take (bd t))),t.drop (bd t)):Option Int×List UInt8).1 with|some k=> .ret (.int .i64 k)|none=> .pan bp,⟨m.bx.set id [.str (if bd t=0∨(oM t=48∧1<bd t) then(none,t) else(some (gz (t.take (bd t))),t.drop (bd t)):Option Int×List UInt8).2],m.rw⟩)) (fun i=>t.length-i) (fun i=>i≤bd t) 0 ?_ ?_ ?_ ?_ ?_
 ·simp
 ·simp
 ·simp
 ·intro x;simp[Tryz.f146,a146,reg146,loop146]
 ·intro i hi hrec
  by_cases hdg:i<bd t
  ·have hlt:i<t.length:=by omega
   have hb:=gN.1 ((kI hlt hi).1 hdg)
   have w2:IntKind.i64.wrap (i+1)=i+1:=al _ (by omega)
   have d1:(48:Int)≤t[i].toNat:=by omega
   have d2:(t[i].toNat:Int)≤57:=by omega
   simp[round,Tryz.f146,a146,reg146,loop146,hlt,hid,w2,d1,d2,aA]
   refine hrec (i+1) _ _ ?_ ?_ ?_ ?_
   ·omega
   ·omega
   ·simp
   ·simp
  ·clear hrec
   have hin:i=bd t:=by omega
   have hstop:∀(f:Nat→Prop),True:=fun _=>trivial
   have key:i<t.length→¬((48:Int)≤(t[i]?.getD 0).toNat∧((t[i]?.getD 0).toNat:Int)≤57):=fun hlt h=>by
    have hnd:¬be t[i]=true:=fun h=>hdg ((kI hlt hi).2 h)
    rw[gN] at hnd
    rw[List.getElem?_eq_getElem hlt] at h
    simp at h
    omega
   by_cases h0:bd t=0
   ·have hi0:i=0:=by omega
    subst hi0
    by_cases hlt:0<t.length
    ·have:=key hlt
     rw[List.getElem?_eq_getElem hlt] at this
     simp at this
     by_cases d1:(48:Int)≤t[0].toNat
     ·have d2:¬(t[0].toNat:Int)≤57:=by omega
      simp[round,Tryz.f146,a146,reg146,loop146,hid,hlt,h0,d1,d2,av,li,bp,ah,ad]
     ·simp[round,Tryz.f146,a146,reg146,loop146,hid,hlt,h0,d1,av,li,bp,ah,ad]
    ·have ht:t=[]:=List.eq_nil_of_length_eq_zero (by omega)
     subst ht
     simp[round,Tryz.f146,a146,reg146,loop146,hid,h0,av,li,bp,ah,ad]
   ·have hi0:¬(i:Int)=0:=by omega
    have hle1:(i:Int)≤t.length:=by omega
    have hmin:min i t.length=i:=by omega
    have ht0:0<t.length:=by omega
    have hh:oM t=t[0].toNat:=by
     cases t with
     |nil=>simp at ht0
     |cons b r=>rfl
    rw[hh]
    have htl:(i:Int).toNat=i:=by omega
    have hdi:∀b,b∈t.take i→be b=true:=by rw[hin];exact hdm
    have htn:t.take i≠[]:=fun e=>by
     have:=congrArg List.length e
     rw[List.length_take,hmin] at this
     have h1:i=0:=this
     omega
    have hea:=nX (t.take i) htn (by rw[List.length_take];omega) hdi
    rw[←hin] at h0⊢
    have hie:¬i=0:=by omega
    by_cases hlt':i<t.length
    ·have hk:=key hlt'
     rw[List.getElem?_eq_getElem hlt'] at hk
     simp at hk
     by_cases d1:(48:Int)≤t[i].toNat
     ·have d2:¬(t[i].toNat:Int)≤57:=by omega
      by_cases hz:(t[0].toNat:Int)=48∧1<i
      ·obtain⟨hz1,hz2⟩:=hz
       have hz3:(1:Int)<i:=by omega
       simp[round,Tryz.f146,a146,reg146,loop146,hid,hlt',d1,d2,h0,hi0,hie,hz1,hz2,hz3,ht0,av,li,bp,ah,ad,hle1,htl,hmin]
      have hz':(t[0].toNat:Int)=48→¬(1:Int)<i:=fun h1 h2=>hz ⟨h1,by omega⟩
      have hz'':(t[0].toNat:Int)=48→¬1<i:=fun h1 h2=>hz ⟨h1,h2⟩
      by_cases hbig:fC 0 (t.take i)<9223372036854775808
      ·simp only[hbig,if_true] at hea
       by_cases hz1:(t[0].toNat:Int)=48
       ·simp[round,Tryz.f146,a146,reg146,loop146,hid,hlt',d1,d2,h0,hi0,hie,hz1,hz' hz1,hz'' hz1,ht0,av,ah,ad,hle1,htl,hmin,hea,hbig,gz]
       ·simp[round,Tryz.f146,a146,reg146,loop146,hid,hlt',d1,d2,h0,hi0,hie,hz1,ht0,av,ah,ad,hle1,htl,hmin,hea,hbig,gz]
      ·simp only[hbig,if_false] at hea
       by_cases hz1:(t[0].toNat:Int)=48
       ·simp[round,Tryz.f146,a146,reg146,loop146,hid,hlt',d1,d2,h0,hi0,hie,hz1,hz' hz1,hz'' hz1,ht0,av,ah,ad,hle1,htl,hmin,hea,hbig,gz]
       ·simp[round,Tryz.f146,a146,reg146,loop146,hid,hlt',d1,d2,h0,hi0,hie,hz1,ht0,av,ah,ad,hle1,htl,hmin,hea,hbig,gz]
     ·by_cases hz:(t[0].toNat:Int)=48∧1<i
      ·obtain⟨hz1,hz2⟩:=hz
       have hz3:(1:Int)<i:=by omega
       simp[round,Tryz.f146,a146,reg146,loop146,hid,hlt',d1,h0,hi0,hie,hz1,hz2,hz3,ht0,av,li,bp,ah,ad,hle1,htl,hmin]
      have hz':(t[0].toNat:Int)=48→¬(1:Int)<i:=fun h1 h2=>hz ⟨h1,by omega⟩
      have hz'':(t[0].toNat:Int)=48→¬1<i:=fun h1 h2=>hz ⟨h1,h2⟩
      by_cases hbig:fC 0 (t.take i)<9223372036854775808
      ·simp only[hbig,if_true] at hea
       by_cases hz1:(t[0].toNat:Int)=48
       ·simp[round,Tryz.f146,a146,reg146,loop146,hid,hlt',d1,h0,hi0,hie,hz1,hz' hz1,hz'' hz1,ht0,av,ah,ad,hle1,htl,hmin,hea,hbig,gz]
       ·simp[round,Tryz.f146,a146,reg146,loop146,hid,hlt',d1,h0,hi0,hie,hz1,ht0,av,ah,ad,hle1,htl,hmin,hea,hbig,gz]
      ·simp only[hbig,if_false] at hea
       by_cases hz1:(t[0].toNat:Int)=48
       ·simp[round,Tryz.f146,a146,reg146,loop146,hid,hlt',d1,h0,hi0,hie,hz1,hz' hz1,hz'' hz1,ht0,av,ah,ad,hle1,htl,hmin,hea,hbig,gz]
       ·simp[round,Tryz.f146,a146,reg146,loop146,hid,hlt',d1,h0,hi0,hie,hz1,ht0,av,ah,ad,hle1,htl,hmin,hea,hbig,gz]
    ·by_cases hz:(t[0].toNat:Int)=48∧1<i
     ·obtain⟨hz1,hz2⟩:=hz
      have hz3:(1:Int)<i:=by omega
      simp[round,Tryz.f146,a146,reg146,loop146,hid,hlt',h0,hi0,hie,hz1,hz2,hz3,ht0,av,li,bp,ah,ad,hle1,htl,hmin]
     have hz':(t[0].toNat:Int)=48→¬(1:Int)<i:=fun h1 h2=>hz ⟨h1,by omega⟩
     have hz'':(t[0].toNat:Int)=48→¬1<i:=fun h1 h2=>hz ⟨h1,h2⟩
     by_cases hbig:fC 0 (t.take i)<9223372036854775808
     ·simp only[hbig,if_true] at hea
      by_cases hz1:(t[0].toNat:Int)=48
      ·simp[round,Tryz.f146,a146,reg146,loop146,hid,hlt',h0,hi0,hie,hz1,hz' hz1,hz'' hz1,ht0,av,ah,ad,hle1,htl,hmin,hea,hbig,gz]
      ·simp[round,Tryz.f146,a146,reg146,loop146,hid,hlt',h0,hi0,hie,hz1,ht0,av,ah,ad,hle1,htl,hmin,hea,hbig,gz]
     ·simp only[hbig,if_false] at hea
      by_cases hz1:(t[0].toNat:Int)=48
      ·simp[round,Tryz.f146,a146,reg146,loop146,hid,hlt',h0,hi0,hie,hz1,hz' hz1,hz'' hz1,ht0,av,ah,ad,hle1,htl,hmin,hea,hbig,gz]
      ·simp[round,Tryz.f146,a146,reg146,loop146,hid,hlt',h0,hi0,hie,hz1,ht0,av,ah,ad,hle1,htl,hmin,hea,hbig,gz]
abbrev PRV:=Option Val×List UInt8
def bJ(c:UInt8)(s:List UInt8)(k:List UInt8→PRV):PRV:=if(isC c s).1 then k (isC c s).2 else(none,(isC c s).2)
def bA(x:PRV)(k:Val→List UInt8→PRV):PRV:=match x with
 |(some v,t)=>k v t
 |(none,t)=>(none,t)
def fX(x:Option Int×List UInt8)(k:Int→List UInt8→PRV):PRV:=match x with
 |(some v,t)=>k v t
 |(none,t)=>(none,t)
def ck(val:List UInt8→PRV)(e:UInt8)(w:Bool):Nat→List Val→List Int→List UInt8→PRV
 |0,_,_,s=>(none,s)
 |n+1,a,ws,s=>
  if(isC e s).1 then(some (.mk 0 a ws),(isC e s).2) else
   if a.length≠0∧(isC 44 (isC e s).2).1=false then(none,(isC 44 (isC e s).2).2) else
    bA (val (if a.length=0 then(isC e s).2 else(isC 44 (isC e s).2).2)) fun x u=>
     if w then bJ 58 u fun t=>fX (jV t) fun k v=>ck val e w n (a++[x]) (ws++[k]) v
     else ck val e w n (a++[x]) ws u
def pV:Nat→Fun→List UInt8→PRV
 |0,_,s=>(none,s)
 |N+1,f,s=>
  if f.kind=0∨f.kind=1 then fX (jV s) fun k t=>(some (.mk k [] []),t)
  else if f.kind=2 then bJ 40 s fun s=>bA (pV N (f.args.getD 0 bN) s) fun x s=>bJ 44 s fun s=>bA (pV N (f.args.getD 1 bN) s) fun y s=>bJ 41 s fun s=>(some (.mk 0 [x,y] []),s)
  else if f.kind=3 then(if(isC 108 s).1 then bA (pV N (f.args.getD 0 bN) (isC 108 s).2) fun x t=>(some (.mk 0 [x] []),t) else bJ 114 (isC 108 s).2 fun s=>bA (pV N (f.args.getD 1 bN) s) fun x t=>(some (.mk 1 [x] []),t))
  else if f.kind=4 then bJ 91 s fun s=>bA (ck (pV N (f.args.getD 0 bN)) 93 false (s.length+1) [] [] s) fun v t=>if(v.args.length:Int)=f.num then(some v,t) else(none,t)
  else bJ 123 s fun s=>ck (pV N (f.args.getD 0 bN)) 125 (decide (6≤f.kind)) (s.length+1) [] [] s
theorem dq(s:List UInt8):(jV s).2<:+s:=by
 have h:=gw 32 s
 unfold jV
 split
 ·exact h
 ·exact(List.drop_suffix _ _).trans h
theorem dU{c:UInt8}{s:List UInt8}{k:List UInt8→PRV}(hk:∀t,(k t).2<:+t):(bJ c s k).2<:+s:=by
 unfold bJ
 split
 ·exact(hk _).trans (am _ _)
 ·exact am _ _
theorem eY{x:PRV}{s:List UInt8}{k:Val→List UInt8→PRV}(hx:x.2<:+s)(hk:∀v t,(k v t).2<:+t):(bA x k).2<:+s:=by
 obtain⟨o,t⟩:=x
 cases o with
 |none=>exact hx
 |some v=>exact(hk v t).trans hx
theorem oa{x:Option Int×List UInt8}{s:List UInt8}{k:Int→List UInt8→PRV}(hx:x.2<:+s)(hk:∀v t,(k v t).2<:+t):(fX x k).2<:+s:=by
 obtain⟨o,t⟩:=x
 cases o with
 |none=>exact hx
 |some v=>exact(hk v t).trans hx
theorem iH{val:List UInt8→PRV}(hv:∀s,(val s).2<:+s)(e:UInt8)(w:Bool):∀(n:Nat) (a:List Val) (ws:List Int) (s:List UInt8),(ck val e w n a ws s).2<:+s
 |0,a,ws,s=>by rw[ck];exact List.suffix_refl _
 |n+1,a,ws,s=>by
  rw[ck]
  have h1:=am e s
  have h2:=am 44 (isC e s).2
  split
  ·exact h1
  split
  ·exact h2.trans h1
  refine eY (s:=s) ((hv _).trans ?_) fun x u=> ?_
  ·split
   ·exact h1
   ·exact h2.trans h1
  split
  ·exact dU fun t=>oa (dq t) fun k v=>iH hv e w n _ _ v
  ·exact iH hv e w n _ _ u
theorem fP:∀(N:Nat) (f:Fun) (s:List UInt8),(pV N f s).2<:+s
 |0,f,s=>by rw[pV];exact List.suffix_refl _
 |N+1,f,s=>by
  have ih:=fP N
  rw[pV]
  split
  ·exact oa (dq s) fun _ _=>List.suffix_refl _
  split
  ·exact dU fun s=>eY (ih _ s) fun x s=>dU fun s=>eY (ih _ s) fun y s=>dU fun s=>List.suffix_refl _
  split
  ·split
   ·exact eY ((ih _ _).trans (am _ _)) fun _ _=>List.suffix_refl _
   ·exact(dU fun s=>eY (ih _ s) fun _ _=>List.suffix_refl _).trans (am _ _)
  split
  ·refine dU fun s=>eY (iH (ih _) _ _ _ _ _ s) fun v t=> ?_
   split<;>exact List.suffix_refl _
  ·exact dU fun s=>iH (ih _) _ _ _ _ _ s
def Gu(val:List UInt8→PRV):Prop:=∀s v t,val s=(some v,t)→v.nodes+t.length≤s.length∧aP v
theorem uU{s t:List UInt8}{k:Int}(h:jV s=(some k,t)):1+t.length≤s.length:=by
 have hl:=bf 32 s
 unfold jV at h
 split at h
 ·cases h
 ·rename_i h0
  simp only[Prod.mk.injEq] at h
  have hd:=jr (aw 32 s)
  rw[←h.2,List.length_drop]
  omega
theorem fF{c:UInt8}{s:List UInt8}{k:List UInt8→PRV}{v:Val}{t:List UInt8}(h:bJ c s k=(some v,t)):(isC c s).1=true∧(isC c s).2.length<s.length∧k (isC c s).2=(some v,t):=by
 unfold bJ at h
 split at h
 ·rename_i hc
  exact⟨hc,gp hc,h⟩
 ·cases h
theorem gG{x:PRV}{k:Val→List UInt8→PRV}{v:Val}{t:List UInt8}(h:bA x k=(some v,t)):∃y u,x=(some y,u)∧k y u=(some v,t):=by
 obtain⟨o,u⟩:=x
 cases o with
 |none=>cases h
 |some y=>exact⟨y,u,rfl,h⟩
theorem rQ{x:Option Int×List UInt8}{k:Int→List UInt8→PRV}{v:Val}{t:List UInt8}(h:fX x k=(some v,t)):∃y u,x=(some y,u)∧k y u=(some v,t):=by
 obtain⟨o,u⟩:=x
 cases o with
 |none=>cases h
 |some y=>exact⟨y,u,rfl,h⟩
theorem hG:∀a b:List Val,Val.nodesL (a++b)=Val.nodesL a+Val.nodesL b
 |[],b=>by simp[Val.nodesL]
 |x::r,b=>by rw[List.cons_append,Val.nodesL,Val.nodesL,hG r b];omega
theorem wC{a b:List Val}(ha:bS a)(hb:bS b):bS (a++b):=rA fun x hx=>by
 rcases List.mem_append.1 hx with h|h
 ·exact cq ha h
 ·exact cq hb h
theorem nx{val:List UInt8→PRV}(hv:Gu val)(e:UInt8)(w:Bool):∀(n:Nat) (a:List Val) (ws:List Int) (s:List UInt8) (v:Val) (t:List UInt8),ck val e w n a ws s=(some v,t)→bS a→ws.length+s.length≤1000000000→v.nodes+t.length+1≤1+Val.nodesL a+s.length∧aP v∧v.num=0∧a.length≤v.args.length
 |0,a,ws,s,v,t,h,_,_=>by rw[ck] at h;cases h
 |n+1,a,ws,s,v,t,h,ha,hw=>by
  rw[ck] at h
  split at h
  ·rename_i hc
   simp only[Prod.mk.injEq,Option.some.injEq] at h
   obtain⟨rfl,rfl⟩:=h
   have:=gp hc
   rw[Val.nodes_eq,bj]
   simp only[Val.args_mk,Val.ws_mk,Val.num_mk]
   exact⟨by omega,⟨by omega,ha⟩,trivial,Nat.le_refl _⟩
  split at h
  ·cases h
  obtain⟨x,u,h1,h2⟩:=gG h
  have hx:=hv _ _ _ h1
  have hle:(if a.length=0 then(isC e s).2 else(isC 44 (isC e s).2).2).length≤s.length:=by
   have h1:=(am e s).length_le
   have h2:=(am 44 (isC e s).2).length_le
   split<;>omega
  have hpos:=x.nodes_pos
  have hn:=hG a [x]
  have hs:=wC (b:=[x]) ha (by rw[bS,bS];exact⟨hx.2,trivial⟩)
  simp only[Val.nodesL] at hn
  split at h2
  ·obtain⟨_,h4,h5⟩:=fF h2
   obtain⟨k,q,h6,h7⟩:=rQ h5
   have h8:=uU h6
   obtain⟨r1,r2,r3,r4⟩:=nx hv e w n _ _ _ _ _ h7 hs (by simp;omega)
   simp at r4
   exact⟨by omega,r2,r3,by omega⟩
  ·obtain⟨r1,r2,r3,r4⟩:=nx hv e w n _ _ _ _ _ h2 hs (by omega)
   simp at r4
   exact⟨by omega,r2,r3,by omega⟩
theorem wL:∀(N:Nat) (f:Fun) (s:List UInt8),s.length≤1000000→∀v t,pV N f s=(some v,t)→v.nodes+t.length≤s.length∧aP v
 |0,f,s,_,v,t,h=>by rw[pV] at h;cases h
 |N+1,f,s,hs,v,t,h=>by
  have ih:=wL N
  have leaf:∀k:Int,(Val.mk k [] []).nodes=1∧aP (.mk k [] []):=fun k=>by rw[Val.nodes_eq,bj];simp[Val.nodesL,bS]
  rw[pV] at h
  split at h
  ·obtain⟨k,u,h1,h2⟩:=rQ h
   have:=uU h1
   simp only[Prod.mk.injEq,Option.some.injEq] at h2
   obtain⟨rfl,rfl⟩:=h2
   have:=leaf k
   exact⟨by omega,this.2⟩
  split at h
  ·obtain⟨_,h1,h2⟩:=fF h
   obtain⟨x,u,h3,h4⟩:=gG h2
   obtain⟨_,h5,h6⟩:=fF h4
   obtain⟨y,q,h7,h8⟩:=gG h6
   obtain⟨_,h9,h10⟩:=fF h8
   simp only[Prod.mk.injEq,Option.some.injEq] at h10
   obtain⟨rfl,rfl⟩:=h10
   have a:=ih _ _ (by omega) _ _ h3
   have b:=ih _ _ (by omega) _ _ h7
   rw[Val.nodes_eq,bj]
   simp only[Val.args_mk,Val.ws_mk,Val.nodesL,bS,List.length_nil]
   exact⟨by omega,by omega,a.2,b.2,trivial⟩
  split at h
  ·split at h
   ·rename_i hc
    have hl:=gp hc
    obtain⟨x,u,h3,h4⟩:=gG h
    simp only[Prod.mk.injEq,Option.some.injEq] at h4
    obtain⟨rfl,rfl⟩:=h4
    have a:=ih _ _ (by omega) _ _ h3
    rw[Val.nodes_eq,bj]
    simp only[Val.args_mk,Val.ws_mk,Val.nodesL,bS,List.length_nil]
    exact⟨by omega,by omega,a.2,trivial⟩
   ·have hl:=(am 108 s).length_le
    obtain⟨_,h1,h2⟩:=fF h
    obtain⟨x,u,h3,h4⟩:=gG h2
    simp only[Prod.mk.injEq,Option.some.injEq] at h4
    obtain⟨rfl,rfl⟩:=h4
    have a:=ih _ _ (by omega) _ _ h3
    rw[Val.nodes_eq,bj]
    simp only[Val.args_mk,Val.ws_mk,Val.nodesL,bS,List.length_nil]
    exact⟨by omega,by omega,a.2,trivial⟩
  have hsub:∀s':List UInt8,s'.length≤s.length→Gu fun q=>if q.length≤s'.length then pV N (f.args.getD 0 bN) q else(none,q):=fun s' hs' q v t hq=>by
   simp only at hq
   split at hq
   ·exact ih _ _ (by omega) _ _ hq
   ·cases hq
  have hlist:∀(e:UInt8) (w:Bool) (s':List UInt8) (v:Val) (t:List UInt8),s'.length<s.length→ck (pV N (f.args.getD 0 bN)) e w (s'.length+1) [] [] s'=(some v,t)→v.nodes+t.length≤s.length∧aP v:=fun e w s' v t hl hq=>by
   have key:∀(n:Nat) (a:List Val) (ws:List Int) (q:List UInt8),q.length≤s'.length→ck (pV N (f.args.getD 0 bN)) e w n a ws q=ck (fun q=>if q.length≤s'.length then pV N (f.args.getD 0 bN) q else(none,q)) e w n a ws q:=by
    intro n
    induction n with
    |zero=>intro a ws q _;rw[ck,ck]
    |succ n ihn=>
     intro a ws q hq
     have h1:=(am e q).length_le
     have h2:=(am 44 (isC e q).2).length_le
     rw[ck,ck]
     have hle:(if a.length=0 then(isC e q).2 else(isC 44 (isC e q).2).2).length≤s'.length:=by split<;>omega
     rw[if_pos hle]
     have hsuf:=fP N (f.args.getD 0 bN) (if a.length=0 then(isC e q).2 else(isC 44 (isC e q).2).2)
     generalize pV N (f.args.getD 0 bN) (if a.length=0 then(isC e q).2 else(isC 44 (isC e q).2).2)=x at hsuf⊢
     obtain⟨o,u⟩:=x
     have hu:=hsuf.length_le
     simp only at hu
     cases o with
     |none=>rfl
     |some y=>
      simp only[bA]
      cases w with
      |false=>simp only[Bool.false_eq_true,if_false];rw[ihn _ _ u (by omega)]
      |true=>
       simp only[if_true,bJ]
       have h3:=(am 58 u).length_le
       have h4:=(dq (isC 58 u).2).length_le
       generalize jV (isC 58 u).2=z at h4
       obtain⟨o2,r⟩:=z
       simp only at h4
       cases o2 with
       |none=>rfl
       |some k=>simp only[fX];rw[ihn _ _ r (by omega)]
   rw[key _ _ _ _ (Nat.le_refl _)] at hq
   obtain⟨r1,r2,_⟩:=nx (hsub s' (by omega)) e w _ _ _ _ _ _ hq (by rw[bS];trivial) (by simp;omega)
   simp only[Val.nodesL] at r1
   exact⟨by omega,r2⟩
  split at h
  ·obtain⟨_,h1,h2⟩:=fF h
   obtain⟨x,u,h3,h4⟩:=gG h2
   split at h4
   ·simp only[Prod.mk.injEq,Option.some.injEq] at h4
    obtain⟨rfl,rfl⟩:=h4
    exact hlist _ _ _ _ _ h1 h3
   ·cases h4
  ·obtain⟨_,h1,h2⟩:=fF h
   exact hlist _ _ _ _ _ h1 h2
def bm(t:List UInt8):List UInt8×List UInt8:=(t.takeWhile (· !=10),(t.dropWhile (· !=10)).drop 1)
theorem kG(t:List UInt8):(bm t).2.length≤t.length-1:=by
 have h:(t.dropWhile (· !=10)).length≤t.length:=(List.dropWhile_sublist _).length_le
 simp only[bm,List.length_drop]
 omega
theorem oh(t:List UInt8):(bm t).1.length≤t.length:=(List.takeWhile_sublist _).length_le
theorem oV{t:List UInt8}(h:(bm t).2≠[]):(bm t).2.length<t.length:=by
 have h1:=kG t
 have h2:0<(bm t).2.length:=List.length_pos_iff.2 h
 omega
def jH(t:List UInt8):List (List UInt8):=(bm t).1::(if h:(bm t).2=[] then [] else jH (bm t).2)
termination_by t.length
decreasing_by exact oV h
theorem gU(t:List UInt8):jH t=(bm t).1::(if(bm t).2=[] then [] else jH (bm t).2):=by
 rw[jH]
 split<;>rfl
def eI(cur:List UInt8):List UInt8→List (List UInt8)
 |[]=>if cur=[] then [] else [cur]
 |c::r=>if c=10 then cur::eI [] r else eI (cur++[c]) r
theorem rK:∀(t cur:List UInt8),eI cur t=if 10∈t then(cur++t.takeWhile (· !=10))::eI [] ((t.dropWhile (· !=10)).drop 1) else(if cur++t=[] then [] else [cur++t])
 |[],cur=>by simp[eI]
 |c::r,cur=>by
  rw[eI]
  by_cases h:c=10
  ·subst h
   simp
  ·have hb:(c !=10)=true:=by simpa using h
   rw[if_neg h,rK r (cur++[c]),List.takeWhile_cons,List.dropWhile_cons,if_pos hb,if_pos hb]
   have hm:(10∈c::r)↔10∈r:=by
    rw[List.mem_cons]
    exact⟨fun h1=>h1.elim (fun e=>absurd e.symm h) _root_.id,.inr⟩
   by_cases h2:10∈r
   ·rw[if_pos h2,if_pos (hm.2 h2)];simp
   ·rw[if_neg h2,if_neg (fun h3=>h2 (hm.1 h3))];simp
theorem Ei{p:UInt8→Bool}:∀{t:List UInt8},(∀x∈t,p x=true)→t.takeWhile p=t
 |[],_=>rfl
 |x::r,h=>by rw[List.takeWhile_cons,if_pos (h x List.mem_cons_self),Ei fun y hy=>h y (List.mem_cons_of_mem _ hy)]
theorem Dm{p:UInt8→Bool}:∀{t:List UInt8},(∀x∈t,p x=true)→t.dropWhile p=[]
 |[],_=>rfl
 |x::r,h=>by rw[List.dropWhile_cons,if_pos (h x List.mem_cons_self),Dm fun y hy=>h y (List.mem_cons_of_mem _ hy)]
theorem sF:∀(n:Nat) (t:List UInt8),t.length≤n→t≠[]→eI [] t=jH t
 |0,t,hn,h=>absurd (List.eq_nil_of_length_eq_zero (by omega)) h
 |n+1,t,hn,h=>by
  rw[rK,gU]
  by_cases hm:10∈t
  ·rw[if_pos hm]
   simp only[List.nil_append]
   by_cases h2:(bm t).2=[]
   ·rw[if_pos h2]
    show _::eI [] (bm t).2=_
    rw[h2]
    rfl
   ·rw[if_neg h2]
    have:=oV h2
    show _::eI [] (bm t).2=_
    rw[sF n _ (by omega) h2]
    rfl
  ·rw[if_neg hm]
   have h3:∀x∈t,(x !=10)=true:=fun x hx=>by
    rw[bne_iff_ne];rintro rfl;exact hm hx
   have h1:t.takeWhile (· !=10)=t:=Ei h3
   have h2:t.dropWhile (· !=10)=[]:=Dm h3
   have e1:(bm t).1=t:=h1
   have e2:(bm t).2=[]:=by show(t.dropWhile (· !=10)).drop 1=[];rw[h2];rfl
   rw[e1,e2]
   simp[h]
def aO(l w:List UInt8):List UInt8×Bool:=if w.isPrefixOf (aw 32 l) then((aw 32 l).drop w.length,true) else(aw 32 l,false)
def lj(l:List UInt8)(x:Nat):Option (List UInt8):=if(aO l (Lib.itoa x)).2 then(if(aO (aO l (Lib.itoa x)).1 [61]).2 then some (aO (aO l (Lib.itoa x)).1 [61]).1 else none) else none
def cF:List (List UInt8)→Nat→Option (List (List UInt8))
 |[],_=>some []
 |l::r,x=>(lj l x).bind fun a=>(cF r (x+1)).map (a:: ·)
theorem gh:∀(l:List (List UInt8)) (x:Nat) (rs:List (List UInt8)),cF l x=some rs→rs.length=l.length
 |[],x,rs,h=>by rw[cF] at h;cases h;rfl
 |l::r,x,rs,h=>by
  rw[cF] at h
  obtain⟨a,h1,h2⟩:=Option.bind_eq_some_iff.1 h
  obtain⟨q,h3,rfl⟩:=Option.map_eq_some_iff.1 h2
  simp[gh r _ _ h3]
end AE
end Go.Proofs.YtmfdpijmholedaaGreatDoor
