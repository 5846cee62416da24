/- The program's merging of elements; evaluated. -/
import Derived.Test.YtmfdpijmholedaaGreatDoorGH
import Derived.Test.YtmfdpijmholedaaGreatDoorGF
import Derived.Test.YtmfdpijmholedaaGreatDoorGE
set_option linter.unusedVariables false
set_option linter.unusedSimpArgs false
namespace Go.Proofs.YtmfdpijmholedaaGreatDoor
namespace AE
open Go
theorem DX{l r:List Int}(h:l.Perm r):l.sum=r.sum:=by
 induction h with
 |nil=>rfl
 |cons x _ ih=>simp[ih]
 |swap x y l=>simp only[List.sum_cons];omega
 |trans _ _ ih1 ih2=>rw[ih1,ih2]
theorem zg(u:Val)(w:Int):∀o:List (Val×Int),(bg u w o).length≤o.length+1
 |[]=>by rw[bg];simp
 |p::r=>by
  have:=zg u w r
  rw[bg]
  split
  ·simp
  ·split
   ·simp
   ·simp;omega
def elA(n:Nat)(ps:List (Val×Int)):A:=if ps.length=0 then .nils else .sl n (ps.length*4) 0 ps.length
def elR(ps:List (Val×Int)):List Row:=if ps.length=0 then [] else [⟨196,bh ps⟩]
theorem yY(f:Fun)(hk:bc f.kind=true)(h7:f.kind≠7)(m:Mem):ai C0 129 [.agg f.cells,.agg [.int .i64 0,.nils,.isl false 0 []]] m=some (.ret (.agg (Val.mk 0 [] []).cells),m):=by
 rw[ab C0 (aj _ (by decide)) (by rw[ay];exact Tryz.func129) rfl (by rw[ae];rfl) (by rw[ae];rfl) (by decide) (by simp[Tryz.f129])]
 simp[Tryz.f129,a129,reg129,loop129,draw129,dok129]
 rw[aG]
 simp[round,Tryz.f129,a129,reg129,loop129,draw129,dok129,qG,AU]
 rw[aG]
 simp[round,Tryz.f129,a129,reg129,loop129,draw129,dok129,h7]
set_option maxHeartbeats 8000000 in
theorem AS(f:Fun)(xs:List Val)(ws:List Int)(ia:Nat)(hx0:0<xs.length)(hk:bc f.kind=true)(hb:∀x,x∈xs→x.nodes≤1000000∧aP x)(hl:xs.length≤1000000)(hw:wtd f.kind=true→ws.length=xs.length∧(∀w,w∈ws→1≤w)∧ws.sum≤1048576)(m:Mem)(hRa:m.rw[ia]? =some ⟨47,Val.cellsL xs⟩):
  ai C0 129 [.agg f.cells,.agg [.int .i64 0,.sl ia (xs.length*3) 0 xs.length,.isl false ws.length (az ws)]] m=some (.ret (.agg (aW f.kind 0 xs ws).cells),m):=by
 have hia:ia<m.rw.length:=(List.getElem?_eq_some_iff.1 hRa).1
 have hia2:∀x,ia<m.rw.length+x:=fun x=>by omega
 have hRa2:=(List.getElem?_eq_some_iff.1 hRa).2
 have hwl:(bD f.kind xs ws).length=xs.length:=by
  unfold bD
  cases hwk:wtd f.kind
  ·simp
  ·simpa using(hw hwk).1
 have hk5:wtd f.kind=false→f.kind=5:=fun h=>by
  unfold bc at hk
  rw[h,Bool.or_false] at hk
  simpa using hk
 have hk5':wtd f.kind=true→¬f.kind=5:=fun h h5=>by rw[h5] at h;exact absurd h (by decide)
 generalize hps:xs.zip (bD f.kind xs ws)=ps
 have hpl:ps.length=xs.length:=by rw[←hps,List.length_zip];omega
 have hpf:ps.map (·.1)=xs:=by rw[←hps];exact List.map_fst_zip (by omega)
 have hsnd:ps.map (·.2)=bD f.kind xs ws:=by rw[←hps];exact List.map_snd_zip (by omega)
 have hmem:∀p,p∈ps→p.1.nodes≤1000000000∧aP p.1:=fun p hp=>by
  have h1:p.1∈xs:=by rw[←hpf];exact List.mem_map_of_mem hp
  exact⟨by have:=(hb _ h1).1;omega,(hb _ h1).2⟩
 have hsort:∀bx,ai C0 167 [.sl m.rw.length (ps.length*4) 0 ps.length,.fn 168 []] ⟨bx,m.rw++[⟨196,bh ps⟩]⟩=some (.ret (.tup []),⟨bx,m.rw++[⟨196,bh (i6 ps)⟩]⟩):=fun bx=>by
  rw[qG,AO (ps:=ps) (t:=196) (by simp) rfl rfl (by omega) (by omega) hmem]
  simp
 rw[ab C0 (aj _ (by decide)) (by rw[ay];exact Tryz.func129) rfl (by rw[ae];rfl) (by rw[ae];rfl) (by decide) (by simp[Tryz.f129])]
 simp[Tryz.f129,a129,reg129,loop129,draw129,dok129,ah,hia,hia2,hRa2]
 refine aC (fun x:Nat×List (Val×Int)=>⟨[(2,.ptr m.bx.length 0),(3,.ptr (m.bx.length+1) 0),(4,.ptr (m.bx.length+2) 0),(5,elA m.rw.length x.2),(16,.sl ia (xs.length*3) 0 xs.length),(17,.int .i64 xs.length),(18,.int .i64 x.1)],
   ⟨m.bx++[f.cells,[.int .i64 0,.sl ia (xs.length*3) 0 xs.length,.isl false ws.length (az ws)],[.int .i64 0,.nils,.nils]],m.rw++elR x.2⟩⟩)
  (fun x=>some (.ret (.agg (aW f.kind 0 xs ws).cells),m)) (fun x=>xs.length-x.1)
  (fun x=>x.1≤xs.length∧x.2=ps.take x.1) (0,[]) ?_ ?_ ?_ ?_ ?_
 ·simp[elA,elR]
 ·simp
 ·simp
 ·intro x;simp[Tryz.f129,a129,reg129,loop129,draw129,dok129]
 ·rintro⟨i,o⟩ ⟨hi,ho⟩ hrec
  simp only at hi ho⊢
  by_cases hlt:i<xs.length
  ·have w2:IntKind.i64.wrap (i+1)=i+1:=al _ (by omega)
   have h3:(i+1)*3≤xs.length*3:=by omega
   have h3':i*3+3≤xs.length*3:=by omega
   have hip:i<ps.length:=by omega
   have hol:o.length=i:=by rw[ho,List.length_take];omega
   have hp1:ps[i].1=xs[i]:=by simp only[←hpf,List.getElem_map]
   have hnx:ps.take (i+1)=o++[ps[i]]:=by rw[ho,List.take_succ_eq_append_getElem hip]
   have hec:=yy ps[i]
   rw[hp1] at hec
   have hp2:ps[i].2=(bD f.kind xs ws)[i]'(by omega):=by simp only[←hsnd,List.getElem_map]
   have helc:=g9
   have helf:=p7
   have hes1:(o.length+1)*64≤70368744177664:=by omega
   have hes2:o.length≤70368744177663:=by omega
   have hes3:=cP o
   cases hwk:wtd f.kind
   ·have h5:=hk5 hwk
    have hz:ps[i].2=0:=by rw[hp2];simp[bD,hwk]
    rw[hz] at hec
    by_cases ho0:o.length=0
    ·have hoe:o=[]:=List.eq_nil_of_length_eq_zero ho0
     simp[round,Tryz.f129,a129,reg129,loop129,draw129,dok129,ah,hia,hia2,hRa2,hlt,w2,h3,h3',h5,elA,elR,hoe,aF,aD,aL,aJ,dQ,helc]
     refine hrec (i+1,[ps[i]]) _ _ ?_ ?_ ?_ ?_
     ·simp;omega
     ·exact⟨by simp only;omega,by rw[hnx,hoe];rfl⟩
     ·simp[elA,elR,iQ,hec,h5]
     ·simp[h5]
    ·have hoz:¬o=[]:=fun h=>ho0 (by rw[h];rfl)
     simp[round,Tryz.f129,a129,reg129,loop129,draw129,dok129,ah,hia,hia2,hRa2,hlt,w2,h3,h3',h5,elA,elR,ho0,hoz,aF,aD,aL,aJ,aK,helc,hes1,hes2,hes3]
     refine hrec (i+1,o++[ps[i]]) _ _ ?_ ?_ ?_ ?_
     ·simp;omega
     ·exact⟨by simp only;omega,by rw[hnx]⟩
     ·simp[elA,elR,mV,iQ,hec,h5]
     ·simp[h5]
   ·have h5:=hk5' hwk
    have hiw:i<ws.length:=by have:=(hw hwk).1;omega
    have hz:ps[i].2=ws[i]:=by rw[hp2];simp[bD,hwk]
    rw[hz] at hec
    have hat:=bq hiw
    by_cases ho0:o.length=0
    ·have hoe:o=[]:=List.eq_nil_of_length_eq_zero ho0
     simp[round,Tryz.f129,a129,reg129,loop129,draw129,dok129,ah,hia,hia2,hRa2,hlt,w2,h3,h3',h5,elA,elR,hoe,aF,aD,aL,aJ,dQ,helc,hat,hiw,show i+1≤ws.length by omega]
     refine hrec (i+1,[ps[i]]) _ _ ?_ ?_ ?_ ?_
     ·simp;omega
     ·exact⟨by simp only;omega,by rw[hnx,hoe];rfl⟩
     ·simp[elA,elR,iQ,hec]
     ·simp
    ·have hoz:¬o=[]:=fun h=>ho0 (by rw[h];rfl)
     simp[round,Tryz.f129,a129,reg129,loop129,draw129,dok129,ah,hia,hia2,hRa2,hlt,w2,h3,h3',h5,elA,elR,ho0,hoz,aF,aD,aL,aJ,aK,helc,hes1,hes2,hes3,hat,hiw,show i+1≤ws.length by omega]
     refine hrec (i+1,o++[ps[i]]) _ _ ?_ ?_ ?_ ?_
     ·simp;omega
     ·exact⟨by simp only;omega,by rw[hnx]⟩
     ·simp[elA,elR,mV,iQ,hec]
     ·simp
  ·clear hrec
   have hie:i=xs.length:=by omega
   subst hie
   have hoe:o=ps:=by rw[ho,List.take_of_length_le (by omega)]
   rw[hoe]
   clear ho hoe o
   have hpe:¬ps.length=0:=by omega
   have hpe':¬ps=[]:=fun h=>hpe (by rw[h];rfl)
   have hql:=wP ps
   have hqs:=wB ps
   have hqp:=rX ps
   have hqn:∀p,p∈i6 ps→p.1.nodes≤1000000000∧aP p.1:=fun p hp=>hmem p (hqp.mem_iff.1 hp)
   have hmq:aI [] (i6 ps)=aE f.kind xs ws:=by rw[AI hqp,←hps];rfl
   have hqw:wtd f.kind=true→(∀p,p∈i6 ps→1≤p.2)∧((i6 ps).map (·.2)).sum≤1048576:=fun h=>by
    have hz:bD f.kind xs ws=ws:=by unfold bD;rw[h,if_pos rfl]
    obtain⟨h1,h2,h3⟩:=hw h
    refine⟨fun p hp=>h2 _ ?_, ?_⟩
    ·rw[←hz,←hsnd]
     exact List.mem_map_of_mem (hqp.mem_iff.1 hp)
    ·have h4:((i6 ps).map (·.2)).sum=(ps.map (·.2)).sum:=DX (hqp.map _)
     rw[h4,hsnd,hz]
     exact h3
   have hqz:wtd f.kind=false→∀p,p∈i6 ps→p.2=0:=fun h p hp=>by
    have h1:p.2∈ps.map (·.2):=List.mem_map_of_mem (hqp.mem_iff.1 hp)
    rw[hsnd] at h1
    unfold bD at h1
    rw[h] at h1
    simp at h1
    exact h1.2.symm
   simp[round,Tryz.f129,a129,reg129,loop129,draw129,dok129,elA,elR,hpe,hpe',hsort]
   clear hsort
   generalize i6 ps=qs at*
   refine aC (fun s:MgS=>⟨[(2,.ptr m.bx.length 0),(4,.ptr (m.bx.length+2) 0),(9,.ptr (m.bx.length+3) 0),(40,.sl m.rw.length (ps.length*4) 0 ps.length),(41,.int .i64 ps.length),(42,.int .i64 s.i)],
     ⟨m.bx++[f.cells,[.int .i64 0,.sl ia (xs.length*3) 0 xs.length,.isl false ws.length (az ws)],[.int .i64 0,.nils,.nils],[.int .i64 0,mgA (m.rw.length+s.ja) s.o,mgW f.kind (m.rw.length+s.jw) s.o]],m.rw++s.J⟩⟩)
    (fun s=>some (.ret (.agg (aW f.kind 0 xs ws).cells),m)) (fun s=>ps.length-s.i)
    (fun s=>s.i≤ps.length∧s.o.length≤s.i∧(0<s.i→0<s.o.length)∧aI s.o (qs.drop s.i)=aI [] qs∧s.o.Pairwise LtP∧(∀p,p∈s.o→∀q,q∈qs.drop s.i→aY p.1 q.1≤0)∧(∀p,p∈s.o→p.1.nodes≤1000000000∧aP p.1)∧MgOk f.kind m.rw.length s∧s.J[0]? =some ⟨196,bh qs⟩∧(0<s.o.length→0<s.ja)∧(0<s.o.length→wtd f.kind=true→0<s.jw))
    ⟨0,[],[⟨196,bh qs⟩],0,0⟩ ?_ ?_ ?_ ?_ ?_
   ·simp[mgA,mgW]
   ·simp
   ·refine⟨by simp,by simp,by simp,rfl,List.Pairwise.nil,fun p hp=>(by cases hp),fun p hp=>(by cases hp),⟨by simp[g9],fun h=>by simp at h,fun h=>by simp at h,fun _ p hp=>by cases hp⟩,rfl,fun h=>by simp at h,fun h=>by simp at h⟩
   ·intro x;simp[Tryz.f129,a129,reg129,loop129,draw129,dok129]
   ·rintro⟨i,o,J,ja,jw⟩ ⟨hi,hol,hi0,hmg,hos,hle,hsm,⟨hcl,hra,hrw,hps1⟩,hJ0,hja0,hjw0⟩ hrec
    simp only at hi hol hi0 hmg hos hle hsm hcl hra hrw hps1 hJ0 hja0 hjw0⊢
    have hJp:0<J.length:=(List.getElem?_eq_some_iff.1 hJ0).1
    have hJ2:=(List.getElem?_eq_some_iff.1 hJ0).2
    by_cases hlt:i<ps.length
    ·have w2:IntKind.i64.wrap (i+1)=i+1:=al _ (by omega)
     have hiq:i<qs.length:=by omega
     have h4:(i+1)*4≤ps.length*4:=by omega
     have h4':i*4+4≤ps.length*4:=by omega
     have hat4:=uI qs i hiq
     have hqi:=hqn _ (List.getElem_mem hiq)
     have hdr:qs.drop i=qs[i]::qs.drop (i+1):=List.drop_eq_getElem_cons hiq
     have hmg2:aI (bg qs[i].1 qs[i].2 o) (qs.drop (i+1))=aI [] qs:=by rw[←hmg,hdr];rfl
     have hos2:=lr (u:=qs[i].1) (w:=qs[i].2) hos
     have hle2:∀p,p∈o→aY p.1 qs[i].1≤0:=fun p hp=>hle p hp _ (by rw[hdr];exact List.mem_cons_self)
     have hnext:∀q,q∈qs.drop (i+1)→aY qs[i].1 q.1≤0:=by
      have h1:=hqs.sublist (List.drop_sublist i qs)
      rw[hdr,List.pairwise_cons] at h1
      exact h1.1
     have hle3:∀p,p∈bg qs[i].1 qs[i].2 o→∀q,q∈qs.drop (i+1)→aY p.1 q.1≤0:=fun p hp q hq=>by
      rcases l9 hp with h1|⟨r,hr,h1⟩
      ·rw[h1];exact hnext q hq
      ·rw[h1];exact hle r hr q (by rw[hdr];exact List.mem_cons_of_mem _ hq)
     have hsm2:∀p,p∈bg qs[i].1 qs[i].2 o→p.1.nodes≤1000000000∧aP p.1:=fun p hp=>by
      rcases l9 hp with h1|⟨r,hr,h1⟩
      ·rw[h1];exact hqi
      ·rw[h1];exact hsm r hr
     have hps2:wtd f.kind=true→∀p,p∈bg qs[i].1 qs[i].2 o→1≤p.2:=fun h=>oz ((hqw h).1 _ (List.getElem_mem hiq)) (hps1 h)
     have hec:=yy qs[i]
     have hw5:wtd 5=false:=rfl
     have hine:=wq qs[i].1 qs[i].2 o
     have hine1:0<(bg qs[i].1 qs[i].2 o).length:=List.length_pos_iff.2 hine
     have hinl:=zg qs[i].1 qs[i].2 o
     have hql4:=cP qs
     have hcle:∀nb nr,(cO qs[i]).all (closed nb nr)=true:=fun nb nr=>by have:=g9 nb nr [qs[i]];rwa [iQ] at this
     rw[hec] at hcle
     have hI:∀(J':List Row) (ja' jw':Nat),J'.all (fun r=>r.cs.all (closed 0 0))=true→J'[ja']? =some ⟨47,Val.cellsL ((bg qs[i].1 qs[i].2 o).map (·.1))⟩→(wtd f.kind=true→J'[jw']? =some ⟨3,az ((bg qs[i].1 qs[i].2 o).map (·.2))⟩∧ja'≠jw')→J'[0]? =some ⟨196,bh qs⟩→0<ja'→(wtd f.kind=true→0<jw')→
       (i+1≤ps.length∧(bg qs[i].1 qs[i].2 o).length≤i+1∧(0<i+1→0<(bg qs[i].1 qs[i].2 o).length)∧aI (bg qs[i].1 qs[i].2 o) (qs.drop (i+1))=aI [] qs∧(bg qs[i].1 qs[i].2 o).Pairwise LtP∧(∀p,p∈bg qs[i].1 qs[i].2 o→∀q,q∈qs.drop (i+1)→aY p.1 q.1≤0)∧(∀p,p∈bg qs[i].1 qs[i].2 o→p.1.nodes≤1000000000∧aP p.1)∧MgOk f.kind m.rw.length ⟨i+1,bg qs[i].1 qs[i].2 o,J',ja',jw'⟩∧J'[0]? =some ⟨196,bh qs⟩∧(0<(bg qs[i].1 qs[i].2 o).length→0<ja')∧(0<(bg qs[i].1 qs[i].2 o).length→wtd f.kind=true→0<jw')):=
      fun J' ja' jw' g1 g2 g3 g4 g5 g6=>⟨by omega,by omega,fun _=>hine1,hmg2,hos2,hle3,hsm2,⟨g1,fun _=>g2,fun _ h=>g3 h,hps2⟩,g4,fun _=>g5,fun _ h=>g6 h⟩
     have hsb:wtd f.kind=true→(o.map (·.2)).sum+qs[i].2≤1048576:=fun h=>by
      have e:=congrArg (fun l:List (Val×Int)=>(l.map (·.2)).sum) hmg
      rw[eM,eM,hdr,List.map_cons,List.sum_cons] at e
      have h1:=kK fun q (hq:q∈qs.drop (i+1))=>(hqw h).1 q (List.mem_of_mem_drop hq)
      have h2:=(hqw h).2
      try simp at e
      try simp at h1
      omega
     clear hle hle3 hsm2 hps2 hnext hmg hmg2 hos2
     generalize hO:bg qs[i].1 qs[i].2 o=O at*
     by_cases hi00:i=0
     ·subst hi00
      have hat0:=hat4
      simp only[Nat.zero_mul,List.drop_zero] at hat0
      rw[hec] at hat0
      have h40:4≤ps.length*4:=by omega
      have hoe:o=[]:=List.eq_nil_of_length_eq_zero (by omega)
      subst hoe
      have hO1:O=[(qs[0].1,qs[0].2)]:=by rw[←hO,bg]
      cases hwk:wtd f.kind
      ·have h5:=hk5 hwk
       simp[round,Tryz.f129,a129,reg129,loop129,draw129,dok129,hia2,hlt,w2,aL,hJp,hJ2,hql,hql4,h4,h4',h40,hat0,hat4,hec,mgA,mgW,hwk,h5,aK,hcl]
       refine hrec ⟨1,O,J++[⟨47,Val.cellsL (O.map (·.1))⟩],J.length,0⟩ _ _ ?_ ?_ ?_ ?_
       ·simp;omega
       ·exact hI _ _ _ (by simp[hcl]) (by simp) (fun h=>absurd h (by simp[hwk])) (by rw[List.getElem?_append_left hJp];exact hJ0) hJp (fun h=>absurd h (by simp[hwk]))
       ·simp[mgA,mgW,hwk,h5,hw5,hO1,Val.cellsL]
       ·simp[h5]
      ·have h5:=hk5' hwk
       simp[round,Tryz.f129,a129,reg129,loop129,draw129,dok129,hia2,hlt,w2,aL,hJp,hJ2,hql,hql4,h4,h4',h40,hat0,hat4,hec,mgA,mgW,hwk,h5,aK,hcl]
       refine hrec ⟨1,O,J++[⟨47,Val.cellsL (O.map (·.1))⟩,⟨3,az (O.map (·.2))⟩],J.length,J.length+1⟩ _ _ ?_ ?_ ?_ ?_
       ·simp;omega
       ·exact hI _ _ _ (by simp[hcl]) (by simp) (fun h=>⟨by simp,by omega⟩) (by rw[List.getElem?_append_left hJp];exact hJ0) hJp (fun h=>by omega)
       ·simp[mgA,mgW,hwk,h5,hO1,Val.cellsL,az]
       ·simp
     ·have ho1:0<o.length:=hi0 (by omega)
      have htop:=Dr (w:=qs[i].2) hos hle2 ho1
      rw[hO] at htop
      obtain⟨k,hlk⟩:∃k,o.length=k+1:=⟨o.length-1,by omega⟩
      have hko:k<o.length:=by omega
      simp only[hlk,Nat.add_sub_cancel] at htop
      have ho0:¬o=[]:=fun h=>by rw[h] at ho1;simp at ho1
      have w4:IntKind.i64.wrap (k:Int)=k:=al _ (by omega)
      have hJa:=hra ho1
      have hja:ja<J.length:=(List.getElem?_eq_some_iff.1 hJa).1
      have hJa2:=(List.getElem?_eq_some_iff.1 hJa).2
      have hsk:=hsm _ (List.getElem_mem hko)
      have he:=Eh o[k].1 qs[i].1 hsk.1 hsk.2
      simp at he
      have hatk:=Val.at_cellsL (o.map (·.1)) k (by simpa using hko)
      simp at hatk
      have hi01:0<i:=by omega
      have hk3:k*3+3≤(k+1)*3:=by omega
      by_cases hc:aY o[k].1 qs[i].1=0
      ·simp[hc] at he
       rw[if_pos hc] at htop
       have hfst:O.map (·.1)=o.map (·.1):=by
        rw[htop,List.map_set]
        exact List.ext_getElem (by simp) fun n h1 h2=>by
         rw[List.getElem_set]
         split
         ·rename_i h;subst h;simp
         ·rfl
       have hil:O.length=o.length:=by rw[htop];simp
       cases hwk:wtd f.kind
       ·have h5:=hk5 hwk
        simp[round,Tryz.f129,a129,reg129,loop129,draw129,dok129,hia2,hlt,w2,w4,aL,aF,aD,hJp,hJ2,hja,hJa2,hql,hql4,h4,h4',hat4,hec,mgA,mgW,hwk,h5,hw5,hlk,ho0,hi01,hi00,hatk,hk3,he,hc,aK,hcl,fz,show(k:Int)<(k:Int)+1 by omega]
        refine hrec ⟨i+1,O,J,ja,jw⟩ _ _ ?_ ?_ ?_ ?_
        ·simp;omega
        ·exact hI _ _ _ hcl (by rw[hfst];exact hJa) (fun h=>absurd h (by simp[hwk])) hJ0 (hja0 ho1) (fun h=>absurd h (by simp[hwk]))
        ·simp[mgA,mgW,hwk,h5,hw5,hil,hlk,hine,ho0]
        ·simp[h5]
       ·have h5:=hk5' hwk
        obtain⟨hJw,hne⟩:=hrw ho1 hwk
        have hjw:jw<J.length:=(List.getElem?_eq_some_iff.1 hJw).1
        have hJw2:=(List.getElem?_eq_some_iff.1 hJw).2
        have hat2:((az (o.map (·.2))).drop k).take 1=[.int .i64 o[k].2]:=by
         have:=bq (ks:=o.map (·.2)) (i:=k) (by simpa using hko)
         simpa using this
        have hwp:=hps1 hwk
        have hsum:=nS hwp (List.getElem_mem hko)
        have hp1:=hwp _ (List.getElem_mem hko)
        have hq1:=(hqw hwk).1 _ (List.getElem_mem hiq)
        have w3:IntKind.i64.wrap (o[k].2+qs[i].2)=o[k].2+qs[i].2:=al _ (by have:=hsb hwk;omega)
        have hset:List.take k (az (o.map (·.2)))++A.int .i64 (o[k].2+qs[i].2)::List.drop (k+1) (az (o.map (·.2)))=az (O.map (·.2)):=by
         rw[htop,List.map_set,List.set_eq_take_append_cons_drop,if_pos (by simpa using hko)]
         simp[az]
        simp[round,Tryz.f129,a129,reg129,loop129,draw129,dok129,hia2,hlt,w2,w4,aL,aF,aD,hJp,hJ2,hja,hJa2,hql,hql4,h4,h4',hat4,hec,mgA,mgW,hwk,h5,hw5,hlk,ho0,hi01,hi00,hatk,hk3,he,hc,aK,hcl,fz,show(k:Int)<(k:Int)+1 by omega,hjw,hJw2,hat2,w3,hset]
        refine hrec ⟨i+1,O,J.set jw ⟨3,az (O.map (·.2))⟩,ja,jw⟩ _ _ ?_ ?_ ?_ ?_
        ·simp;omega
        ·exact hI _ _ _ (by simp[fz,hcl]) (by rw[List.getElem?_set_ne (Ne.symm hne),hfst];exact hJa) (fun _=>⟨by simp[hjw],hne⟩) (by rw[List.getElem?_set_ne (by have:=hjw0 ho1 hwk;omega)];exact hJ0) (hja0 ho1) (fun h=>hjw0 ho1 h)
        ·simp[mgA,mgW,hwk,h5,hil,hlk,hine,ho0]
        ·simp
      ·simp[hc] at he
       rw[if_neg hc] at htop
       have hil:O.length=k+1+1:=by rw[htop];simp[hlk]
       have hcl3:Val.cellsL (o.map (·.1))++qs[i].1.cells=Val.cellsL (O.map (·.1)):=by rw[htop,List.map_append,Val.cellsL_append];simp[Val.cellsL]
       simp only[Val.cells_eq] at hcl3
       cases hwk:wtd f.kind
       ·have h5:=hk5 hwk
        simp[round,Tryz.f129,a129,reg129,loop129,draw129,dok129,hia2,hlt,w2,w4,aL,aF,aD,hJp,hJ2,hja,hJa2,hql,hql4,h4,h4',hat4,hec,mgA,mgW,hwk,h5,hw5,hlk,ho0,hi01,hi00,hatk,hk3,he,hc,aK,hcl,fz,show(k:Int)<(k:Int)+1 by omega,hcl3,show(k+1+1)*56≤70368744177664 by omega,show k+1+1≤70368744177664 by omega,show(k+1+1)*8≤70368744177664 by omega,show(k+1)*3+3=(k+1+1)*3 by omega]
        refine hrec ⟨i+1,O,J.set ja ⟨47,Val.cellsL (O.map (·.1))⟩,ja,jw⟩ _ _ ?_ ?_ ?_ ?_
        ·simp;omega
        ·exact hI _ _ _ (by simp[fz,hcl]) (by simp[hja]) (fun h=>absurd h (by simp[hwk])) (by rw[List.getElem?_set_ne (by have:=hja0 ho1;omega)];exact hJ0) (hja0 ho1) (fun h=>absurd h (by simp[hwk]))
        ·simp[mgA,mgW,hwk,h5,hw5,hil,hlk,hine,ho0]
        ·simp[h5]
       ·have h5:=hk5' hwk
        obtain⟨hJw,hne⟩:=hrw ho1 hwk
        have hjw:jw<J.length:=(List.getElem?_eq_some_iff.1 hJw).1
        have hJw2:=(List.getElem?_eq_some_iff.1 hJw).2
        have hin:az (o.map (·.2))++[A.int .i64 qs[i].2]=az (O.map (·.2)):=by rw[htop,List.map_append,dP];simp[az]
        have hcl2:((J.set ja ⟨47,Val.cellsL (O.map (·.1))⟩).set jw ⟨3,az (O.map (·.2))⟩).all (fun r=>r.cs.all (closed 0 0))=true:=fz (fz hcl _ _ (Val.closed_cellsL _ _ _)) _ _ (yL _ _ _)
        simp[round,Tryz.f129,a129,reg129,loop129,draw129,dok129,hia2,hlt,w2,w4,aL,aF,aD,hJp,hJ2,hja,hJa2,hql,hql4,h4,h4',hat4,hec,mgA,mgW,hwk,h5,hw5,hlk,ho0,hi01,hi00,hatk,hk3,he,hc,aK,hcl,fz,show(k:Int)<(k:Int)+1 by omega,hcl3,hcl2,hjw,hJw2,hin,hne,show(k+1+1)*56≤70368744177664 by omega,show k+1+1≤70368744177664 by omega,show(k+1+1)*8≤70368744177664 by omega,show(k+1)*3+3=(k+1+1)*3 by omega]
        refine hrec ⟨i+1,O,(J.set ja ⟨47,Val.cellsL (O.map (·.1))⟩).set jw ⟨3,az (O.map (·.2))⟩,ja,jw⟩ _ _ ?_ ?_ ?_ ?_
        ·simp;omega
        ·exact hI _ _ _ hcl2 (by rw[List.getElem?_set_ne (Ne.symm hne)];simp[hja]) (fun _=>⟨by simp[hjw],hne⟩) (by rw[List.getElem?_set_ne (by have:=hjw0 ho1 hwk;omega),List.getElem?_set_ne (by have:=hja0 ho1;omega)];exact hJ0) (hja0 ho1) (fun h=>hjw0 ho1 h)
        ·simp[mgA,mgW,hwk,h5,hil,hlk,hine,ho0]
        ·simp
    ·clear hrec
     have hie:i=ps.length:=by omega
     subst hie
     have hO:o=aE f.kind xs ws:=by
      rw[←hmq,←hmg,List.drop_eq_nil_of_le (by omega)]
      rfl
     have ho1:0<o.length:=hi0 (by omega)
     have ho0:¬o=[]:=fun h=>by rw[h] at ho1;simp at ho1
     have hJa:=hra ho1
     have hja:ja<J.length:=(List.getElem?_eq_some_iff.1 hJa).1
     have hJa2:=(List.getElem?_eq_some_iff.1 hJa).2
     have hall:List.take (o.length*3) (Val.cellsL (o.map (·.1)))=Val.cellsL (o.map (·.1)):=List.take_of_length_le (by simp)
     have hallw:List.take o.length (az (o.map (·.2)))=az (o.map (·.2)):=List.take_of_length_le (by simp)
     have hO2:wtd f.kind=true→∀w,w∈o.map (·.2)→1≤w∧w≤1048576:=fun h w hmem=>by
      obtain⟨p,hp,rfl⟩:=List.mem_map.1 hmem
      refine⟨hps1 h p hp, ?_⟩
      have h1:=nS (hps1 h) hp
      have h2:(o.map (·.2)).sum=(qs.map (·.2)).sum:=by
       rw[hO,←hmq,eM]
       simp
      have h3:=(hqw h).2
      omega
     unfold aW
     rw[←hO]
     by_cases h7:f.kind=7
     ·have hwk:wtd f.kind=true:=by rw[h7];rfl
      obtain⟨hJw,hne⟩:=hrw ho1 hwk
      have hjw:jw<J.length:=(List.getElem?_eq_some_iff.1 hJw).1
      have hJw2:=(List.getElem?_eq_some_iff.1 hJw).2
      have hws:∀w,w∈o.map (·.2)→1≤w∧w≤1048576:=hO2 hwk
      have hwp:∀w,w∈o.map (·.2)→1≤w:=fun w h=>(hws w h).1
      have hWl:(o.map (·.2)).length=o.length:=by simp
      generalize o.map (·.2)=W at*
      have hgp:0<dz W:=jQ (fun h=>by rw[h] at hWl;simp at hWl;omega) hwp
      have hg:=Ej W (m.rw.length+jw) (by omega) hws
      have hgc:∀bx,ai C0 169 [.sl (m.rw.length+jw) o.length 0 o.length] ⟨bx,m.rw++J⟩=some (.ret (.int .i64 (dz W)),⟨bx,m.rw++J⟩):=fun bx=>by
       have:=hg ⟨bx,m.rw++J⟩ (by rw[aF];exact hJw)
       rwa [hWl] at this
      simp[round,Tryz.f129,a129,reg129,loop129,draw129,dok129,hia2,aF,h7,show wtd 7=true from rfl,ho0,mgA,mgW,hwk,hgc,hjw,hJw2,hja,hJa2]
      refine aC (fun j:Nat=>⟨[(4,.ptr (m.bx.length+2) 0),(9,.ptr (m.bx.length+3) 0),(13,.int .i64 (dz W)),(101,.int .i64 o.length),(102,.int .i64 j)],
        ⟨m.bx++[f.cells,[.int .i64 0,.sl ia (xs.length*3) 0 xs.length,.isl false ws.length (az ws)],[.int .i64 0,.nils,.nils],[.int .i64 0,.sl (m.rw.length+ja) (o.length*3) 0 o.length,.sl (m.rw.length+jw) o.length 0 o.length]],m.rw++J.set jw ⟨3,az ((bH W).take j++W.drop j)⟩⟩⟩)
       (fun i=>some (.ret (.agg (Val.mk 0 (o.map (·.1)) (bH W)).cells),m)) (fun j=>o.length-j) (fun j=>j≤o.length) 0 ?_ ?_ ?_ ?_ ?_
      ·have hset0:J.set jw ⟨3,az W⟩=J:=by rw[←hJw2];exact List.set_getElem_self hjw
       simp[hset0,h7]
      ·simp
      ·omega
      ·intro x;simp[Tryz.f129,a129,reg129,loop129,draw129,dok129,hia2]
      ·intro j hj hrec
       have hdl:(bH W).length=W.length:=by unfold bH;simp
       have hne':¬jw=ja:=fun h=>hne h.symm
       have hg0:¬(dz W:Int)=0:=by omega
       by_cases hit:j<o.length
       ·have w2:IntKind.i64.wrap (j+1)=j+1:=al _ (by omega)
        have hiW:j<W.length:=by omega
        have hx:=hws W[j] (List.getElem_mem hiW)
        have hq:=lJ hx.1 hgp ((fY W 0).2 _ (List.getElem_mem hiW))
        have w3:IntKind.i64.wrap (W[j].tdiv (dz W))=W[j].tdiv (dz W):=al _ (by omega)
        have hDl:((bH W).take j++W.drop j).length=o.length:=by simp;omega
        have hat:((az ((bH W).take j++W.drop j)).drop j).take 1=[.int .i64 W[j]]:=by
         have h1:=bq (ks:=(bH W).take j++W.drop j) (i:=j) (by omega)
         rw[h1]
         congr 2
         rw[List.getElem_append_right (by simp;omega)]
         simp[Nat.min_eq_left (show j≤(bH W).length by omega)]
        have hst:List.take j (az ((bH W).take j++W.drop j))++A.int .i64 (W[j].tdiv (dz W))::List.drop (j+1) (az ((bH W).take j++W.drop j))=az ((bH W).take (j+1)++W.drop (j+1)):=by
         have h1:(bH W)[j]'(by omega)=W[j].tdiv (dz W):=by unfold bH;simp
         have h2:((bH W).take j).length=j:=by simp;omega
         unfold az
         rw[←List.map_take,←List.map_drop,←List.drop_drop]
         have h3:List.take j ((bH W).take j++W.drop j)=(bH W).take j:=by rw[List.take_append_of_le_length (by omega),List.take_of_length_le (by omega)]
         have h4:List.drop j ((bH W).take j++W.drop j)=W.drop j:=by rw[List.drop_append_of_le_length (by omega),List.drop_eq_nil_of_le (by omega)];rfl
         rw[h3,h4,List.drop_drop,List.take_succ_eq_append_getElem (by omega),h1]
         simp
        generalize (bH W).take j++W.drop j=D at hDl hat hst⊢
        simp[round,Tryz.f129,a129,reg129,loop129,draw129,dok129,hia2,hit,w2,w3,aF,aD,hjw,hDl,hat,hst,show ¬dz W=0 by omega,show j+1≤o.length by omega,aK,fz,hcl,hja]
        refine hrec (j+1) _ _ ?_ ?_ ?_ ?_
        ·omega
        ·omega
        ·simp
        ·simp
       ·clear hrec
        have hie:j=o.length:=by omega
        subst hie
        rw[List.take_of_length_le (by omega),List.drop_eq_nil_of_le (by omega),List.append_nil]
        have hdl2:(bH W).length=o.length:=by omega
        have htk:List.take o.length (az (bH W))=az (bH W):=List.take_of_length_le (by simp;omega)
        simp[round,Tryz.f129,a129,reg129,loop129,draw129,dok129,hia2,aF,hjw,hja,hJa2,hne',hall,hdl2,htk]
     ·cases hwk:wtd f.kind
      ·have h5:=hk5 hwk
       simp[round,Tryz.f129,a129,reg129,loop129,draw129,dok129,hia2,aF,show wtd 5=false from rfl,h5,h7,ho0,mgA,mgW,hwk,hja,hJa2,hall]
      ·have h5:=hk5' hwk
       obtain⟨hJw,hne⟩:=hrw ho1 hwk
       have hjw:jw<J.length:=(List.getElem?_eq_some_iff.1 hJw).1
       have hJw2:=(List.getElem?_eq_some_iff.1 hJw).2
       simp[round,Tryz.f129,a129,reg129,loop129,draw129,dok129,hia2,aF,h5,h7,ho0,mgA,mgW,hwk,hja,hJa2,hjw,hJw2,hall,hallw]
theorem yG(kind k:Int)(xs:List Val)(w:List Int)(hs:bS xs)(hx:xs.length≤1000000000):(aW kind k xs w).nodes≤1+Val.nodesL xs∧aP (aW kind k xs w):=by
 unfold aW
 rw[Val.nodes_eq,bj]
 simp only[Val.args_mk,Val.ws_mk]
 have h1:=kn (xs.zip (bD kind xs w)) []
 have h2:Val.nodesL ((xs.zip (bD kind xs w)).map (·.1))≤Val.nodesL xs:=by
  have:∀(a:List Val) (b:List Int),Val.nodesL ((a.zip b).map (·.1))≤Val.nodesL a:=by
   intro a
   induction a with
   |nil=>intro b;simp[Val.nodesL]
   |cons x r ih=>
    intro b
    cases b with
    |nil=>simp[Val.nodesL]
    |cons y t=>simp[Val.nodesL];exact ih t
  exact this _ _
 have h3:(xs.zip (bD kind xs w)).length≤xs.length:=by rw[List.length_zip];omega
 simp only[List.map_nil,List.length_nil,Val.nodesL] at h1
 unfold aE
 refine⟨by omega, ?_,rA fun x hx'=> ?_⟩
 ·split
  ·unfold bH;simp;omega
  ·split
   ·simp;omega
   ·simp
 ·obtain⟨p,hp,rfl⟩:=List.mem_map.1 hx'
  rcases kB _ _ p hp with⟨q,h4,h5⟩|⟨q,h4,_⟩
  ·rw[h5];exact cq hs (mj h4).1
  ·cases h4
mutual
theorem vd{t:Int→Val}(ht:∀x,(t x).nodes≤1∧aP (t x)):∀(v:Val) (f:Fun),aP v→v.nodes≤1000000000→(eg t v f).nodes≤v.nodes∧aP (eg t v f)
 | .mk k l w,f,hs,hb=>by
   rw[bj] at hs
   have hv:=Val.nodes_eq (.mk k l w)
   rw[hv] at hb⊢
   simp only[Val.args_mk] at hb hs⊢
   have ih:=mX ht l (aB f k) 0 hs.2 (by omega)
   have hl:=Val.length_nodesL l
   have hm:=ju t l (aB f k) 0
   rw[eg]
   split
   ·have:=ht k;exact⟨by omega,this.2⟩
   split
   ·rw[Val.nodes_eq,bj];simp[Val.nodesL,bS]
   have hplain:∀q,(Val.mk q (ci t l (aB f k) 0) []).nodes≤1+Val.nodesL l∧aP (Val.mk q (ci t l (aB f k) 0) []):=fun q=>by
    rw[Val.nodes_eq,bj]
    simp only[Val.args_mk,Val.ws_mk]
    exact⟨by omega,by simp,ih.2⟩
   split
   ·exact hplain 0
   split
   ·exact hplain k
   split
   ·exact hplain 0
   have:=yG f.kind 0 (ci t l (aB f k) 0) w ih.2 (by omega)
   exact⟨by omega,this.2⟩
theorem mX{t:Int→Val}(ht:∀x,(t x).nodes≤1∧aP (t x)):∀(l:List Val) (g:Nat→Fun) (i:Nat),bS l→Val.nodesL l≤1000000000→Val.nodesL (ci t l g i)≤Val.nodesL l∧bS (ci t l g i)
 |[],g,i,hs,hb=>by rw[ci];exact⟨Nat.le_refl _,hs⟩
 |v::r,g,i,hs,hb=>by
  rw[bS] at hs
  rw[Val.nodesL] at hb
  have a:=vd ht v (g i) hs.1 (by omega)
  have b:=mX ht r g (i+1) hs.2 (by omega)
  rw[ci,Val.nodesL,Val.nodesL,bS]
  exact⟨by omega,a.2,b.2⟩
end
structure MapOk (t:Int→Val) (h:FuncId) (caps:List A) (n:Int) (Q:Mem→Prop):Prop where
 ev:∀x,0≤x→x<n→∀m,Q m→ai C0 h (.int .i64 x::caps) m=some (.ret (.agg (t x).cells),m)
 up:∀m b r,Q m→Q ⟨m.bx++b,m.rw++r⟩
 cl:∀m,Q m→closed m.bx.length m.rw.length (.fn h caps)=true
 sm:∀x,(t x).nodes≤1∧aP (t x)
def Bc(t:Int→Val)(h:FuncId)(caps:List A)(n:Int)(Q:Mem→Prop)(v:Val):Prop:=
 ∀f,au f=true→okV exL n v f=true→∀m,Q m→ai C0 84 [.agg f.cells,.agg v.cells,.fn h caps] m=some (.ret (.agg (eg t v f).cells),m)
section
variable {t:Int→Val} {h:FuncId} {caps:List A} {n:Int} {Q:Mem→Prop}
set_option maxHeartbeats 8000000 in
theorem vz(hM:MapOk t h caps n Q)(v:Val)(H:∀u,u∈v.args→Bc t h caps n Q u)(f:Fun)(hf:au f=true)(hok:okV exL n v f=true)(hk:f.kind≤3)(m:Mem)(hQ:Q m):
  ai C0 84 [.agg f.cells,.agg v.cells,.fn h caps] m=some (.ret (.agg (eg t v f).cells),m):=by
 rw[nJ,Bool.and_eq_true,Bool.and_eq_true] at hok
 obtain⟨⟨hh,_⟩,hokl⟩:=hok
 have hq0:∀b,Q ⟨m.bx++b,m.rw⟩:=fun b=>by have:=hM.up m b [] hQ;rwa [List.append_nil] at this
 obtain⟨hd1,hd2,hd3⟩:=eT hh
 have hh':=hh
 unfold bn at hh'
 simp only[Bool.and_eq_true] at hh'
 obtain⟨⟨q1,q2⟩,q3⟩:=hh'
 rw[wJ]
 rw[ab C0 (aj _ (by decide)) (by rw[ay];exact Tryz.func84) rfl (by rw[ae];rfl) (by rw[ae];rfl) (by decide) (by simp[Tryz.f84])]
 rcases ba hf with⟨h0,hl⟩|⟨h0,hl⟩|⟨h0,hl⟩|⟨h0,hl⟩|⟨h0,hl⟩|⟨h0,hl⟩|⟨h0,hl⟩|⟨h0,hl⟩
 ·simp[h0] at q2
  have he:=fun b=>hM.ev v.num q2.1 (by omega) _ (hq0 b)
  simp at he
  simp[Tryz.f84,a84,reg84,loop84,draw84,dok84,h0,he]
 ·simp[Tryz.f84,a84,reg84,loop84,draw84,dok84,h0]
 ·simp[h0,hl] at q1
  have a0:0<v.args.length:=by omega
  have a1:1<v.args.length:=by omega
  have f0:0<f.args.length:=by omega
  have f1:1<f.args.length:=by omega
  have g0:aB f v.num 0=f.args[0]:=by unfold aB;rw[if_pos h0,List.getD_eq_getElem?_getD,List.getElem?_eq_getElem f0];rfl
  have g1:aB f v.num 1=f.args[1]:=by unfold aB;rw[if_pos h0,List.getD_eq_getElem?_getD,List.getElem?_eq_getElem f1];rfl
  have b1:=Fun.at_cellsL f.args 0 f0
  have b2:=Fun.at_cellsL f.args 1 f1
  have b3:=Val.at_cellsL v.args 0 a0
  have b4:=Val.at_cellsL v.args 1 a1
  simp at b1 b2 b3 b4
  have o0:=d7 hokl 0 a0
  have o1:=d7 hokl 1 a1
  rw[Nat.zero_add] at o0 o1
  rw[g0] at o0
  rw[g1] at o1
  have he0:=fun b=>H v.args[0] (List.getElem_mem a0) f.args[0] (aN hf f0) o0 _ (hq0 b)
  have he1:=fun b=>H v.args[1] (List.getElem_mem a1) f.args[1] (aN hf f1) o1 _ (hq0 b)
  simp at he0 he1
  have hm:ci t v.args (aB f v.num) 0=[eg t v.args[0] f.args[0],eg t v.args[1] f.args[1]]:=by
   have e0:=mn (t:=t) a0 (aB f v.num)
   have e1:=mn (t:=t) a1 (aB f v.num)
   rw[List.drop_zero] at e0
   rw[e0,e1,g0,g1,List.drop_eq_nil_of_le (by omega),ci]
  have hcl:Val.cellsL [eg t v.args[0] f.args[0],eg t v.args[1] f.args[1]]=(eg t v.args[0] f.args[0]).cells++(eg t v.args[1] f.args[1]).cells:=by rw[Val.cellsL,Val.cellsL,Val.cellsL,List.append_nil]
  simp[Tryz.f84,a84,reg84,loop84,draw84,dok84,h0,show v.args.length=2 by omega,hl,b1,b2,b3,b4,he0,he1,hm,hcl]
 ·simp[h0] at q1
  have a0:0<v.args.length:=by omega
  have f0:0<f.args.length:=by omega
  have f1:1<f.args.length:=by omega
  have b1:=Fun.at_cellsL f.args 0 f0
  have b2:=Fun.at_cellsL f.args 1 f1
  have b3:=Val.at_cellsL v.args 0 a0
  simp at b1 b2 b3
  have o0:=d7 hokl 0 a0
  rw[Nat.zero_add] at o0
  have e0:=mn (t:=t) a0 (aB f v.num)
  rw[List.drop_zero,List.drop_eq_nil_of_le (by omega),ci] at e0
  by_cases cn:v.num=0
  ·have g0:aB f v.num 0=f.args[0]:=by unfold aB;rw[if_neg (by omega),if_pos h0,cn,List.getD_eq_getElem?_getD,List.getElem?_eq_getElem (by simpa using f0)];rfl
   rw[g0] at o0 e0
   rw[cn] at e0
   have he0:=fun b=>H v.args[0] (List.getElem_mem a0) f.args[0] (aN hf f0) o0 _ (hq0 b)
   simp at he0
   simp[Tryz.f84,a84,reg84,loop84,draw84,dok84,h0,q1.2,hl,b1,b2,b3,he0,e0,cn,Val.cellsL]
  ·have cm:v.num=1:=by omega
   have g0:aB f v.num 0=f.args[1]:=by unfold aB;rw[if_neg (by omega),if_pos h0,cm,List.getD_eq_getElem?_getD,List.getElem?_eq_getElem (by simpa using f1)];rfl
   rw[g0] at o0 e0
   rw[cm] at e0
   have he0:=fun b=>H v.args[0] (List.getElem_mem a0) f.args[1] (aN hf f1) o0 _ (hq0 b)
   simp at he0
   simp[Tryz.f84,a84,reg84,loop84,draw84,dok84,h0,q1.2,hl,b1,b2,b3,he0,e0,cm,Val.cellsL]
 all_goals omega
theorem BZ{t:Int→Val}{l:List Val}{g:Nat→Fun}{i:Nat}(h:i<l.length){xs:List Val}(hm:ci t l g 0=xs++ci t (l.drop i) g i):ci t l g 0=(xs++[eg t l[i] (g i)])++ci t (l.drop (i+1)) g (i+1):=by
 rw[hm,mn h]
 simp
set_option maxHeartbeats 8000000 in
theorem yt(hM:MapOk t h caps n Q)(v:Val)(hb:v.nodes≤1000000)(hs:aP v)(H:∀u,u∈v.args→Bc t h caps n Q u)(f:Fun)(hf:au f=true)(hok:okV exL n v f=true)(hk:4≤f.kind)(m:Mem)(hQ:Q m):
  ai C0 84 [.agg f.cells,.agg v.cells,.fn h caps] m=some (.ret (.agg (eg t v f).cells),m):=by
 have hs':=hs
 rw[bj] at hs'
 rw[nJ,Bool.and_eq_true,Bool.and_eq_true] at hok
 obtain⟨⟨hh,_⟩,hokl⟩:=hok
 have hlen:=v.length_args
 obtain⟨hd1,hd2,hd3⟩:=eT hh
 have hfl:f.args.length=1:=by have:=ba hf;omega
 have hk7:f.kind≤7:=by have:=ba hf;omega
 have f0:0<f.args.length:=by omega
 have b1:=Fun.at_cellsL f.args 0 f0
 simp at b1
 have hg:∀j,aB f v.num j=f.args[0]:=fun j=>by
  unfold aB
  rw[if_neg (by omega),if_neg (by omega),List.getD_eq_getElem?_getD,List.getElem?_eq_getElem f0]
  rfl
 have k4:¬f.kind=0∧¬f.kind=1∧¬f.kind=2∧¬f.kind=3:=by omega
 have hfin:=hM.cl m hQ
 have hcl:∀b r,closed (m.bx.length+b) (m.rw.length+r) (.fn h caps)=true:=fun b r=>fS (by omega) (by omega) _ hfin
 have hcl0:∀b,closed (m.bx.length+b) m.rw.length (.fn h caps)=true:=fun b=>fS (by omega) (by omega) _ hfin
 have hmn:=mX hM.sm v.args (aB f v.num) 0 hs'.2 (by have:=v.nodes_eq;omega)
 have hml:=ju t v.args (aB f v.num) 0
 have hvn:=v.nodes_eq
 rw[wJ,if_neg k4.1,if_neg k4.2.1,if_neg k4.2.2.1,if_neg k4.2.2.2]
 rw[ab C0 (aj _ (by decide)) (by rw[ay];exact Tryz.func84) rfl (by rw[ae];rfl) (by rw[ae];rfl) (by decide) (by simp[Tryz.f84])]
 simp[Tryz.f84,a84,reg84,loop84,draw84,dok84,k4]
 refine aC (fun x:Nat×List Val=>⟨[(2,.fn h caps),(3,.ptr m.bx.length 0),(4,.ptr (m.bx.length+1) 0),(6,.ptr (m.bx.length+2) 0),(7,.ptr (m.bx.length+3) 0),(66,.isl false v.args.length (Val.cellsL v.args)),(67,.int .i64 v.args.length),(68,.int .i64 x.1)],
   ⟨m.bx++[f.cells,v.cells,[.int .i64 0,.nils,.nils],[.int .i64 0,xA m.rw.length x.2,.nils]],m.rw++xR x.2⟩⟩)
  (fun x=>some (.ret (.agg (if f.kind=4 then Val.mk 0 (ci t v.args (aB f v.num) 0) [] else aW f.kind 0 (ci t v.args (aB f v.num) 0) v.ws).cells),m)) (fun x=>v.args.length-x.1)
  (fun x=>x.1≤v.args.length∧x.2.length=x.1∧ci t v.args (aB f v.num) 0=x.2++ci t (v.args.drop x.1) (aB f v.num) x.1) (0,[]) ?_ ?_ ?_ ?_ ?_
 ·simp[xA,xR]
 ·simp
 ·simp
 ·intro x;simp[Tryz.f84,a84,reg84,loop84,draw84,dok84]
 ·rintro⟨i,xs⟩ ⟨hi,hxl,hml2⟩ hrec
  simp only at hi hxl hml2⊢
  by_cases hlt:i<v.args.length
  ·have w2:IntKind.i64.wrap (i+1)=i+1:=al _ (by omega)
   have h3:(i+1)*3≤v.args.length*3:=by omega
   have o0:=d7 hokl i hlt
   rw[Nat.zero_add,hg] at o0
   have hnx:=BZ hlt hml2
   rw[hg] at hnx
   have he:=fun(b:List (List A)) (r:List Row)=>H v.args[i] (List.getElem_mem hlt) f.args[0] (aN hf f0) o0 _ (hM.up m b r hQ)
   have he0:=fun(b:List (List A))=>H v.args[i] (List.getElem_mem hlt) f.args[0] (aN hf f0) o0 ⟨m.bx++b,m.rw⟩ (by have:=hM.up m b [] hQ;rwa [List.append_nil] at this)
   simp at he he0
   cases xs with
   |nil=>
    have hi0:i=0:=by simpa using hxl.symm
    subst hi0
    have b3:=Val.at_cellsL v.args 0 hlt
    simp at b3
    simp[round,Tryz.f84,a84,reg84,loop84,draw84,dok84,hlt,w2,h3,hfl,show 3≤v.args.length*3 by omega,b1,b3,he,he0,xA,xR,aF,aD,dQ,hcl,hcl0]
    refine hrec (1,[eg t v.args[0] f.args[0]]) _ _ ?_ ?_ ?_ ?_
    ·simp;omega
    ·exact⟨by simp only;omega,rfl,by rw[hnx];rfl⟩
    ·simp[xA,xR,Val.cellsL,hfl]
    ·simp
   |cons a r=>
    have hr:r.length+1=i:=by simpa using hxl
    simp[round,Tryz.f84,a84,reg84,loop84,draw84,dok84,hlt,w2,h3,hfl,b1,he,he0,xA,xR,aF,aD,aK,hcl,hcl0,show(r.length+1+1)*56≤70368744177664 by omega,show r.length+1+1≤70368744177664 by omega]
    refine hrec (i+1,a::r++[eg t v.args[i] f.args[0]]) _ _ ?_ ?_ ?_ ?_
    ·simp;omega
    ·exact⟨by simp only;omega,by simp;omega,by rw[hnx]⟩
    ·simp[xA,xR,Val.cellsL,Val.cellsL_append,hfl]
    ·simp
  ·clear hrec
   have hie:i=v.args.length:=by omega
   subst hie
   rw[List.drop_eq_nil_of_le (Nat.le_refl _),ci,List.append_nil] at hml2
   rw[hml2] at hmn hml⊢
   by_cases h4:f.kind=4
   ·by_cases hx0:xs.length=0
    ·have hxe:xs=[]:=List.eq_nil_of_length_eq_zero hx0
     subst hxe
     simp[round,Tryz.f84,a84,reg84,loop84,draw84,dok84,h4,xA,xR]
    ·have hxe:¬xs=[]:=fun h=>hx0 (by rw[h];rfl)
     have hall:List.take (xs.length*3) (Val.cellsL xs)=Val.cellsL xs:=List.take_of_length_le (by simp)
     simp[round,Tryz.f84,a84,reg84,loop84,draw84,dok84,h4,xA,xR,hx0,hxe,hall]
   ·have hset:bc f.kind=true:=by unfold bc wtd;simp;omega
    have hss:=(fO hset).1 hh
    have hwk3:wtd f.kind=true→v.ws.length=xs.length∧(∀w,w∈v.ws→1≤w)∧v.ws.sum≤1048576:=fun h=>by
     rw[if_pos h] at hss
     have h2:=(ee v.ws 0 (by omega)).1 hss.2.1
     exact⟨by omega,h2.1,by omega⟩
    by_cases hx0:xs.length=0
    ·have hxe:xs=[]:=List.eq_nil_of_length_eq_zero hx0
     subst hxe
     have hwe:v.ws=[]:=by
      cases h:wtd f.kind
      ·exact hd2 h
      ·exact List.eq_nil_of_length_eq_zero (by rw[(hwk3 h).1];rfl)
     have h7:f.kind≠7:=fun h=>by
      have hw7:wtd f.kind=true:=by rw[h];rfl
      rw[if_pos hw7] at hss
      have:=hss.2.2.2
      have h8:=hml
      simp at h8
      omega
     have he0:=yY f hset h7
     simp at he0
     have hmv:aW f.kind 0 [] v.ws= .mk 0 [] []:=by
      unfold aW aE
      rw[hwe]
      have h56:f.kind=5∨f.kind=6:=by omega
      rcases h56 with h|h<;>rw[h]<;>rfl
     simp[hmv,h4]
     simp[round,Tryz.f84,a84,reg84,loop84,draw84,dok84,h4,xA,xR,he0,hwe]
    ·have hxe:¬xs=[]:=fun h=>hx0 (by rw[h];rfl)
     have he:=AS f xs v.ws m.rw.length (by omega) hset (fun x hx=>⟨by have:=Val.nodes_mem hx;omega,cq hmn.2 hx⟩) (by omega) hwk3 ⟨m.bx++[f.cells,v.cells,[.int .i64 0,.nils,.nils],[.int .i64 0,.sl m.rw.length (xs.length*3) 0 xs.length,.isl false v.ws.length (az v.ws)]],m.rw++xR xs⟩ (by simp[xR,hxe])
     simp at he
     simp[round,Tryz.f84,a84,reg84,loop84,draw84,dok84,h4,xA,hxe,he]
theorem Ci(hM:MapOk t h caps n Q)(N:Nat):∀(v:Val),v.nodes≤N→v.nodes≤1000000→aP v→Bc t h caps n Q v:=by
 induction N with
 |zero=>intro v hN;have:=v.nodes_pos;omega
 |succ N ih=>
 intro v hN hb hs f hf hok m hQ
 have hs':=(bj v▸hs).2
 have H:∀u,u∈v.args→Bc t h caps n Q u:=fun u hu=>ih u (by have:=Val.nodes_arg hu;omega) (by have:=Val.nodes_arg hu;omega) (cq hs' hu)
 by_cases hk:f.kind≤3
 ·exact vz hM v H f hf hok hk m hQ
 ·exact yt hM v hb hs H f hf hok (by omega) m hQ
end
def wt{α:Type}(p:α→Bool):List α→Int→Int
 |[],_=> -1
 |a::r,i=>if p a then i else wt p r (i+1)
theorem xH{α:Type}(p:α→Bool):∀(l:List α) (i:Int),0≤i→decide (0≤wt p l i)=l.any p
 |[],i,_=>rfl
 |a::r,i,h=>by
  rw[wt,List.any_cons]
  split
  ·rename_i hp;simp[hp,h]
  ·rename_i hp;rw[xH p r (i+1) (by omega)];simp[hp]
theorem C6{α:Type}{p:α→Bool}{l:List α}{i:Nat}(h:i<l.length):wt p (l.drop i) i=if p l[i] then(i:Int) else wt p (l.drop (i+1)) ((i+1:Nat):Int):=by
 rw[List.drop_eq_getElem_cons h,wt]
 rfl
section
variable {g:FuncId} {caps:List A}
set_option maxHeartbeats 2000000 in
theorem Cr(p:Val→Bool)(l:List Val)(fl:Bool)(hl:l.length≤1000000000)(m:Mem)(hcl:closed m.bx.length m.rw.length (.fn g caps)=true)(hp:∀u,u∈l→ai C0 g (.agg u.cells::caps) m=some (.ret (.bool (p u)),m)):
  ai C0 210 [.isl fl l.length (Val.cellsL l),.fn g caps] m=some (.ret (.int .i64 (wt p l 0)),m):=by
 rw[ab C0 (aj _ (by decide)) (by rw[ay];exact Tryz.func210) rfl (by rw[ae];rfl) (by rw[ae];rfl) (by decide) (by simp[Tryz.f210])]
 simp[Tryz.f210,a210,reg210,loop210]
 refine aC (fun i:Nat=>⟨[(0,.isl fl l.length (Val.cellsL l)),(1,.fn g caps),(7,.int .i64 l.length),(8,.int .i64 i)],m⟩)
  (fun i=>some (.ret (.int .i64 (wt p (l.drop i) i)),m)) (fun i=>l.length-i) (fun i=>i≤l.length) 0 ?_ ?_ ?_ ?_ ?_
 ·simp
 ·simp
 ·simp
 ·intro x;simp[Tryz.f210,a210,reg210,loop210]
 ·intro i hi hrec
  by_cases hlt:i<l.length
  ·have w2:IntKind.i64.wrap (i+1)=i+1:=al _ (by omega)
   have h3:(i+1)*3≤l.length*3:=by omega
   have he:=hp l[i] (List.getElem_mem hlt)
   simp at he
   rw[C6 hlt]
   cases hc:p l[i]
   ·simp[hc] at he
    simp[round,Tryz.f210,a210,reg210,loop210,hlt,w2,h3,he,aA,hcl]
    refine hrec (i+1) _ _ ?_ ?_ ?_ ?_
    ·omega
    ·omega
    ·simp
    ·simp
   ·simp[hc] at he
    simp[round,Tryz.f210,a210,reg210,loop210,hlt,w2,h3,he]
  ·clear hrec
   rw[List.drop_eq_nil_of_le (by omega),wt]
   simp[round,Tryz.f210,a210,reg210,loop210,hlt]
theorem wN(p:Val→Bool)(l:List Val)(fl:Bool)(hl:l.length≤1000000000)(m:Mem)(hcl:closed m.bx.length m.rw.length (.fn g caps)=true)(hp:∀u,u∈l→ai C0 g (.agg u.cells::caps) m=some (.ret (.bool (p u)),m)):
  ai C0 183 [.isl fl l.length (Val.cellsL l),.fn g caps] m=some (.ret (.bool (l.any p)),m):=by
 rw[ab C0 (aj _ (by decide)) (by rw[ay];exact Tryz.func183) rfl (by rw[ae];rfl) (by rw[ae];rfl) (by decide) (by simp[Tryz.f183])]
 have he:=Cr p l fl hl m hcl hp
 have h1:=xH p l 0 (by omega)
 simp[Tryz.f183,a183,reg183,he,h1]
end
theorem vw{c:Fun}:∀{l:List Val} {g:Nat→Fun} {i:Nat},(∀j,g j=c)→fT l g i=l.any fun u=>eo u c
 |[],g,i,_=>by rw[fT];rfl
 |v::r,g,i,h=>by rw[fT,h i,vw h,List.any_cons]
theorem Da(ex:Fun→List Val→List Int→Bool)(n:Int)(N:Nat):∀(v:Val),v.nodes≤N→v.nodes≤1000000→∀(f:Fun),au f=true→okV ex n v f=true→∀(m:Mem),ai C0 151 [.agg f.cells,.agg v.cells] m=some (.ret (.bool (!eo v f)),m):=by
 induction N with
 |zero=>intro v hN;have:=v.nodes_pos;omega
 |succ N ih=>
 intro v hN hb f hf hok m
 have hlen:=v.length_args
 rw[nJ,Bool.and_eq_true,Bool.and_eq_true] at hok
 obtain⟨⟨hh,_⟩,hokl⟩:=hok
 obtain⟨hd1,hd2,hd3⟩:=eT hh
 have hh':=hh
 unfold bn at hh'
 simp only[Bool.and_eq_true] at hh'
 obtain⟨⟨q1,q2⟩,q3⟩:=hh'
 have key:∀(k:4≤f.kind) (hl:f.args.length=1),ai C0 151 [.agg f.cells,.agg v.cells] m=some (.ret (.bool (!eo v f)),m):=fun k hl=>by
  have f0:0<f.args.length:=by omega
  have b1:=Fun.at_cellsL f.args 0 f0
  simp at b1
  have hg:∀j,aB f v.num j=f.args[0]:=fun j=>by
   unfold aB
   rw[if_neg (by omega),if_neg (by omega),List.getD_eq_getElem?_getD,List.getElem?_eq_getElem f0]
   rfl
  have hset:bc f.kind=false→v.args.length≤100:=fun h=>by
   have h4:f.kind=4:=by
    have:=ba hf
    unfold bc wtd at h
    simp at h
    omega
   simp[h4] at q1
   have:=dZ hf
   omega
  have hwd:eo v f=(decide (100<v.args.length)||v.args.any fun u=>eo u f.args[0]):=by
   rw[kf,vw hg]
   cases hs:bc f.kind
   ·have:=hset hs
    simp[show ¬100<v.args.length by omega]
   ·simp
  have hcf:∀(M:Mem) (k:Nat),M.bx[k]? =some f.cells→ai C0 183 [.isl false v.args.length (Val.cellsL v.args),.fn 184 [.ptr k 0]] M=some (.ret (.bool (v.args.any fun u=>eo u f.args[0])),M):=fun M k hMk=>by
   have hk1:k<M.bx.length:=(List.getElem?_eq_some_iff.1 hMk).1
   have hk2:=(List.getElem?_eq_some_iff.1 hMk).2
   refine wN _ _ _ (by omega) _ (by simp[hk1]) fun u hu=> ?_
   have hm:=Val.nodes_arg hu
   obtain⟨j,hj,rfl⟩:=List.getElem_of_mem hu
   have o0:=d7 hokl j hj
   rw[hg] at o0
   have he:=ih v.args[j] (by omega) (by omega) f.args[0] (aN hf f0) o0
   simp at he
   rw[ab C0 (aj _ (by decide)) (by rw[ay];exact Tryz.func184) rfl (by rw[ae];rfl) (by rw[ae];rfl) (by decide) (by simp[Tryz.f184])]
   simp[Tryz.f184,a184,reg184,draw184,dok184,ah,hk1,hk2,b1,he,hl]
  rw[hwd]
  have hcf1:=hcf ⟨m.bx++[f.cells,v.cells],m.rw⟩ m.bx.length (by simp)
  simp at hcf1
  rw[ab C0 (aj _ (by decide)) (by rw[ay];exact Tryz.func151) rfl (by rw[ae];rfl) (by rw[ae];rfl) (by decide) (by simp[Tryz.f151])]
  have k4:¬f.kind=0∧¬f.kind=1∧¬f.kind=2∧¬f.kind=3:=by omega
  by_cases hc:v.args.length≤100
  ·simp[Tryz.f151,a151,reg151,draw151,dok151,k4,show(v.args.length:Int)≤100 by omega,hcf1,show ¬100<v.args.length by omega]
  ·simp[Tryz.f151,a151,reg151,draw151,dok151,k4,show ¬(v.args.length:Int)≤100 by omega,show 100<v.args.length by omega]
 rcases ba hf with⟨h0,hl⟩|⟨h0,hl⟩|⟨h0,hl⟩|⟨h0,hl⟩|⟨h0,hl⟩|⟨h0,hl⟩|⟨h0,hl⟩|⟨h0,hl⟩
 ·have:v.args=[]:=List.eq_nil_of_length_eq_zero (hd3 (.inl h0))
  rw[ab C0 (aj _ (by decide)) (by rw[ay];exact Tryz.func151) rfl (by rw[ae];rfl) (by rw[ae];rfl) (by decide) (by simp[Tryz.f151])]
  rw[kf,this,fT]
  simp[Tryz.f151,a151,reg151,draw151,dok151,h0,bc,wtd]
 ·have:v.args=[]:=List.eq_nil_of_length_eq_zero (hd3 (.inr h0))
  rw[ab C0 (aj _ (by decide)) (by rw[ay];exact Tryz.func151) rfl (by rw[ae];rfl) (by rw[ae];rfl) (by decide) (by simp[Tryz.f151])]
  rw[kf,this,fT]
  simp[Tryz.f151,a151,reg151,draw151,dok151,h0,bc,wtd]
 ·simp[h0,hl] at q1
  have a0:0<v.args.length:=by omega
  have a1:1<v.args.length:=by omega
  have f0:0<f.args.length:=by omega
  have f1:1<f.args.length:=by omega
  have g0:aB f v.num 0=f.args[0]:=by unfold aB;rw[if_pos h0,List.getD_eq_getElem?_getD,List.getElem?_eq_getElem f0];rfl
  have g1:aB f v.num 1=f.args[1]:=by unfold aB;rw[if_pos h0,List.getD_eq_getElem?_getD,List.getElem?_eq_getElem f1];rfl
  have b1:=Fun.at_cellsL f.args 0 f0
  have b2:=Fun.at_cellsL f.args 1 f1
  have b3:=Val.at_cellsL v.args 0 a0
  have b4:=Val.at_cellsL v.args 1 a1
  simp at b1 b2 b3 b4
  have o0:=d7 hokl 0 a0
  have o1:=d7 hokl 1 a1
  rw[Nat.zero_add] at o0 o1
  rw[g0] at o0
  rw[g1] at o1
  have m0:=Val.nodes_arg (List.getElem_mem a0)
  have m1:=Val.nodes_arg (List.getElem_mem a1)
  have he0:=ih v.args[0] (by omega) (by omega) f.args[0] (aN hf f0) o0
  have he1:=ih v.args[1] (by omega) (by omega) f.args[1] (aN hf f1) o1
  simp at he0 he1
  have hw:eo v f=(eo v.args[0] f.args[0]||eo v.args[1] f.args[1]):=by
   have e0:=km a0 (aB f v.num)
   have e1:=km a1 (aB f v.num)
   rw[List.drop_zero] at e0
   rw[kf,e0,e1,g0,g1,List.drop_eq_nil_of_le (by omega),fT]
   simp[h0,bc,wtd]
  rw[hw]
  rw[ab C0 (aj _ (by decide)) (by rw[ay];exact Tryz.func151) rfl (by rw[ae];rfl) (by rw[ae];rfl) (by decide) (by simp[Tryz.f151])]
  cases hc:eo v.args[0] f.args[0]
  ·simp[hc] at he0
   simp[Tryz.f151,a151,reg151,draw151,dok151,h0,←q1,hl,b1,b2,b3,b4,he0,he1]
  ·simp[hc] at he0
   simp[Tryz.f151,a151,reg151,draw151,dok151,h0,←q1,hl,b1,b2,b3,b4,he0,he1]
 ·simp[h0] at q1
  have a0:0<v.args.length:=by omega
  have f0:0<f.args.length:=by omega
  have f1:1<f.args.length:=by omega
  have b1:=Fun.at_cellsL f.args 0 f0
  have b2:=Fun.at_cellsL f.args 1 f1
  have b3:=Val.at_cellsL v.args 0 a0
  simp at b1 b2 b3
  have o0:=d7 hokl 0 a0
  rw[Nat.zero_add] at o0
  have m0:=Val.nodes_arg (List.getElem_mem a0)
  have e0:=km a0 (aB f v.num)
  rw[List.drop_zero,List.drop_eq_nil_of_le (by omega),fT,Bool.or_false] at e0
  rw[kf,e0]
  by_cases cn:v.num=0
  ·have g0:aB f v.num 0=f.args[0]:=by unfold aB;rw[if_neg (by omega),if_pos h0,cn,List.getD_eq_getElem?_getD,List.getElem?_eq_getElem (by simpa using f0)];rfl
   rw[g0] at o0⊢
   have he0:=ih v.args[0] (by omega) (by omega) f.args[0] (aN hf f0) o0
   simp at he0
   rw[ab C0 (aj _ (by decide)) (by rw[ay];exact Tryz.func151) rfl (by rw[ae];rfl) (by rw[ae];rfl) (by decide) (by simp[Tryz.f151])]
   simp[Tryz.f151,a151,reg151,draw151,dok151,h0,q1.2,hl,b1,b2,b3,he0,cn,bc,wtd]
  ·have cm:v.num=1:=by omega
   have g0:aB f v.num 0=f.args[1]:=by unfold aB;rw[if_neg (by omega),if_pos h0,cm,List.getD_eq_getElem?_getD,List.getElem?_eq_getElem (by simpa using f1)];rfl
   rw[g0] at o0⊢
   have he0:=ih v.args[0] (by omega) (by omega) f.args[1] (aN hf f1) o0
   simp at he0
   rw[ab C0 (aj _ (by decide)) (by rw[ay];exact Tryz.func151) rfl (by rw[ae];rfl) (by rw[ae];rfl) (by decide) (by simp[Tryz.f151])]
   simp[Tryz.f151,a151,reg151,draw151,dok151,h0,q1.2,hl,b1,b2,b3,he0,cm,bc,wtd]
 ·exact key (by omega) hl
 ·exact key (by omega) hl
 ·exact key (by omega) hl
 ·exact key (by omega) hl
theorem DI(n:Int):MapOk idV 150 [] n (fun _=>True) where
 ev x _ _ m _:=by
  rw[ab C0 (aj _ (by decide)) (by rw[ay];exact Tryz.func150) rfl (by rw[ae];rfl) (by rw[ae];rfl) (by decide) (by simp[Tryz.f150])]
  simp[Tryz.f150,a150,reg150,idV]
 up _ _ _ _:=trivial
 cl m _:=by simp
 sm x:=by rw[Val.nodes_eq,bj];simp[idV,Val.nodesL,bS]
theorem AN(f:Fun)(n:Int)(v:Val)(hf:au f=true)(hb:v.nodes≤1000000)(hs:aP v)(m:Mem):ai C0 108 [.agg f.cells,.int .i64 n,.agg v.cells] m=some (.ret (.tup [.agg (bw f n v).1.cells,.int .i64 (bw f n v).2]),m):=by
 have he:=um (m.bx.length+3) n true v.nodes v (Nat.le_refl _) (by omega) hs f hf 2000 ⟨m.bx++[f.cells,v.cells,[.int .i64 0,.nils,.nils],[.int .i64 n,.int .i64 2000,.bool true]],m.rw⟩ (by omega) (by omega) (by simp)
 rw[show fa true=exL from rfl] at he
 have hspec:=(iJ exL n v f 2000 (by omega)).1
 rw[ab C0 (aj _ (by decide)) (by rw[ay];exact Tryz.func108) rfl (by rw[ae];rfl) (by rw[ae];rfl) (by decide) (by simp[Tryz.f108])]
 simp at he
 cases hc:(cB exL n v f 2000).1
 ·simp[hc] at he
  have hr:bw f n v=(bO,20):=by
   unfold bw
   split
   ·rename_i hn
    have:okV exL n v f=false:=by
     rw[Bool.eq_false_iff]
     intro h
     have:=hspec.2 ⟨by omega,h⟩
     rw[hc] at this
     cases this
    rw[tX n v f this]
   ·rfl
  rw[hr]
  simp[Tryz.f108,a108,reg108,he,bO]
 ·simp[hc] at he
  have h1:=hspec.1 hc
  have hnm:=sD n v f hf h1.2
  have hok:=rj n v f _ hnm
  have hmn:=vd (t:=idV) (DI n).sm v f hs (by omega)
  have hmp:=Ci (DI n) v.nodes v (Nat.le_refl _) hb hs f hf h1.2
  have hnr:=Da exN n _ (eg idV v f) (Nat.le_refl _) (by omega) f hf hok
  have hr:bw f n v=if eo (eg idV v f) f then(bO,2) else(eg idV v f,0):=by
   unfold bw
   rw[if_pos (by omega),hnm]
  rw[hr]
  simp at hmp hnr
  cases hw:eo (eg idV v f) f
  ·simp[hw] at hnr
   simp[Tryz.f108,a108,reg108,he,hmp,hnr]
  ·simp[hw] at hnr
   simp[Tryz.f108,a108,reg108,he,hmp,hnr,bO]
theorem qk{f:Fun}{n:Int}{v:Val}(hs:aP v)(hb:v.nodes≤1000000000):(bw f n v).1.nodes≤v.nodes∧aP (bw f n v).1:=by
 have hz:bO.nodes≤v.nodes∧aP bO:=by
  have:=v.nodes_pos
  rw[Val.nodes_eq,bj]
  simp[bO,Val.nodesL,bS]
  omega
 unfold bw
 split
 ·cases h:ez n v f with
  |none=>exact hz
  |some y=>
   simp only
   split
   ·exact hz
   ·exact kk n v f y hs hb h
 ·exact hz
mutual
theorem xL{ex:Fun→List Val→List Int→Bool}(n:Int):∀(v:Val) (f:Fun),okV ex n v f=true→okV exL n v f=true
 | .mk k l w,f,h=>by
   rw[okV,Bool.and_eq_true,Bool.and_eq_true] at h⊢
   exact⟨⟨h.1.1,rfl⟩,t7 n l _ 0 h.2⟩
theorem t7{ex:Fun→List Val→List Int→Bool}(n:Int):∀(l:List Val) (g:Nat→Fun) (i:Nat),okL ex n l g i=true→okL exL n l g i=true
 |[],g,i,h=>by rw[okL]
 |v::r,g,i,h=>by
  rw[okL,Bool.and_eq_true] at h⊢
  exact⟨xL n v _ h.1,t7 n r _ _ h.2⟩
end
def bR:List (List UInt8)→List UInt8
 |[]=>[]
 |[t]=>t
 |t::u::r=>t++([44,32]++bR (u::r))
def wtx:List (List UInt8)→List Int→List (List UInt8)
 |t::r,w::q=>(t++([32,58,32]++Lib.itoa w))::wtx r q
 |l,_=>l
def de(kind:Int)(ts:List (List UInt8))(ws:List Int):List (List UInt8):=if 6≤kind then wtx ts ws else ts
def cj(kind k:Int)(ts:List (List UInt8))(ws:List Int):List UInt8:=
 if kind=2 then 40::(bR ts++[41]) else if kind=3 then(if k=0 then [108,32] else [114,32])++ts.headD [] else if kind=4 then 91::(bR ts++[93]) else 123::(bR (de kind ts ws)++[125])
mutual
def dL:Val→Fun→List UInt8
 | .mk k l w,f=>if f.kind=0∨f.kind=1 then Lib.itoa k else cj f.kind k (cK l (aB f k) 0) w
def cK:List Val→(Nat→Fun)→Nat→List (List UInt8)
 |[],_,_=>[]
 |v::r,g,i=>dL v (g i)::cK r g (i+1)
end
theorem oH(v:Val)(f:Fun):dL v f=if f.kind=0∨f.kind=1 then Lib.itoa v.num else cj f.kind v.num (cK v.args (aB f v.num) 0) v.ws:=by cases v;rw[dL];rfl
theorem d8:∀(l:List Val) (g:Nat→Fun) (i:Nat),(cK l g i).length=l.length
 |[],g,i=>by rw[cK];rfl
 |v::r,g,i=>by rw[cK,List.length_cons,List.length_cons,d8 r g (i+1)]
theorem kc:∀(l:List Val) (g:Nat→Fun) (i j:Nat) (h:j<l.length),(cK l g i)[j]'(by rw[d8];exact h)=dL l[j] (g (i+j))
 |v::r,g,i,0,h=>by simp only[cK];rfl
 |v::r,g,i,j+1,h=>by
  have:=kc r g (i+1) j (by simpa using h)
  simp only[cK,List.getElem_cons_succ]
  rw[this]
  congr 2
  omega
theorem nf:∀(l:List (List UInt8)) (t:List UInt8),l≠[]→bR (l++[t])=bR l++([44,32]++t)
 |[a],t,_=>rfl
 |a::b::r,t,_=>by
  have:=nf (b::r) t (by simp)
  simp only[List.cons_append,bR] at this⊢
  rw[this]
  simp
theorem ji:∀(ts:List (List UInt8)) (ws:List Int),(wtx ts ws).length=ts.length
 |[],ws=>by rw[wtx];intro t r w q h;cases h
 |t::r,[]=>by rw[wtx];intro t r w q _ h;cases h
 |t::r,w::q=>by rw[wtx,List.length_cons,List.length_cons,ji r q]
theorem AG:∀(ts:List (List UInt8)) (ws:List Int) (i:Nat) (h:i<ts.length) (h':i<ws.length),(wtx ts ws)[i]'(by rw[ji];exact h)=ts[i]++([32,58,32]++Lib.itoa ws[i])
 |t::r,w::q,0,_,_=>by simp only[wtx];rfl
 |t::r,w::q,i+1,h,h'=>by
  have:=AG r q i (by simpa using h) (by simpa using h')
  simp only[wtx,List.getElem_cons_succ]
  exact this
theorem wE:∀(k u:Nat),u<10 ^ (k+1)→(Lib.decDigits u).length≤k+1
 |0,u,h=>by rw[Lib.decDigits,dif_pos (by simpa using h)];simp
 |k+1,u,h=>by
  rw[Lib.decDigits]
  split
  ·simp
  ·rw[List.length_append]
   have:=wE k (u / 10) (by rw[Nat.pow_succ] at h;omega)
   simp
   omega
theorem je{n:Int}(h0:0≤n)(h1:n<10000000):(Lib.itoa n).length≤7:=by
 unfold Lib.itoa
 rw[if_neg (by omega)]
 exact wE 6 n.toNat (by omega)
def cy(l:List (List UInt8)):Nat:=(l.map List.length).sum
theorem iM:∀l:List (List UInt8),(bR l).length≤cy l+2*l.length
 |[]=>by simp[bR]
 |[t]=>by simp[bR,cy]
 |t::u::r=>by
  have:=iM (u::r)
  simp only[bR,cy,List.length_append,List.map_cons,List.sum_cons,List.length_cons,List.length_nil] at this⊢
  omega
theorem gk{l:List (List UInt8)}{t:List UInt8}(h:t∈l):t.length≤cy l:=by
 induction l with
 |nil=>cases h
 |cons a r ih=>
  unfold cy at*
  simp only[List.map_cons,List.sum_cons]
  rcases List.mem_cons.1 h with rfl|h
  ·omega
  ·have:=ih h;omega
theorem rW(l:List (List UInt8))(i:Nat):(bR (l.take i)).length≤cy l+2*l.length:=by
 have h1:=iM (l.take i)
 have h2:cy (l.take i)≤cy l:=by
  unfold cy
  have h3:(l.map List.length).sum=((l.take i).map List.length).sum+((l.drop i).map List.length).sum:=by
   rw[←List.sum_append,←List.map_append,List.take_append_drop]
  omega
 have h4:(l.take i).length≤l.length:=List.length_take_le' i l
 omega
theorem q8:∀(ts:List (List UInt8)) (ws:List Int),(∀w,w∈ws→0≤w∧w<10000000)→cy (wtx ts ws)≤cy ts+10*ts.length
 |[],ws,_=>by rw[wtx];· simp[cy]
              ·intro t r w q h;cases h
 |t::r,[],_=>by rw[wtx];· omega
                ·intro t r w q _ h;cases h
 |t::r,w::q,h=>by
  have:=q8 r q fun x hx=>h x (List.mem_cons_of_mem _ hx)
  have hw:=h w List.mem_cons_self
  have:=je hw.1 hw.2
  rw[wtx]
  unfold cy at*
  simp only[List.map_cons,List.sum_cons,List.length_append,List.length_cons,List.length_nil] at*
  omega
theorem qp:∀{o:List Int} {q:Int},(∀p,p∈o→1≤p)→q∈o→q≤o.sum
 |p::r,q,h,hq=>by
  have h1:=lW fun q hq=>h q (List.mem_cons_of_mem p hq)
  have h2:=h p List.mem_cons_self
  simp only[List.sum_cons]
  rcases List.mem_cons.1 hq with rfl|hq
  ·omega
  ·have:=qp (fun q hq=>h q (List.mem_cons_of_mem p hq)) hq
   omega
theorem v8{n:Int}{f:Fun}{k:Int}{m:Nat}{w:List Int}(h:bn n f k m w=true):(∀x,x∈w→1≤x∧x≤1048576)∧(wtd f.kind=true→w.length=m):=by
 have h2:=(eT h).2.1
 unfold bn at h
 simp only[Bool.and_eq_true] at h
 obtain⟨_,h3⟩:=h
 cases hw:wtd f.kind
 ·rw[h2 hw]
  exact⟨fun x hx=>(List.not_mem_nil hx).elim,fun h=>Bool.noConfusion h⟩
 ·rw[hw,if_pos rfl] at h3
  simp only[Bool.and_eq_true,decide_eq_true_eq] at h3
  have h4:=(ee w 0 (by omega)).1 h3.1.1
  exact⟨fun x hx=>⟨h4.1 x hx,by have:=qp h4.1 hx;omega⟩,fun _=>h3.1.2⟩
theorem ng{n:Int}{f:Fun}{k:Int}{m:Nat}{w:List Int}(hf:au f=true)(hn:n≤1000000)(h:bn n f k m w=true):0≤k∧k<10000000∧k≤(if f.kind=0 then n-1 else if f.kind=1 then f.num-1 else if f.kind=3 then 1 else 0):=by
 unfold bn at h
 simp only[Bool.and_eq_true,decide_eq_true_eq] at h
 obtain⟨⟨_,h2⟩,_⟩:=h
 have:=dZ hf
 refine⟨h2.1, ?_,h2.2⟩
 have h3:=h2.2
 split at h3
 ·omega
 split at h3
 ·omega
 split at h3<;>omega
mutual
theorem gI{ex:Fun→List Val→List Int→Bool}{n:Int}(hn:n≤1000000):∀(v:Val) (f:Fun),au f=true→okV ex n v f=true→(dL v f).length+14≤30*v.nodes
 | .mk k l w,f,hf,h=>by
   rw[okV,Bool.and_eq_true,Bool.and_eq_true] at h
   obtain⟨⟨hh,_⟩,hl⟩:=h
   have hr:=ng hf hn hh
   have hw:=v8 hh
   rw[dL]
   split
   ·have:=je hr.1 hr.2.1
    have:=Val.nodes_pos (.mk k l w)
    omega
   ·rename_i h01
    have hs:=eR hf (fun e=>h01 (.inl e)) (fun e=>h01 (.inr e)) hh
    have ih:=mF hn l (aB f k) 0 hs hl
    have hln:=d8 l (aB f k) 0
    have h1:=iM (cK l (aB f k) 0)
    have h2:=iM (de f.kind (cK l (aB f k) 0) w)
    have h3:cy (de f.kind (cK l (aB f k) 0) w)≤cy (cK l (aB f k) 0)+10*(cK l (aB f k) 0).length∧(de f.kind (cK l (aB f k) 0) w).length=(cK l (aB f k) 0).length:=by
     unfold de
     split
     ·exact⟨q8 _ _ fun x hx=>by have:=hw.1 x hx;omega,ji _ _⟩
     ·exact⟨by omega,rfl⟩
    rw[Val.nodes_eq]
    simp only[Val.args_mk]
    unfold cj
    split
    ·simp;omega
    split
    ·have h4:((cK l (aB f k) 0).headD []).length≤cy (cK l (aB f k) 0):=by
      cases cK l (aB f k) 0 with
      |nil=>simp
      |cons a r=>simp[cy]
     split<;>(simp only[List.length_append,List.length_cons,List.length_nil];omega)
    split
    ·simp;omega
    ·simp;omega
theorem mF{ex:Fun→List Val→List Int→Bool}{n:Int}(hn:n≤1000000):∀(l:List Val) (g:Nat→Fun) (i:Nat),(∀j,j<l.length→au (g (i+j))=true)→okL ex n l g i=true→cy (cK l g i)+14*l.length≤30*Val.nodesL l
 |[],g,i,_,_=>by rw[cK];simp[cy]
 |v::r,g,i,hs,h=>by
  rw[okL,Bool.and_eq_true] at h
  have a:=gI hn v (g i) (hs 0 (by simp)) h.1
  have b:=mF hn r g (i+1) (fun j hj=>by have:=hs (j+1) (by simpa using hj);rwa [show i+(j+1)=i+1+j by omega] at this) h.2
  rw[cK,Val.nodesL]
  unfold cy at*
  simp only[List.map_cons,List.sum_cons,List.length_cons]
  omega
end
def vF(ex:Fun→List Val→List Int→Bool)(n:Int)(v:Val):Prop:=∀f,au f=true→okV ex n v f=true→∀m:Mem,ai C0 50 [.agg f.cells,.agg v.cells] m=some (.ret (.str (dL v f)),m)
section
variable {ex:Fun→List Val→List Int→Bool} {n:Int}
set_option maxHeartbeats 4000000 in
theorem zU(hn:n≤1000000)(v:Val)(hb:v.nodes≤1000000)(H:∀u,u∈v.args→vF ex n u)(f:Fun)(hf:au f=true)(hok:okV ex n v f=true)(hk:f.kind≤3)(m:Mem):
  ai C0 50 [.agg f.cells,.agg v.cells] m=some (.ret (.str (dL v f)),m):=by
 have hlen:=gI hn v f hf hok
 rw[nJ,Bool.and_eq_true,Bool.and_eq_true] at hok
 obtain⟨⟨hh,_⟩,hokl⟩:=hok
 have hr:=ng hf hn hh
 have hh':=hh
 unfold bn at hh'
 simp only[Bool.and_eq_true] at hh'
 obtain⟨⟨q1,q2⟩,q3⟩:=hh'
 have hin:=om v.num (by omega) (by omega)
 rw[oH] at hlen⊢
 rw[ab C0 (aj _ (by decide)) (by rw[ay];exact Tryz.func50) rfl (by rw[ae];rfl) (by rw[ae];rfl) (by decide) (by simp[Tryz.f50])]
 rcases ba hf with⟨h0,hl⟩|⟨h0,hl⟩|⟨h0,hl⟩|⟨h0,hl⟩|⟨h0,hl⟩|⟨h0,hl⟩|⟨h0,hl⟩|⟨h0,hl⟩
 ·simp[Tryz.f50,a50,reg50,loop50,draw50,dok50,h0,hin]
 ·simp[Tryz.f50,a50,reg50,loop50,draw50,dok50,h0,hin]
 ·simp[h0,hl] at q1
  have a0:0<v.args.length:=by omega
  have a1:1<v.args.length:=by omega
  have f0:0<f.args.length:=by omega
  have f1:1<f.args.length:=by omega
  have g0:aB f v.num 0=f.args[0]:=by unfold aB;rw[if_pos h0,List.getD_eq_getElem?_getD,List.getElem?_eq_getElem f0];rfl
  have g1:aB f v.num 1=f.args[1]:=by unfold aB;rw[if_pos h0,List.getD_eq_getElem?_getD,List.getElem?_eq_getElem f1];rfl
  have b1:=Fun.at_cellsL f.args 0 f0
  have b2:=Fun.at_cellsL f.args 1 f1
  have b3:=Val.at_cellsL v.args 0 a0
  have b4:=Val.at_cellsL v.args 1 a1
  simp at b1 b2 b3 b4
  have o0:=d7 hokl 0 a0
  have o1:=d7 hokl 1 a1
  rw[Nat.zero_add] at o0 o1
  rw[g0] at o0
  rw[g1] at o1
  have he0:=H v.args[0] (List.getElem_mem a0) f.args[0] (aN hf f0) o0
  have he1:=H v.args[1] (List.getElem_mem a1) f.args[1] (aN hf f1) o1
  have hm:cK v.args (aB f v.num) 0=[dL v.args[0] f.args[0],dL v.args[1] f.args[1]]:=by
   have hl2:(cK v.args (aB f v.num) 0).length=2:=by rw[d8];omega
   have t0:=kc v.args (aB f v.num) 0 0 a0
   have t1:=kc v.args (aB f v.num) 0 1 a1
   rw[Nat.zero_add] at t0 t1
   rw[g0] at t0
   rw[g1] at t1
   rw[←t0,←t1]
   exact List.ext_getElem (by simp[hl2]) fun i h1 h2=>by
    match i,h2 with
    |0,_=>rfl
    |1,_=>rfl
  rw[hm] at hlen⊢
  simp at he0 he1
  generalize dL v.args[0] f.args[0]=t0 at*
  generalize dL v.args[1] f.args[1]=t1 at*
  simp[h0,cj,bR] at hlen
  simp[Tryz.f50,a50,reg50,loop50,draw50,dok50,h0,show v.args.length=2 by omega,hl,b1,b2,b3,b4,he0,he1,cj,bR]
  repeat (rw[if_pos (by omega)];simp[Tryz.f50,a50,reg50,loop50,draw50,dok50,h0,show v.args.length=2 by omega,hl,b1,b2,b3,b4,he0,he1,cj,bR])
 ·simp[h0] at q1
  have a0:0<v.args.length:=by omega
  have f0:0<f.args.length:=by omega
  have f1:1<f.args.length:=by omega
  have b1:=Fun.at_cellsL f.args 0 f0
  have b2:=Fun.at_cellsL f.args 1 f1
  have b3:=Val.at_cellsL v.args 0 a0
  simp at b1 b2 b3
  have o0:=d7 hokl 0 a0
  rw[Nat.zero_add] at o0
  have hm:cK v.args (aB f v.num) 0=[dL v.args[0] (aB f v.num 0)]:=by
   have hl2:(cK v.args (aB f v.num) 0).length=1:=by rw[d8];omega
   have t0:=kc v.args (aB f v.num) 0 0 a0
   rw[Nat.zero_add] at t0
   rw[←t0]
   exact List.ext_getElem (by simp[hl2]) fun i h1 h2=>by
    match i,h2 with
    |0,_=>rfl
  rw[hm] at hlen⊢
  by_cases cn:v.num=0
  ·have g0:aB f v.num 0=f.args[0]:=by unfold aB;rw[if_neg (by omega),if_pos h0,cn,List.getD_eq_getElem?_getD,List.getElem?_eq_getElem (by simpa using f0)];rfl
   rw[g0] at o0 hlen⊢
   have he0:=H v.args[0] (List.getElem_mem a0) f.args[0] (aN hf f0) o0
   simp at he0
   generalize dL v.args[0] f.args[0]=t0 at*
   simp[h0,cj,cn] at hlen
   simp[Tryz.f50,a50,reg50,loop50,draw50,dok50,h0,q1.2,hl,b1,b2,b3,he0,cn,cj]
   repeat (rw[if_pos (by omega)];simp[Tryz.f50,a50,reg50,loop50,draw50,dok50,h0,q1.2,hl,b1,b2,b3,he0,cn,cj])
  ·have cm:v.num=1:=by omega
   have g0:aB f v.num 0=f.args[1]:=by unfold aB;rw[if_neg (by omega),if_pos h0,cm,List.getD_eq_getElem?_getD,List.getElem?_eq_getElem (by simpa using f1)];rfl
   rw[g0] at o0 hlen⊢
   have he0:=H v.args[0] (List.getElem_mem a0) f.args[1] (aN hf f1) o0
   simp at he0
   generalize dL v.args[0] f.args[1]=t0 at*
   have w2:IntKind.i64.wrap 2=2:=by decide
   simp[h0,cj,cm] at hlen
   simp[Tryz.f50,a50,reg50,loop50,draw50,dok50,h0,q1.2,hl,b1,b2,b3,he0,cm,cj,w2]
   repeat (rw[if_pos (by omega)];simp[Tryz.f50,a50,reg50,loop50,draw50,dok50,h0,q1.2,hl,b1,b2,b3,he0,cm,cj,w2])
 all_goals omega
set_option maxHeartbeats 4000000 in
theorem BV(hn:n≤1000000)(v:Val)(hb:v.nodes≤1000000)(H:∀u,u∈v.args→vF ex n u)(f:Fun)(hf:au f=true)(hok:okV ex n v f=true)(hk:4≤f.kind)(m:Mem):
  ai C0 50 [.agg f.cells,.agg v.cells] m=some (.ret (.str (dL v f)),m):=by
 have hlen:=gI hn v f hf hok
 rw[nJ,Bool.and_eq_true,Bool.and_eq_true] at hok
 obtain⟨⟨hh,_⟩,hokl⟩:=hok
 have hws:=v8 hh
 have hlna:=v.length_args
 have hfl:f.args.length=1:=by have:=ba hf;omega
 have hk7:f.kind≤7:=by have:=ba hf;omega
 have f0:0<f.args.length:=by omega
 have b1:=Fun.at_cellsL f.args 0 f0
 simp at b1
 have hg:∀j,aB f v.num j=f.args[0]:=fun j=>by
  unfold aB
  rw[if_neg (by omega),if_neg (by omega),List.getD_eq_getElem?_getD,List.getElem?_eq_getElem f0]
  rfl
 have k4:¬f.kind=0∧¬f.kind=1∧¬f.kind=2∧¬f.kind=3:=by omega
 have hs4:=eR hf k4.1 k4.2.1 hh
 have hsum:=mF hn v.args (aB f v.num) 0 hs4 hokl
 have hvn:=v.nodes_eq
 have htl:=d8 v.args (aB f v.num) 0
 have hta:=fun j h=>kc v.args (aB f v.num) 0 j h
 rw[oH,if_neg (by omega)]
 have hE:∃E:List (List UInt8),E=de f.kind (cK v.args (aB f v.num) 0) v.ws∧E.length=v.args.length∧cy E≤cy (cK v.args (aB f v.num) 0)+10*v.args.length:=by
  refine⟨_,rfl, ?_, ?_⟩
  ·unfold de
   split
   ·rw[ji,htl]
   ·exact htl
  ·unfold de
   split
   ·have:=q8 (cK v.args (aB f v.num) 0) v.ws fun x hx=>by have:=hws.1 x hx;omega
    rw[htl] at this
    exact this
   ·omega
 obtain⟨E,hEe,hEl,hEs⟩:=hE
 have hEat:∀(j:Nat) (h:j<v.args.length),E[j]'(by omega)=dL v.args[j] f.args[0]++(if h6:6≤f.kind then [32,58,32]++Lib.itoa (v.ws.getD j 0) else []):=fun j h=>by
  have h1:=hta j h
  rw[hg] at h1
  subst hEe
  unfold de
  by_cases h6:6≤f.kind
  ·have hwt:wtd f.kind=true:=by unfold wtd;simp;omega
   have hwl:=hws.2 hwt
   simp only[if_pos h6,dif_pos h6]
   rw[AG _ _ j (by rw[htl];exact h) (by omega),h1,List.getD_eq_getElem?_getD,List.getElem?_eq_getElem (by omega)]
   rfl
  ·simp only[if_neg h6,dif_neg h6,List.append_nil]
   exact h1
 have hfin:cj f.kind v.num (cK v.args (aB f v.num) 0) v.ws=(if f.kind=4 then [91] else [123])++bR E++(if f.kind=4 then [93] else [125]):=by
  unfold cj
  rw[if_neg k4.2.2.1,if_neg k4.2.2.2,hEe]
  by_cases h4:f.kind=4
  ·rw[if_pos h4,if_pos h4,if_pos h4]
   unfold de
   rw[if_neg (by omega)]
   rfl
  ·rw[if_neg h4,if_neg h4,if_neg h4]
   rfl
 rw[hfin]
 have hjl:=fun i=>rW E i
 have hbig:cy E+2*E.length≤100000000:=by omega
 have hopn:∃o c:UInt8,(if f.kind=4 then [91] else [123])=[o]∧(if f.kind=4 then([93]:List UInt8) else [125])=[c]∧(f.kind=4→o=91∧c=93)∧(¬f.kind=4→o=123∧c=125):=by
  by_cases h4:f.kind=4
  ·exact⟨91,93,by rw[if_pos h4],by rw[if_pos h4],fun _=>⟨rfl,rfl⟩,fun h=>absurd h4 h⟩
  ·exact⟨123,125,by rw[if_neg h4],by rw[if_neg h4],fun h=>absurd h h4,fun _=>⟨rfl,rfl⟩⟩
 obtain⟨op,cl,ho,hc,ho4,hc4⟩:=hopn
 rw[ho,hc]
 rw[ab C0 (aj _ (by decide)) (by rw[ay];exact Tryz.func50) rfl (by rw[ae];rfl) (by rw[ae];rfl) (by decide) (by simp[Tryz.f50])]
 by_cases h4:f.kind=4
 case' pos=>
  obtain⟨e1,e2⟩:=ho4 h4
  have h6:¬6≤f.kind:=by omega
  simp[Tryz.f50,a50,reg50,loop50,draw50,dok50,h4]
 case' neg=>
  obtain⟨e1,e2⟩:=hc4 h4
  simp[Tryz.f50,a50,reg50,loop50,draw50,dok50,k4,h4]
 all_goals
  refine aC (fun i:Nat=>⟨[(2,.ptr m.bx.length 0),(3,.ptr (m.bx.length+1) 0),(5,.str (op::bR (E.take i))),(6,.str [cl]),(66,.isl false v.args.length (Val.cellsL v.args)),(67,.int .i64 v.args.length),(68,.int .i64 i)],
    ⟨m.bx++[f.cells,v.cells],m.rw⟩⟩)
   (fun i=>some (.ret (.str (op::(bR E++[cl]))),m)) (fun i=>v.args.length-i) (fun i=>i≤v.args.length) 0 ?_ ?_ ?_ ?_ ?_
  ·simp[bR,h4,e1,e2]
  ·simp
  ·omega
  ·intro x;simp[Tryz.f50,a50,reg50,loop50,draw50,dok50]
  ·intro i hi hrec
   by_cases hlt:i<v.args.length
   ·have w2:IntKind.i64.wrap (i+1)=i+1:=al _ (by omega)
    have h3:(i+1)*3≤v.args.length*3:=by omega
    have o0:=d7 hokl i hlt
    rw[Nat.zero_add,hg] at o0
    have he:=H v.args[i] (List.getElem_mem hlt) f.args[0] (aN hf f0) o0
    have hEi:=hEat i hlt
    have hiE:i<E.length:=by omega
    have htk:E.take (i+1)=E.take i++[E[i]]:=List.take_succ_eq_append_getElem hiE
    have hml:=gk (List.getElem_mem hiE)
    have hj:=hjl i
    have hd0:=Val.at_cellsL v.args i hlt
    simp at he hd0
    have hnx:bR (E.take (i+1))=if i=0 then E[i] else bR (E.take i)++([44,32]++E[i]):=by
     rw[htk]
     split
     ·rename_i h0
      subst h0
      rfl
     ·exact nf _ _ fun h=>by
       have:=congrArg List.length h
       rw[List.length_take,List.length_nil] at this
       omega
    rw[hEi] at hnx hml
    generalize dL v.args[i] f.args[0]=T at*
    by_cases h6:6≤f.kind
    ·first|(exfalso;omega)|skip
     all_goals
      rw[dif_pos h6] at hnx hml
      have hwt:wtd f.kind=true:=by unfold wtd;simp;omega
      have hiw:i<v.ws.length:=by rw[hws.2 hwt];exact hlt
      have hwx:=hws.1 _ (List.getElem_mem hiw)
      have hgd:v.ws.getD i 0=v.ws[i]:=by rw[List.getD_eq_getElem?_getD,List.getElem?_eq_getElem hiw];rfl
      rw[hgd] at hnx hml
      have hat:=bq hiw
      have hit:=om v.ws[i] (by omega) (by omega)
      generalize Lib.itoa v.ws[i]=W at*
      simp at hml
      by_cases hi0:i=0
      ·rw[if_pos hi0] at hnx
       have hJ:bR (E.take i)=[]:=by rw[hi0];rfl
       rw[hJ] at hj⊢
       subst hi0
       simp at he hd0 hat
       simp[round,Tryz.f50,a50,reg50,loop50,draw50,dok50,h4,k4,hlt,w2,h3,hfl,b1,he,hd0,h6,hat,hit,hiw,show 1≤v.ws.length by omega,aZ]
       repeat (rw[if_pos (by omega)];simp[round,Tryz.f50,a50,reg50,loop50,draw50,dok50,h4,k4,hlt,w2,h3,hfl,b1,he,hd0,h6,hat,hit,hiw,show 1≤v.ws.length by omega,aZ])
       refine hrec 1 _ _ ?_ ?_ ?_ ?_
       ·omega
       ·omega
       ·simp[hnx,hfl,h4]
       ·simp
      ·rw[if_neg hi0] at hnx
       have hi1:0<i:=by omega
       generalize bR (E.take i)=J at*
       simp[round,Tryz.f50,a50,reg50,loop50,draw50,dok50,h4,k4,hlt,w2,h3,hfl,b1,he,hd0,hi0,hi1,h6,hat,hit,hiw,show i+1≤v.ws.length by omega,aZ]
       repeat (rw[if_pos (by omega)];simp[round,Tryz.f50,a50,reg50,loop50,draw50,dok50,h4,k4,hlt,w2,h3,hfl,b1,he,hd0,hi0,hi1,h6,hat,hit,hiw,show i+1≤v.ws.length by omega,aZ])
       refine hrec (i+1) _ _ ?_ ?_ ?_ ?_
       ·omega
       ·omega
       ·simp[hnx,hfl,h4]
       ·simp
    ·rw[dif_neg h6] at hnx hml
     simp at hml
     by_cases hi0:i=0
     ·rw[if_pos hi0] at hnx
      have hJ:bR (E.take i)=[]:=by rw[hi0];rfl
      rw[hJ] at hj⊢
      subst hi0
      simp at he hd0
      simp[round,Tryz.f50,a50,reg50,loop50,draw50,dok50,h4,k4,hlt,w2,h3,hfl,b1,he,hd0,h6,aZ]
      repeat (rw[if_pos (by omega)];simp[round,Tryz.f50,a50,reg50,loop50,draw50,dok50,h4,k4,hlt,w2,h3,hfl,b1,he,hd0,h6,aZ])
      refine hrec 1 _ _ ?_ ?_ ?_ ?_
      ·omega
      ·omega
      ·simp[hnx,hfl,h4]
      ·simp
     ·rw[if_neg hi0] at hnx
      have hi1:0<i:=by omega
      generalize bR (E.take i)=J at*
      simp[round,Tryz.f50,a50,reg50,loop50,draw50,dok50,h4,k4,hlt,w2,h3,hfl,b1,he,hd0,hi0,hi1,h6,aZ]
      repeat (rw[if_pos (by omega)];simp[round,Tryz.f50,a50,reg50,loop50,draw50,dok50,h4,k4,hlt,w2,h3,hfl,b1,he,hd0,hi0,hi1,h6,aZ])
      refine hrec (i+1) _ _ ?_ ?_ ?_ ?_
      ·omega
      ·omega
      ·simp[hnx,hfl,h4]
      ·simp
   ·clear hrec
    have hie:i=v.args.length:=by omega
    subst hie
    rw[List.take_of_length_le (by omega)]
    have hj:=hjl E.length
    rw[List.take_of_length_le (by omega)] at hj
    generalize bR E=J at*
    simp[round,Tryz.f50,a50,reg50,loop50,draw50,dok50,hlt]
    repeat (rw[if_pos (by omega)];simp[round,Tryz.f50,a50,reg50,loop50,draw50,dok50,hlt])
theorem EV(hn:n≤1000000)(N:Nat):∀(v:Val),v.nodes≤N→v.nodes≤1000000→vF ex n v:=by
 induction N with
 |zero=>intro v hN;have:=v.nodes_pos;omega
 |succ N ih=>
 intro v hN hb f hf hok m
 have H:∀u,u∈v.args→vF ex n u:=fun u hu=>ih u (by have:=Val.nodes_arg hu;omega) (by have:=Val.nodes_arg hu;omega)
 by_cases hk:f.kind≤3
 ·exact zU hn v hb H f hf hok hk m
 ·exact BV hn v hb H f hf hok (by omega) m
end
def tn(k:Int):List UInt8:=if k<10 then [UInt8.ofNat (48+k.toNat)] else [49,UInt8.ofNat (38+k.toNat)]
theorem Ct{k:Int}(h0:0≤k)(h1:k≤16):Lib.itoa k=tn k:=by
 unfold Lib.itoa tn
 rw[if_neg (by omega),Lib.decDigits]
 by_cases h:k<10
 ·rw[dif_pos (by omega),if_pos h]
 ·rw[dif_neg (by omega),if_neg h,show k.toNat / 10=1 by omega,Lib.decDigits,dif_pos (by omega),show 48+k.toNat % 10=38+k.toNat by omega]
  rfl
theorem uh(k:Int)(h0:0≤k)(h1:k≤16)(m:Mem):ai C0 49 [.int .i64 k] m=some (.ret (.str (tn k)),m):=by
 rw[om k (by omega) (by omega),Ct h0 h1]
def gP(k:Int):UInt8:=if k=5 then 80 else if k=6 then 66 else 68
def aH:Fun→Bool→List UInt8
 | .mk k n [],_=>if k=0 then [88] else tn n
 | .mk k n [a],_=>if k=4 then(if a.kind=4 then 40::aH a false++[41] else aH a false)++[32,94,32]++tn n else gP k::40::aH a true++[41]
 | .mk k n (a::b::_),top=>if top then aH a false++[32,if k=3 then 43 else 42,32]++aH b false else 40::(aH a false++[32,if k=3 then 43 else 42,32]++aH b false)++[41]
theorem jx(k:Int):(tn k).length≤2:=by unfold tn;split<;>simp
theorem aU:∀(f:Fun) (top:Bool),(aH f top).length≤10*f.nodes
 | .mk k n [],top=>by
   rw[aH,Fun.nodes_eq]
   have:=jx n
   split<;>simp<;>omega
 | .mk k n [a],top=>by
   rw[aH,Fun.nodes_eq]
   have h1:=aU a false
   have h2:=aU a true
   have:=jx n
   simp only[Fun.args_mk,Fun.nodesL]
   split
   ·split<;>simp<;>omega
   ·simp;omega
 | .mk k n (a::b::r),top=>by
   rw[aH,Fun.nodes_eq]
   have h1:=aU a false
   have h2:=aU b false
   simp only[Fun.args_mk,Fun.nodesL]
   split<;>simp<;>omega
theorem ov{f:Fun}(h:au f=true):0≤f.kind∧f.kind≤7:=by
 rw[fE] at h
 simp only[Bool.and_eq_true,decide_eq_true_eq] at h
 exact qK (by rw[←h.1.1.1];omega)
set_option maxHeartbeats 4000000 in
theorem Fw(N:Nat):∀(f:Fun),f.nodes≤N→f.nodes≤1000000→au f=true→∀(top:Bool) (m:Mem),ai C0 48 [.agg f.cells,.bool top] m=some (.ret (.str (aH f top)),m):=by
 induction N with
 |zero=>intro f hN;have:=f.nodes_pos;omega
 |succ N ih=>
 rintro⟨k,n,l⟩ hN hb hsh top m
 have hk:=ov hsh
 rw[fE] at hsh
 simp only[Fun.kind_mk,Fun.num_mk,Fun.args_mk,Bool.and_eq_true,decide_eq_true_eq] at hsh hk
 obtain⟨⟨⟨s1,s2⟩,s3⟩,s4⟩:=hsh
 rw[ab C0 (aj _ (by decide)) (by rw[ay];exact Tryz.func48) rfl (by rw[ae];rfl) (by rw[ae];rfl) (by decide) (by simp[Tryz.f48])]
 rw[Fun.nodes_eq] at hN hb
 simp only[Fun.args_mk] at hN hb
 have two:∀k':Int,k'=2∨k'=3→k=k'→∃a b,l=[a,b]:=by
  rintro k' h rfl
  have:l.length=2:=by rcases h with rfl|rfl<;>simp[dg] at s1<;>omega
  match l,this with
  |[a,b],_=>exact⟨a,b,rfl⟩
 have one:∀k':Int,k'=4∨k'=5∨k'=6∨k'=7→k=k'→∃a,l=[a]:=by
  rintro k' h rfl
  have:l.length=1:=by rcases h with rfl|rfl|rfl|rfl<;>simp[dg] at s1<;>omega
  match l,this with
  |[a],_=>exact⟨a,rfl⟩
 have hks:k=0∨k=1∨k=2∨k=3∨k=4∨k=5∨k=6∨k=7:=by omega
 rcases hks with rfl|rfl|rfl|rfl|rfl|rfl|rfl|rfl
 ·have:l=[]:=by simpa [dg] using s1
  subst this
  simp[Tryz.f48,a48,reg48,draw48,dok48,aH]
 ·have:l=[]:=by simpa [dg] using s1
  subst this
  have n1:0≤n∧n≤16:=by simp[cL] at s2 s3;omega
  simp[Tryz.f48,a48,reg48,draw48,dok48,aH,uh n n1.1 n1.2]
 case inr.inr.inl=>
  obtain⟨a,b,rfl⟩:=two 2 (by simp) rfl
  simp only[bu,Fun.nodesL,Bool.and_eq_true] at s4 hN hb
  have ea:=ih a (by omega) (by omega) s4.1 false
  have eb:=ih b (by omega) (by omega) s4.2.1 false
  have la:=aU a false
  have lb:=aU b false
  simp at ea eb
  cases top
  ·simp[Tryz.f48,a48,reg48,draw48,dok48,aH,ea,eb]
   repeat (rw[if_pos (by omega)];simp[Tryz.f48,a48,reg48,draw48,dok48,aH,ea,eb])
  ·simp[Tryz.f48,a48,reg48,draw48,dok48,aH,ea,eb]
   repeat (rw[if_pos (by omega)];simp[Tryz.f48,a48,reg48,draw48,dok48,aH,ea,eb])
 case inr.inr.inr.inl=>
  obtain⟨a,b,rfl⟩:=two 3 (by simp) rfl
  simp only[bu,Fun.nodesL,Bool.and_eq_true] at s4 hN hb
  have ea:=ih a (by omega) (by omega) s4.1 false
  have eb:=ih b (by omega) (by omega) s4.2.1 false
  have la:=aU a false
  have lb:=aU b false
  simp at ea eb
  cases top
  ·simp[Tryz.f48,a48,reg48,draw48,dok48,aH,ea,eb]
   repeat (rw[if_pos (by omega)];simp[Tryz.f48,a48,reg48,draw48,dok48,aH,ea,eb])
  ·simp[Tryz.f48,a48,reg48,draw48,dok48,aH,ea,eb]
   repeat (rw[if_pos (by omega)];simp[Tryz.f48,a48,reg48,draw48,dok48,aH,ea,eb])
 case inr.inr.inr.inr.inl=>
  obtain⟨a,rfl⟩:=one 4 (by simp) rfl
  simp only[bu,Fun.nodesL,Bool.and_eq_true] at s4 hN hb
  have ea:=ih a (by omega) (by omega) s4.1 false
  have la:=aU a false
  have ld:=jx n
  have n1:0≤n∧n≤16:=by simp[cL] at s2 s3;omega
  have en:=uh n n1.1 n1.2
  simp at ea
  by_cases c4:a.kind=4
  ·have c4':=eq_true c4
   simp[Tryz.f48,a48,reg48,draw48,dok48,aH,ea,en,c4']
   repeat (rw[if_pos (by omega)];simp[Tryz.f48,a48,reg48,draw48,dok48,aH,ea,en,c4'])
  ·simp[Tryz.f48,a48,reg48,draw48,dok48,aH,ea,en,c4]
   repeat (rw[if_pos (by omega)];simp[Tryz.f48,a48,reg48,draw48,dok48,aH,ea,en,c4])
 case inr.inr.inr.inr.inr.inl=>
  obtain⟨a,rfl⟩:=one 5 (by simp) rfl
  simp only[bu,Fun.nodesL,Bool.and_eq_true] at s4 hN hb
  have ea:=ih a (by omega) (by omega) s4.1 true
  have la:=aU a true
  simp at ea
  simp[Tryz.f48,a48,reg48,draw48,dok48,aH,ea,gP]
  repeat (rw[if_pos (by omega)];simp[Tryz.f48,a48,reg48,draw48,dok48,aH,ea,gP])
 case inr.inr.inr.inr.inr.inr.inl=>
  obtain⟨a,rfl⟩:=one 6 (by simp) rfl
  simp only[bu,Fun.nodesL,Bool.and_eq_true] at s4 hN hb
  have ea:=ih a (by omega) (by omega) s4.1 true
  have la:=aU a true
  simp at ea
  have w:∀n:Int,0≤n→n≤1000→IntKind.i64.wrap n=n:=fun n h0 h1=>al n (by omega)
  simp[Tryz.f48,a48,reg48,draw48,dok48,aH,ea,gP,w]
  repeat (rw[if_pos (by omega)];simp[Tryz.f48,a48,reg48,draw48,dok48,aH,ea,gP,w])
 case inr.inr.inr.inr.inr.inr.inr=>
  obtain⟨a,rfl⟩:=one 7 (by simp) rfl
  simp only[bu,Fun.nodesL,Bool.and_eq_true] at s4 hN hb
  have ea:=ih a (by omega) (by omega) s4.1 true
  have la:=aU a true
  simp at ea
  have w:∀n:Int,0≤n→n≤1000→IntKind.i64.wrap n=n:=fun n h0 h1=>al n (by omega)
  simp[Tryz.f48,a48,reg48,draw48,dok48,aH,ea,gP,w]
  repeat (rw[if_pos (by omega)];simp[Tryz.f48,a48,reg48,draw48,dok48,aH,ea,gP,w])
mutual
theorem mL:∀(f:Fun) (left deep:Int),(bX f left deep).1=true→au f=true
 | .mk k n l,left,deep,h=>by
   rw[bX] at h
   split at h
   ·cases h
   ·rename_i hc
    simp only[not_or,Int.not_lt,Decidable.not_not] at hc
    rw[au]
    simp[hc,mS l (left-1) deep h]
theorem mS:∀(l:List Fun) (left deep:Int),(cH l left deep).1=true→bu l=true
 |[],_,_,_=>by rw[bu]
 |f::r,left,deep,h=>by
  rw[cH] at h
  split at h
  ·rename_i hf
   rw[bu,mL f left (deep+1) hf,mS r _ deep h]
   rfl
  ·cases h
end
theorem iY{f:Fun}(h:okF f=true):au f=true:=mL f 20 1 h
set_option maxHeartbeats 1000000 in
theorem z8(f:Fun)(vs:List Val)(hf:f.nodes≤1000000)(hb:Val.nodesL vs≤1000000)(hs:∀v∈vs,aP v)(m:Mem)(id:Nat)(hR:m.rw[id]? =some ⟨47,Val.cellsL vs⟩):ai C0 43 [.agg (eG f (.sl id (vs.length*3) 0 vs.length))] m=some (.ret (.bool (okS f vs)),m):=by
 have hid:id<m.rw.length:=(List.getElem?_eq_some_iff.1 hR).1
 have hR2:=(List.getElem?_eq_some_iff.1 hR).2
 rw[ab C0 (aj _ (by decide)) (by rw[ay];exact Tryz.func43) rfl (by rw[ae];rfl) (by rw[ae];rfl) (by decide) (by simp[Tryz.f43])]
 have hv:=oA f (by omega)
 have hl:=Val.length_nodesL vs
 simp at hv
 unfold okS
 cases hc:okF f
 ·simp[Tryz.f43,a43,reg43,loop43,hv,hc,hid,hR2]
 by_cases h100:vs.length≤100
 ·have hsh:=jp hc
  have h100':¬(100:Int)<vs.length:=by omega
  simp[Tryz.f43,a43,reg43,loop43,hv,hc,h100,h100',hid,hR2]
  refine aC (fun x:Nat×Nat=>⟨[(1,.ptr m.bx.length 0),(3,.int .i64 x.2),(17,(.sl id (vs.length*3) 0 vs.length)),(18,.int .i64 vs.length),(19,.int .i64 x.1)],⟨m.bx++[eG f (.sl id (vs.length*3) 0 vs.length)],m.rw⟩⟩)
   (fun x=>some (.ret (.bool (nG f vs.length (vs.drop x.1)&&decide (x.2+Val.nodesL (vs.drop x.1)≤20000))),m)) (fun x=>vs.length-x.1) (fun x=>x.1≤vs.length∧x.2+Val.nodesL (vs.drop x.1)≤1000000) (0,0) ?_ ?_ ?_ ?_ ?_
  ·simp
  ·simp
  ·simp;omega
  ·intro x;simp[Tryz.f43,a43,reg43,loop43]
  ·rintro⟨i,a⟩ hI hrec
   simp only at hI
   obtain⟨hi,ha⟩:=hI
   by_cases hlt:i<vs.length
   ·have w2:IntKind.i64.wrap (i+1)=i+1:=al _ (by omega)
    have hmem:=List.getElem_mem hlt
    have hnm:=Val.nodes_mem hmem
    have he:=uk f vs.length vs[i] hsh (by omega) (hs _ hmem)
    have hn:=yR vs[i].nodes vs[i] (Nat.le_refl _) (by omega)
    simp at he hn
    rw[Val.nodesL_drop hlt] at ha
    have w3:IntKind.i64.wrap (a+vs[i].nodes)=a+vs[i].nodes:=al _ (by omega)
    have h3:(i+1)*3≤vs.length*3:=by omega
    have h3':i*3+3≤vs.length*3:=by omega
    rw[mG hlt]
    cases hcv:(cB exS vs.length vs[i] f 2000).1
    ·simp[round,Tryz.f43,a43,reg43,loop43,hlt,w2,w3,h3,h3',he,hn,hcv,hid,hR2]
    ·simp[round,Tryz.f43,a43,reg43,loop43,hlt,w2,w3,h3,h3',he,hn,hcv,hid,hR2]
     refine hrec (i+1,a+vs[i].nodes) _ _ ?_ ?_ ?_ ?_
     ·simp;omega
     ·simp;omega
     ·simp
     ·simp only
      rw[Val.nodesL_drop hlt]
      simp[Nat.add_assoc]
   ·clear hrec
    simp[round,Tryz.f43,a43,reg43,loop43,hlt]
    rw[List.drop_eq_nil_of_le (by omega),Val.nodesL]
    simp[nG]
    omega
 ·have h100':(100:Int)<vs.length:=by omega
  simp[Tryz.f43,a43,reg43,loop43,hv,hc,h100,h100',hid,hR2]
set_option maxHeartbeats 1000000 in
theorem FQ(f:Fun)(vs:List Val)(hf:f.nodes≤1000000)(hb:Val.nodesL vs≤1000000)(hs:∀v∈vs,aP v)(m:Mem):ai C0 26 [.agg (eG f (.isl false vs.length (Val.cellsL vs)))] m=some (.ret (.bool (okS f vs)),m):=by
 rw[ab C0 (aj _ (by decide)) (by rw[ay];exact Tryz.func26) rfl (by rw[ae];rfl) (by rw[ae];rfl) (by decide) (by simp[Tryz.f26])]
 have hv:=Bg f (by omega)
 have hl:=Val.length_nodesL vs
 rw[show(decide (0<fj f 21)&&decide (f.depth≤8)&&au f)=isF f from rfl] at hv
 simp at hv
 unfold okS
 rw[←kv]
 cases hc:isF f
 ·simp[Tryz.f26,a26,reg26,loop26,hv,hc]
 by_cases h100:vs.length≤100
 ·have hsh:=jp (by rw[←kv];exact hc)
  have h100':¬(100:Int)<vs.length:=by omega
  simp[Tryz.f26,a26,reg26,loop26,hv,hc,h100,h100']
  refine aC (fun x:Nat×Nat=>⟨[(1,.ptr m.bx.length 0),(3,.int .i64 x.2),(17,(.isl false vs.length (Val.cellsL vs))),(18,.int .i64 vs.length),(19,.int .i64 x.1)],⟨m.bx++[eG f (.isl false vs.length (Val.cellsL vs))],m.rw⟩⟩)
   (fun x=>some (.ret (.bool (nG f vs.length (vs.drop x.1)&&decide (x.2+Val.nodesL (vs.drop x.1)≤20000))),m)) (fun x=>vs.length-x.1) (fun x=>x.1≤vs.length∧x.2+Val.nodesL (vs.drop x.1)≤1000000) (0,0) ?_ ?_ ?_ ?_ ?_
  ·simp
  ·simp
  ·simp;omega
  ·intro x;simp[Tryz.f26,a26,reg26,loop26]
  ·rintro⟨i,a⟩ hI hrec
   simp only at hI
   obtain⟨hi,ha⟩:=hI
   by_cases hlt:i<vs.length
   ·have w2:IntKind.i64.wrap (i+1)=i+1:=al _ (by omega)
    have hmem:=List.getElem_mem hlt
    have hnm:=Val.nodes_mem hmem
    have he:=BG f vs.length vs[i] hsh (by omega) (by omega) (by omega) (hs _ hmem)
    have hn:=pJ vs[i].nodes vs[i] (Nat.le_refl _) (by omega)
    simp at he hn
    rw[Val.nodesL_drop hlt] at ha
    have w3:IntKind.i64.wrap (a+vs[i].nodes)=a+vs[i].nodes:=al _ (by omega)
    have h3:(i+1)*3≤vs.length*3:=by omega
    have h3':i*3+3≤vs.length*3:=by omega
    rw[mG hlt]
    cases hcv:(cB exS vs.length vs[i] f 2000).1
    ·simp[round,Tryz.f26,a26,reg26,loop26,hlt,w2,w3,h3,h3',he,hn,hcv]
    ·simp[round,Tryz.f26,a26,reg26,loop26,hlt,w2,w3,h3,h3',he,hn,hcv]
     refine hrec (i+1,a+vs[i].nodes) _ _ ?_ ?_ ?_ ?_
     ·simp;omega
     ·simp;omega
     ·simp
     ·simp only
      rw[Val.nodesL_drop hlt]
      simp[Nat.add_assoc]
   ·clear hrec
    simp[round,Tryz.f26,a26,reg26,loop26,hlt]
    rw[List.drop_eq_nil_of_le (by omega),Val.nodesL]
    simp[nG]
    omega
 ·have h100':(100:Int)<vs.length:=by omega
  simp[Tryz.f26,a26,reg26,loop26,hv,hc,h100,h100']
set_option maxHeartbeats 1000000 in
theorem D3(f:Fun)(vs:List Val)(hf:f.nodes≤1000000)(hb:Val.nodesL vs≤1000000)(hs:∀v∈vs,aP v)(m:Mem)(id:Nat)(hR:m.rw[id]? =some ⟨47,Val.cellsL vs⟩):ai C0 26 [.agg (eG f (.sl id (vs.length*3) 0 vs.length))] m=some (.ret (.bool (okS f vs)),m):=by
 have hid:id<m.rw.length:=(List.getElem?_eq_some_iff.1 hR).1
 have hR2:=(List.getElem?_eq_some_iff.1 hR).2
 rw[ab C0 (aj _ (by decide)) (by rw[ay];exact Tryz.func26) rfl (by rw[ae];rfl) (by rw[ae];rfl) (by decide) (by simp[Tryz.f26])]
 have hv:=Bg f (by omega)
 have hl:=Val.length_nodesL vs
 rw[show(decide (0<fj f 21)&&decide (f.depth≤8)&&au f)=isF f from rfl] at hv
 simp at hv
 unfold okS
 rw[←kv]
 cases hc:isF f
 ·simp[Tryz.f26,a26,reg26,loop26,hv,hc,hid,hR2]
 by_cases h100:vs.length≤100
 ·have hsh:=jp (by rw[←kv];exact hc)
  have h100':¬(100:Int)<vs.length:=by omega
  simp[Tryz.f26,a26,reg26,loop26,hv,hc,h100,h100',hid,hR2]
  refine aC (fun x:Nat×Nat=>⟨[(1,.ptr m.bx.length 0),(3,.int .i64 x.2),(17,(.sl id (vs.length*3) 0 vs.length)),(18,.int .i64 vs.length),(19,.int .i64 x.1)],⟨m.bx++[eG f (.sl id (vs.length*3) 0 vs.length)],m.rw⟩⟩)
   (fun x=>some (.ret (.bool (nG f vs.length (vs.drop x.1)&&decide (x.2+Val.nodesL (vs.drop x.1)≤20000))),m)) (fun x=>vs.length-x.1) (fun x=>x.1≤vs.length∧x.2+Val.nodesL (vs.drop x.1)≤1000000) (0,0) ?_ ?_ ?_ ?_ ?_
  ·simp
  ·simp
  ·simp;omega
  ·intro x;simp[Tryz.f26,a26,reg26,loop26]
  ·rintro⟨i,a⟩ hI hrec
   simp only at hI
   obtain⟨hi,ha⟩:=hI
   by_cases hlt:i<vs.length
   ·have w2:IntKind.i64.wrap (i+1)=i+1:=al _ (by omega)
    have hmem:=List.getElem_mem hlt
    have hnm:=Val.nodes_mem hmem
    have he:=BG f vs.length vs[i] hsh (by omega) (by omega) (by omega) (hs _ hmem)
    have hn:=pJ vs[i].nodes vs[i] (Nat.le_refl _) (by omega)
    simp at he hn
    rw[Val.nodesL_drop hlt] at ha
    have w3:IntKind.i64.wrap (a+vs[i].nodes)=a+vs[i].nodes:=al _ (by omega)
    have h3:(i+1)*3≤vs.length*3:=by omega
    have h3':i*3+3≤vs.length*3:=by omega
    rw[mG hlt]
    cases hcv:(cB exS vs.length vs[i] f 2000).1
    ·simp[round,Tryz.f26,a26,reg26,loop26,hlt,w2,w3,h3,h3',he,hn,hcv,hid,hR2]
    ·simp[round,Tryz.f26,a26,reg26,loop26,hlt,w2,w3,h3,h3',he,hn,hcv,hid,hR2]
     refine hrec (i+1,a+vs[i].nodes) _ _ ?_ ?_ ?_ ?_
     ·simp;omega
     ·simp;omega
     ·simp
     ·simp only
      rw[Val.nodesL_drop hlt]
      simp[Nat.add_assoc]
   ·clear hrec
    simp[round,Tryz.f26,a26,reg26,loop26,hlt]
    rw[List.drop_eq_nil_of_le (by omega),Val.nodesL]
    simp[nG]
    omega
 ·have h100':(100:Int)<vs.length:=by omega
  simp[Tryz.f26,a26,reg26,loop26,hv,hc,h100,h100',hid,hR2]
theorem sK(f:Fun):lp f f=true:=(uT f f).2 rfl
def wu(f:Fun)(vs:List Val)(most:Int):Bool:=decide ((vs.length:Int)≤most)&&decide (0<fj f (most+1))&&(vs.all fun v=>pg v most)&&decide ((Val.nodesL vs:Int)≤most)
theorem Cn{vs:List Val}{most:Int}{i:Nat}(h:i<vs.length):((vs.drop i).all fun v=>pg v most)=(pg vs[i] most&&(vs.drop (i+1)).all fun v=>pg v most):=by
 rw[List.drop_eq_getElem_cons h,List.all_cons]
set_option maxHeartbeats 1000000 in
theorem F1(f:Fun)(vs:List Val)(most:Int)(h0:0≤most)(h1:most≤1000000)(m:Mem):ai C0 34 [.agg (eG f (.isl false vs.length (Val.cellsL vs))),.int .i64 most] m=some (.ret (.bool (wu f vs most)),m):=by
 rw[ab C0 (aj _ (by decide)) (by rw[ay];exact Tryz.func34) rfl (by rw[ae];rfl) (by rw[ae];rfl) (by decide) (by simp[Tryz.f34])]
 have hfe:=Ek f most
 simp at hfe
 have hfe':=fun m=>hfe m (by omega) (by omega)
 unfold wu
 by_cases hl:(vs.length:Int)≤most
 case neg=>
  have hl':most<vs.length:=by omega
  simp[Tryz.f34,a34,reg34,loop34,hl,hl']
 have hl':¬most<vs.length:=by omega
 by_cases hc:0<fj f (most+1)
 case neg=>simp[Tryz.f34,a34,reg34,loop34,hl,hl',hfe',hc]
 simp[Tryz.f34,a34,reg34,loop34,hl,hl',hfe',hc]
 refine aC (fun x:Nat×Nat=>⟨[(1,.int .i64 most),(5,.int .i64 x.2),(21,.isl false vs.length (Val.cellsL vs)),(22,.int .i64 vs.length),(23,.int .i64 x.1)],⟨m.bx++[eG f (.isl false vs.length (Val.cellsL vs))],m.rw⟩⟩)
  (fun x=>some (.ret (.bool (((vs.drop x.1).all fun v=>pg v most)&&decide ((x.2+Val.nodesL (vs.drop x.1):Nat)≤most))),m)) (fun x=>vs.length-x.1) (fun x=>x.1≤vs.length∧(x.2:Int)≤most) (0,0) ?_ ?_ ?_ ?_ ?_
 ·simp
 ·simp
 ·simp;omega
 ·intro x;simp[Tryz.f34,a34,reg34,loop34]
 ·rintro⟨i,a⟩ hI hrec
  simp only at hI
  obtain⟨hi,ha⟩:=hI
  by_cases hlt:i<vs.length
  ·have w2:IntKind.i64.wrap (i+1)=i+1:=al _ (by omega)
   have he:=F8 vs[i] most
   simp at he
   have he':=fun m=>he m (by omega) (by omega)
   have h3:(i+1)*3≤vs.length*3:=by omega
   rw[Cn hlt,Val.nodesL_drop hlt]
   cases hcv:pg vs[i] most
   ·simp[round,Tryz.f34,a34,reg34,loop34,hlt,w2,h3,he',hcv]
   ·have hnd:=Ay h0 hcv
    have hn:=pJ vs[i].nodes vs[i] (Nat.le_refl _) (by omega)
    simp at hn
    have w3:IntKind.i64.wrap (a+vs[i].nodes)=a+vs[i].nodes:=al _ (by omega)
    by_cases hover:most<(a:Int)+vs[i].nodes
    ·have hno:¬((a:Int)+(vs[i].nodes+Val.nodesL (vs.drop (i+1))))≤most:=by omega
     simp[round,Tryz.f34,a34,reg34,loop34,hlt,w2,w3,h3,he',hn,hcv,hover,hno]
    ·simp[round,Tryz.f34,a34,reg34,loop34,hlt,w2,w3,h3,he',hn,hcv,hover]
     refine hrec (i+1,a+vs[i].nodes) _ _ ?_ ?_ ?_ ?_
     ·simp;omega
     ·simp;omega
     ·simp
     ·simp[Int.add_assoc]
  ·clear hrec
   simp[round,Tryz.f34,a34,reg34,loop34,hlt]
   rw[List.drop_eq_nil_of_le (by omega),Val.nodesL]
   simp
   omega
def Co(f:Fun)(vs:List Val):Int:=if okS f vs then 0 else 30
theorem xm(f:Fun)(vs:List Val)(m:Mem)(fl:Bool):ai C0 9 [.isl fl 1 (eG f (.isl false vs.length (Val.cellsL vs)))] m=some (.ret (.bool (wu f vs 1500)),m):=by
 rw[ab C0 (aj _ (by decide)) (by rw[ay];exact Tryz.func9) rfl (by rw[ae];rfl) (by rw[ae];rfl) (by decide) (by simp[Tryz.f9])]
 have he:=F1 f vs 1500 (by omega) (by omega)
 simp at he
 simp[Tryz.f9,a9,reg9,loop9]
 rw[aG]
 cases hc:wu f vs 1500
 ·simp[round,Tryz.f9,a9,reg9,loop9,he,hc]
 ·simp[round,Tryz.f9,a9,reg9,loop9,he,hc,aA,aZ]
  rw[aG]
  simp[round,Tryz.f9,a9,reg9,loop9]
theorem CY(f:Fun)(vs:List Val)(hf:f.nodes≤1000000)(hb:Val.nodesL vs≤1000000)(hs:∀v∈vs,aP v)(m:Mem)(fl:Bool):ai C0 12 [.isl fl 1 (eG f (.isl false vs.length (Val.cellsL vs)))] m=some (.ret (.int .i64 (Co f vs)),m):=by
 rw[ab C0 (aj _ (by decide)) (by rw[ay];exact Tryz.func12) rfl (by rw[ae];rfl) (by rw[ae];rfl) (by decide) (by simp[Tryz.f12])]
 have he:=FQ f vs hf hb hs
 have hsm:=xN f.nodes f f (Nat.le_refl _) (by omega)
 simp at he hsm
 unfold Co
 simp[Tryz.f12,a12,reg12,loop12,draw12,dok12]
 rw[aG]
 cases hc:okS f vs
 ·simp[round,Tryz.f12,a12,reg12,loop12,draw12,dok12,he,hc]
 ·simp[round,Tryz.f12,a12,reg12,loop12,draw12,dok12,he,hc,aA,aZ]
  rw[aG]
  simp[round,Tryz.f12,a12,reg12,loop12,draw12,dok12]
  rw[aG]
  simp[round,Tryz.f12,a12,reg12,loop12,draw12,dok12,hsm,sK,aA,aZ]
  rw[aG]
  simp[round,Tryz.f12,a12,reg12,loop12,draw12,dok12]
def xj(l:List UInt8):List A:=l.map fun b=> .int .u8 (b.toNat:Int)
@[simp] theorem GG(l:List UInt8):(xj l).length=l.length:=by simp[xj]
@[simp] theorem Hi(nb nr:Nat)(l:List UInt8):(xj l).all (closed nb nr)=true:=by
 rw[List.all_eq_true]
 intro a ha
 obtain⟨b,_,rfl⟩:=List.mem_map.1 ha
 rfl
theorem uE(l:List UInt8):(l.map fun b=>A.int .u8 (b.toNat:Int)).take l.length=l.map fun b=>A.int .u8 (b.toNat:Int):=List.take_of_length_le (by simp)
theorem uL(l:List UInt8):(∀x,x∈(l.map fun b=>A.int .u8 (b.toNat:Int))→flat x=true)=True:=by
 rw[eq_iff_iff]
 refine⟨fun _=>trivial,fun _ x hx=> ?_⟩
 obtain⟨b,_,rfl⟩:=List.mem_map.1 hx
 rfl
def ew(l:List UInt8):List Row:=[⟨78,[.rptr 0 2 0,.sl 1 l.length 0 l.length]⟩,⟨5,xj l⟩]
theorem xJ(nb:Nat)(R:List Row)(l:List UInt8):kL nb R (ew l):=fun i hi=>by
 match i,hi with
 |0,_=>exact .inr ⟨_,rfl,by simp[ew,closed]⟩
 |1,_=>exact .inr ⟨_,rfl,by simp[ew]⟩
theorem qV(s:List UInt8)(h0:s≠[])(hs:s.length≤1000000000)(bx:List (List A)):ai C0 47 [.rptr 0 2 0,.str s] ⟨bx,[⟨78,[.nilp,.nils]⟩]⟩=some (.ret (.tup [.int .i64 s.length,.nili]),⟨bx,ew s⟩):=by
 rw[ab C0 (aj _ (by decide)) (by rw[ay];exact Tryz.func47) rfl (by rw[ae];rfl) (by rw[ae];rfl) (by decide) (by simp[Tryz.f47])]
 have hl:¬s.length=0:=fun e=>h0 (List.eq_nil_of_length_eq_zero e)
 have hk:=jm Tryz.prog ⟨bx,[⟨78,[.nilp,.nils]⟩]⟩ [] (ew s) (.ret (.tup [.int .i64 s.length,.nili])) (xJ _ _ _) rfl
 simp[ew,xj] at hk
 simp[Tryz.f47,a47,reg47,n9,oG,h0,hl,hk,ew,xj,uE,uL,show s.length≤70368744177664 by omega]
theorem qX(l s:List UInt8)(hl:l.length+s.length≤1000000000)(bx:List (List A)):ai C0 47 [.rptr 0 2 0,.str s] ⟨bx,ew l⟩=some (.ret (.tup [.int .i64 s.length,.nili]),⟨bx,ew (l++s)⟩):=by
 rw[ab C0 (aj _ (by decide)) (by rw[ay];exact Tryz.func47) rfl (by rw[ae];rfl) (by rw[ae];rfl) (by decide) (by simp[Tryz.f47])]
 have hk:=jm Tryz.prog ⟨bx,ew l⟩ [] (ew (l++s)) (.ret (.tup [.int .i64 s.length,.nili])) (xJ _ _ _) rfl
 simp[ew,xj] at hk
 simp[Tryz.f47,a47,reg47,n9,oG,hk,ew,xj,uE,uL,show l.length+s.length≤70368744177664 by omega]
def nT(f:Fun)(x:Nat)(v:Val):List UInt8:=Lib.itoa x++[32,61,32]++dL v f++[10]
def eD(f:Fun):Nat→List Val→List UInt8
 |_,[]=>[]
 |x,v::r=>nT f x v++eD f (x+1) r
def ig(f:Fun):List UInt8:=[116,121,112,101,32]++aH f true++[10]
def sj(f:Fun)(vs:List Val):List UInt8:=ig f++eD f 0 vs
theorem p9(f:Fun):∀(x:Nat) (l:List Val) (v:Val),eD f x (l++[v])=eD f x l++nT f (x+l.length) v
 |x,[],v=>by simp[eD]
 |x,u::r,v=>by
  rw[List.cons_append,eD,p9 f (x+1) r v,eD,List.length_cons,show x+1+r.length=x+(r.length+1) by omega,List.append_assoc]
theorem qd{f:Fun}{vs:List Val}{i:Nat}(h:i<vs.length):eD f 0 (vs.take (i+1))=eD f 0 (vs.take i)++nT f i vs[i]:=by
 rw[List.take_succ_eq_append_getElem h,p9]
 simp[Nat.min_eq_left (Nat.le_of_lt h)]
theorem vk{n:Int}{f:Fun}{v:Val}(x:Nat)(hx:x<1000)(hn:n≤1000000)(hf:au f=true)(hok:okV exS n v f=true):(nT f x v).length≤30*v.nodes:=by
 have h1:=gI hn v f hf hok
 have h2:=je (n:=x) (by omega) (by omega)
 simp[nT]
 omega
theorem ko{n:Int}{f:Fun}(hn:n≤1000000)(hf:au f=true):∀(vs:List Val) (x:Nat),x+vs.length≤1000→(∀v∈vs,okV exS n v f=true)→(eD f x vs).length≤30*Val.nodesL vs
 |[],x,_,_=>by simp[eD]
 |v::r,x,hx,h=>by
  have h1:=vk x (by simp at hx;omega) hn hf (h v List.mem_cons_self)
  have h2:=ko hn hf r (x+1) (by simp at hx;omega) fun u hu=>h u (List.mem_cons_of_mem _ hu)
  rw[eD,List.length_append,Val.nodesL]
  omega
theorem lG:∀(vs:List Val) (i:Nat),Val.nodesL (vs.take i)≤Val.nodesL vs
 |[],i=>by simp
 |v::r,0=>by simp[Val.nodesL]
 |v::r,i+1=>by
  have:=lG r i
  simp[Val.nodesL]
  exact this
theorem mh(f:Fun)(hf:f.nodes≤10000):(ig f).length≤200000:=by
 have:=aU f true
 simp[ig]
 omega
theorem yp{l:List Nat}{B:List A}{L:List A}{tm:List (Nat×A)}{x y:List UInt8}(hl:l.all (fun t=>closed 1 2 (lk t tm))=true):
  endRound (some l) ⟨[B],ew x⟩ ⟨tm,⟨[B,L],ew y⟩⟩=some ⟨l.map fun t=>(t,lk t tm),⟨[B],ew y⟩⟩:=by
 have h:=du (B:=[B]) (L:=[]) (L':=[L]) (R:=[]) (R0:=ew x) (R':=ew y) (l:=l) (tm:=tm) (by simp) (by simpa [ew] using hl) (by simp) (by simp[ew,closed])
 simpa using h
theorem Cz {C:Cfg} {f nt:Nat} {σ:Type} (Q:Option (Ex×St)→Prop) (S:σ→St) (meas:σ→Nat) (I:σ→Prop) (x:σ) {b:Code} {s0:St}
  (hs:(⟨prune (C.ann.loop f (cu b)) s0.tm,s0.m⟩:St)=S x) (hI:I x) (hp:∀x,prune (C.ann.loop f (cu b)) (S x).tm=(S x).tm)
  (h:∀x,I x→(∀y s,meas y<meas x→I y→s=S y→Q (ak C f nt (.loop b) s))→Q (andThen (round C f nt b (S x)) (ak C f nt (.loop b)))):Q (ak C f nt (.loop b) s0):=by
 have e:ak C f nt (.loop b) s0=ak C f nt (.loop b) (S x):=by
  rw[aG,aG (s:=S x),hs]
  have:(⟨prune (C.ann.loop f (cu b)) (S x).tm,(S x).m⟩:St)=S x:=by rw[hp]
  rw[this]
 rw[e]
 have:=rY C f nt Q S (fun _=>True) meas I hp (fun x hx hr=>eq_true (h x hx fun y s h1 h2 h3=>by subst h3;exact of_eq_true (hr y h1 h2))) x hI
 exact of_eq_true this
set_option maxHeartbeats 2000000 in
theorem FN(f:Fun)(vs:List Val)(hf:f.nodes≤10000)(hb:Val.nodesL vs≤100000)(hn:vs.length≤1000)(hsh:au f=true)(hok:∀v∈vs,okV exS vs.length v f=true)(TM:List (Nat×A))(hT:lk 1 TM= .ptr 0 0)(hT4:lk 4 TM= .rptr 0 2 0):
  ∃tm,ak C0 aR 36 Ck ⟨TM,⟨[eG f (.isl false vs.length (Val.cellsL vs))],ew (ig f)⟩⟩=some (.normal,⟨tm,⟨[eG f (.isl false vs.length (Val.cellsL vs))],ew (sj f vs)⟩⟩)∧lk 4 tm= .rptr 0 2 0:=by
 have e:Ck=Ck:=rfl
 conv at e=>rhs;simp[Ck,sB,bE,sq1,sq2,Tryz.f17,a17,reg17,loop17,draw17,dok17]
 rw[e]
 clear e
 show ∃tm,ak C0 17 36 _ _=_∧_
 simp[Tryz.f17,a17,reg17,loop17,draw17,dok17,hT,hT4]
 refine Cz (fun z=>∃tm,cp 0 z=some (.normal,⟨tm,⟨[[.int .i64 f.kind,.int .i64 f.num,.isl false f.args.length (Fun.cellsL f.args),.isl false vs.length (Val.cellsL vs)]],ew (sj f vs)⟩⟩)∧lk 4 tm= .rptr 0 2 0)
  (fun i:Nat=>⟨[(1,.ptr 0 0),(4,.rptr 0 2 0),(17,.isl false vs.length (Val.cellsL vs)),(18,.int .i64 vs.length),(19,.int .i64 i)],⟨[[.int .i64 f.kind,.int .i64 f.num,.isl false f.args.length (Fun.cellsL f.args),.isl false vs.length (Val.cellsL vs)]],ew (ig f++eD f 0 (vs.take i))⟩⟩)
  (fun i=>vs.length-i) (fun i=>i≤vs.length) 0 ?_ ?_ ?_ ?_
 ·simp[Tryz.f17,a17,reg17,loop17,draw17,dok17,hT,hT4,eD]
 ·omega
 ·intro x;simp[Tryz.f17,a17,reg17,loop17,draw17,dok17]
 ·intro i hi hrec
  by_cases hlt:i<vs.length
  ·have w2:IntKind.i64.wrap (i+1)=i+1:=al _ (by omega)
   have hmem:=List.getElem_mem hlt
   have hnv:=Val.nodes_mem hmem
   have g3:=Val.at_cellsL vs i hlt
   have h3:(i+1)*3≤vs.length*3:=by omega
   have hi1:=om (i:Int) (by omega) (by omega)
   have hv1:=EV (ex:=exS) (n:=vs.length) (by omega) vs[i].nodes vs[i] (Nat.le_refl _) (by omega) f hsh (hok _ hmem)
   simp at hv1 hi1
   have hl1:(Lib.itoa (i:Int)).length≤7:=je (n:=i) (by omega) (by omega)
   have hl2:=gI (by omega) vs[i] f hsh (hok _ hmem)
   have hl3:=ko (n:=vs.length) (by omega) hsh (vs.take i) 0 (by simp;omega) fun v hv=>hok v (List.mem_of_mem_take hv)
   have hl4:Val.nodesL (vs.take i)≤Val.nodesL vs:=lG vs i
   have hl5:(ig f).length≤200000:=mh f hf
   have hW:=fun bx=>qX (ig f++eD f 0 (vs.take i)) (nT f i vs[i]) (by
    have:=vk (n:=vs.length) i (by omega) (by omega) hsh (hok _ hmem)
    simp;omega) bx
   simp[nT] at hW
   have hb1:(Lib.itoa (i:Int)).length≤9223372036854775804:=by omega
   have hb2:(Lib.itoa (i:Int)).length+3+(dL vs[i] f).length≤9223372036854775807:=by omega
   have hb3:(Lib.itoa (i:Int)).length+((dL vs[i] f).length+1+1+1)≤9223372036854775806:=by omega
   simp[round,Tryz.f17,a17,reg17,loop17,draw17,dok17,hlt,w2,h3,g3,hi1,hv1,hb1,hb2,hb3,hW]
   rw[yp (by simp)]
   simp
   refine hrec (i+1) _ ?_ ?_ ?_
   ·omega
   ·omega
   ·rw[qd hlt]
    simp[nT]
  ·clear hrec
   have hl:i=vs.length:=by omega
   subst hl
   simp[round,Tryz.f17,a17,reg17,loop17,draw17,dok17,sj]
end AE
end Go.Proofs.YtmfdpijmholedaaGreatDoor
