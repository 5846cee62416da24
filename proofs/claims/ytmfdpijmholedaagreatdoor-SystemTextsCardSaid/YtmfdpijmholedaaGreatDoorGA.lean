/- The evaluator's values and memory, held against the model's: when a value stands for a model's value in a world, and how that lives on. -/
import Derived.Test.YtmfdpijmholedaaGreatDoorAE1
import Derived.Below
import Derived.Laws.CopyOwn
import Derived.Laws.Rows
import Derived.Laws.Cells
import Derived.Lib.Strings
import Derived.Lib.SmallJoins
set_option linter.unusedVariables false
set_option linter.unusedSimpArgs false
namespace Go.Proofs.YtmfdpijmholedaaGreatDoor
namespace AE
open Go Go.RowKit
structure Gh where
 bb:Nat→Nat
 br:Nat→Nat
 cz:Nat→Nat
 es:Nat→Nat
 sh:Nat→Nat
 F:Nat→Nat→Prop
 nb:Nat
 rl:List Nat
def jL(w:World)(g:Gh)(b o:Nat)(us:List Value):Prop:=
 ∀j u,us[j]? =some u→g.F b (o+j)∧w.cell? ⟨b,o+j,none⟩=some u
mutual
def VR(w:World)(g:Gh):A→Value→Prop
 | .undef,_=>True
 | .int k n,v=>v= .int k n
 | .bool b,v=>v= .bool b
 | .str s,v=>v= .string ⟨s.toArray⟩
 | .nilp,v=>v= .pointer none
 | .nili,v=>v= .nilIface
 | .nilf,v=>v= .nilFunc
 | .yld l,v=>v= .func (.yield l) #[] #[]
 | .nils,v=>v= .slice none 0 0
 | .ifc t x,v=>∃u,v= .iface t u∧VR w g x u
 | .agg cs,v=>∃us:List Value,v= .agg us.toArray∧VRs w g cs us
 | .tup cs,v=>∃us:List Value,v= .tuple us.toArray∧VRs w g cs us
 | .isl full n cs,v=>∃a c,∃us:List Value,v= .slice a n c∧(full=true→c=n)∧n≤c∧VRs w g cs us∧(us≠[]→∃b o,a=some ⟨b,o,none⟩∧jL w g b o us)
 | .rp cs,v=>∃b o,∃us:List Value,v= .pointer (some ⟨b,o,none⟩)∧VRs w g cs us∧jL w g b o us
 | .ptr id off,v=>id<g.nb∧v= .pointer (some ⟨g.bb id,off,none⟩)
 | .sl id ver off n,v=>(∃b o c,v= .slice (some ⟨b,o,none⟩) n c∧n≤c)∧∃L,g.rl[id]? =some L∧ver≤L∧(ver=L→g.sh id≤off∧∃c,n≤c∧((c=0∧g.sh id<off∧∃b o,v= .slice (some ⟨b,o,none⟩) n c)∨(v= .slice (some ⟨g.br id,off-g.sh id,none⟩) n c∧(off=0∨(g.es id=1∧off+n=ver)→(off-g.sh id)+c*g.es id≤g.cz id)∧(off=0→ver≤c*g.es id))))
 | .rptr id ver off,v=>(∃b o,v= .pointer (some ⟨b,o,none⟩))∧∃L,g.rl[id]? =some L∧ver≤L∧(ver=L→g.sh id≤off∧v= .pointer (some ⟨g.br id,off-g.sh id,none⟩))
 | .fn f cs,v=>∃us:List Value,v= .func (.func f) #[] us.toArray∧VRs w g cs us
def VRs(w:World)(g:Gh):List A→List Value→Prop
 |[],us=>us=[]
 |a::r,us=>∃u t,us=u::t∧VR w g a u∧VRs w g r t
end
structure ExtB (w:World) (g:Gh) (w':World) (g':Gh):Prop where
 fx:∀b o,g.F b o→g'.F b o∧w'.cell? ⟨b,o,none⟩=w.cell? ⟨b,o,none⟩
 nb:g.nb≤g'.nb
 bb:∀i,i<g.nb→g'.bb i=g.bb i
 rl:∀i L,g.rl[i]? =some L→∃L',g'.rl[i]? =some L'∧L≤L'∧(L'=L→g'.br i=g.br i∧g'.cz i=g.cz i∧g'.sh i=g.sh i)∧g'.es i=g.es i
def dj(g:Gh)(b:Nat):Prop:=(∀i,i<g.nb→g.bb i≠b)∧(∀i,i<g.rl.length→g.br i≠b)∧∀o,¬g.F b o
structure Ext (w:World) (g:Gh) (w':World) (g':Gh):Prop extends ExtB w g w' g' where
 fr:∀b,b<w.heap.size→dj g b→w'.heap[b]? =w.heap[b]? ∧dj g' b
 sz:w.heap.size≤w'.heap.size
theorem ExtB.refl(w:World)(g:Gh):ExtB w g w g:=⟨fun _ _ h=>⟨h,rfl⟩,Nat.le_refl _,fun _ _=>rfl,fun i L h=>⟨L,h,Nat.le_refl _,fun _=>⟨rfl,rfl,rfl⟩,rfl⟩⟩
theorem Ext.refl(w:World)(g:Gh):Ext w g w g:=⟨ExtB.refl w g,fun b _ h=>⟨rfl,h⟩,Nat.le_refl _⟩
theorem Ext.trans{w w1 w2:World}{g g1 g2:Gh}(h:Ext w g w1 g1)(k:Ext w1 g1 w2 g2):Ext w g w2 g2:=by
 refine⟨⟨fun b o hF=> ?_,Nat.le_trans h.nb k.nb,fun i hi=> ?_,fun i L hL=> ?_⟩,fun b hb hl=> ?_,Nat.le_trans h.sz k.sz⟩
 ·obtain⟨h1,h2⟩:=h.fx b o hF
  obtain⟨k1,k2⟩:=k.fx b o h1
  exact⟨k1,k2.trans h2⟩
 ·rw[k.bb i (Nat.lt_of_lt_of_le hi h.nb),h.bb i hi]
 ·obtain⟨L1,h1,h2,h3,h4⟩:=h.rl i L hL
  obtain⟨L2,k1,k2,k3,k4⟩:=k.rl i L1 h1
  refine⟨L2,k1,Nat.le_trans h2 k2,fun e=> ?_,k4.trans h4⟩
  have e1:L1=L:=by omega
  have e2:L2=L1:=by omega
  exact⟨(k3 e2).1.trans (h3 e1).1,(k3 e2).2.1.trans (h3 e1).2.1,(k3 e2).2.2.trans (h3 e1).2.2⟩
 ·obtain⟨h1,h2⟩:=h.fr b hb hl
  have hb1:b<w1.heap.size:=by
   rw[Array.getElem?_eq_getElem hb] at h1
   exact(Array.getElem?_eq_some_iff.1 h1).1
  obtain⟨k1,k2⟩:=k.fr b hb1 h2
  exact⟨k1.trans h1,k2⟩
section
variable {w w':World} {g g':Gh}
theorem jL.monoB(h:ExtB w g w' g'){b o:Nat}{us:List Value}(k:jL w g b o us):jL w' g' b o us:=fun j u hj=>by
 obtain⟨k1,k2⟩:=k j u hj
 obtain⟨h1,h2⟩:=h.fx _ _ k1
 exact⟨h1,h2.trans k2⟩
mutual
theorem VR.monoB(h:ExtB w g w' g'):∀(a:A) (v:Value),VR w g a v→VR w' g' a v
 | .undef,_,_=>by rw[VR];trivial
 | .int _ _,_,k=>by rw[VR] at k⊢;exact k
 | .bool _,_,k=>by rw[VR] at k⊢;exact k
 | .str _,_,k=>by rw[VR] at k⊢;exact k
 | .nilp,_,k=>by rw[VR] at k⊢;exact k
 | .nili,_,k=>by rw[VR] at k⊢;exact k
 | .nilf,_,k=>by rw[VR] at k⊢;exact k
 | .yld _,_,k=>by rw[VR] at k⊢;exact k
 | .nils,_,k=>by rw[VR] at k⊢;exact k
 | .ifc t x,_,k=>by
   rw[VR] at k⊢
   obtain⟨u,e,k⟩:=k
   exact⟨u,e,VR.monoB h x u k⟩
 | .agg cs,_,k=>by
   rw[VR] at k⊢
   obtain⟨us,e,k⟩:=k
   exact⟨us,e,VRs.monoB h cs us k⟩
 | .tup cs,_,k=>by
   rw[VR] at k⊢
   obtain⟨us,e,k⟩:=k
   exact⟨us,e,VRs.monoB h cs us k⟩
 | .isl full n cs,_,k=>by
   rw[VR] at k⊢
   obtain⟨a,c,us,e,k1,k2,k3,k4⟩:=k
   refine⟨a,c,us,e,k1,k2,VRs.monoB h cs us k3,fun hn=> ?_⟩
   obtain⟨b,o,e,l⟩:=k4 hn
   exact⟨b,o,e,l.monoB h⟩
 | .rp cs,_,k=>by
   rw[VR] at k⊢
   obtain⟨b,o,us,e,k1,k2⟩:=k
   exact⟨b,o,us,e,VRs.monoB h cs us k1,k2.monoB h⟩
 | .ptr id off,_,k=>by
   rw[VR] at k⊢
   exact⟨Nat.lt_of_lt_of_le k.1 h.nb,by rw[h.bb _ k.1];exact k.2⟩
 | .sl id ver off n,_,k=>by
   rw[VR] at k⊢
   obtain⟨k0,L,k1,k2,k3⟩:=k
   obtain⟨L',h1,h2,h3,h4⟩:=h.rl id L k1
   refine⟨k0,L',h1,by omega,fun e=> ?_⟩
   obtain⟨h5,h6,h7⟩:=h3 (by omega)
   rw[h4,h5,h6,h7]
   exact k3 (by omega)
 | .rptr id ver off,_,k=>by
   rw[VR] at k⊢
   obtain⟨k0,L,k1,k2,k3⟩:=k
   obtain⟨L',h1,h2,h3,h4⟩:=h.rl id L k1
   refine⟨k0,L',h1,by omega,fun e=> ?_⟩
   obtain⟨h5,h6,h7⟩:=h3 (by omega)
   rw[h5,h7]
   exact k3 (by omega)
 | .fn f cs,_,k=>by
   rw[VR] at k⊢
   obtain⟨us,e,k⟩:=k
   exact⟨us,e,VRs.monoB h cs us k⟩
theorem VRs.monoB(h:ExtB w g w' g'):∀(cs:List A) (us:List Value),VRs w g cs us→VRs w' g' cs us
 |[],_,k=>by rw[VRs] at k⊢;exact k
 |a::r,_,k=>by
  rw[VRs] at k⊢
  obtain⟨u,t,e,k1,k2⟩:=k
  exact⟨u,t,e,VR.monoB h a u k1,VRs.monoB h r t k2⟩
end
theorem jL.mono(h:Ext w g w' g'){b o:Nat}{us:List Value}(k:jL w g b o us):jL w' g' b o us:=k.monoB h.toExtB
theorem VR.mono(h:Ext w g w' g')(a:A)(v:Value)(k:VR w g a v):VR w' g' a v:=VR.monoB h.toExtB a v k
theorem VRs.mono(h:Ext w g w' g')(cs:List A)(us:List Value)(k:VRs w g cs us):VRs w' g' cs us:=VRs.monoB h.toExtB cs us k
end
theorem VR.sl_at{w:World}{g:Gh}{id ver off n:Nat}{v:Value}(h:VR w g (.sl id ver off n) v)(hl:g.rl[id]? =some ver)(hn:0<n∨off=0):
  g.sh id≤off∧∃c,v= .slice (some ⟨g.br id,off-g.sh id,none⟩) n c∧n≤c∧(off=0∨(g.es id=1∧off+n=ver)→(off-g.sh id)+c*g.es id≤g.cz id):=by
 rw[VR] at h
 obtain⟨_,L,k1,k2,k3⟩:=h
 rw[hl] at k1
 obtain⟨h1,c,h2,h3⟩:=k3 (Option.some.inj k1)
 rcases h3 with⟨h4,h5,_⟩|⟨h4,h5⟩
 ·omega
 ·exact⟨h1,c,h4,h2,h5.1⟩
theorem VR.sl_zero{w:World}{g:Gh}{id ver n:Nat}{v:Value}(h:VR w g (.sl id ver 0 n) v)(hl:g.rl[id]? =some ver):
  g.sh id=0∧∃c,v= .slice (some ⟨g.br id,0,none⟩) n c∧n≤c∧c*g.es id≤g.cz id:=by
 obtain⟨h1,c,h2,h3,h4⟩:=h.sl_at hl (.inr rfl)
 have h0:g.sh id=0:=by omega
 rw[h0] at h2 h4
 exact⟨h0,c,h2,h3,by simpa using h4 (.inl rfl)⟩
theorem VR.sl_cap{w:World}{g:Gh}{id ver n:Nat}{v:Value}(h:VR w g (.sl id ver 0 n) v)(hl:g.rl[id]? =some ver):
  g.sh id=0∧∃c,v= .slice (some ⟨g.br id,0,none⟩) n c∧n≤c∧c*g.es id≤g.cz id∧ver≤c*g.es id:=by
 rw[VR] at h
 obtain⟨_,L,k1,k2,k3⟩:=h
 rw[hl] at k1
 obtain⟨h1,c,h2,h3⟩:=k3 (Option.some.inj k1)
 have h0:g.sh id=0:=by omega
 rcases h3 with⟨h4,h5,_⟩|⟨h4,h5,h6⟩
 ·omega
 ·rw[h0] at h4 h5
  exact⟨h0,c,h4,h2,by simpa using h5 (.inl rfl),h6 rfl⟩
theorem VR.mk_sl{w:World}{g:Gh}{id ver n c:Nat}(hl:g.rl[id]? =some ver)(h0:g.sh id=0)(hn:n≤c)(hc:c*g.es id≤g.cz id)(hv:ver≤c*g.es id):VR w g (.sl id ver 0 n) (.slice (some ⟨g.br id,0,none⟩) n c):=by
 rw[VR]
 refine⟨⟨_,_,_,rfl,hn⟩,ver,hl,Nat.le_refl _,fun _=>⟨by omega,c,hn,.inr ⟨by rw[h0],fun _=>by rw[h0];simpa using hc,fun _=>hv⟩⟩⟩
section
variable {w:World} {g:Gh}
theorem VRs.nil_iff{us:List Value}:VRs w g [] us↔us=[]:=by rw[VRs]
theorem VRs.cons_iff{a:A}{r:List A}{us:List Value}:VRs w g (a::r) us↔∃u t,us=u::t∧VR w g a u∧VRs w g r t:=by rw[VRs]
theorem VRs.mk_nil:VRs w g [] []:=by rw[VRs]
theorem VRs.mk_cons{a:A}{r:List A}{u:Value}{t:List Value}(h:VR w g a u)(k:VRs w g r t):VRs w g (a::r) (u::t):=by rw[VRs];exact⟨u,t,rfl,h,k⟩
theorem VRs.one{a:A}{u:Value}(h:VR w g a u):VRs w g [a] [u]:= .mk_cons h .mk_nil
theorem VRs.length:∀{cs:List A} {us:List Value},VRs w g cs us→us.length=cs.length
 |[],_,h=>by rw[VRs.nil_iff] at h;subst h;rfl
 |a::r,_,h=>by
  rw[VRs.cons_iff] at h
  obtain⟨u,t,rfl,_,h⟩:=h
  simp[VRs.length h]
theorem VRs.append:∀{cs ds:List A} {us vs:List Value},VRs w g cs us→VRs w g ds vs→VRs w g (cs++ds) (us++vs)
 |[],_,_,_,h,k=>by rw[VRs.nil_iff] at h;subst h;exact k
 |a::r,_,_,_,h,k=>by
  rw[VRs.cons_iff] at h
  obtain⟨u,t,rfl,h1,h⟩:=h
  exact .mk_cons h1 (VRs.append h k)
theorem VRs.take:∀{cs:List A} {us:List Value} (n:Nat),VRs w g cs us→VRs w g (cs.take n) (us.take n)
 |[],_,n,h=>by rw[VRs.nil_iff] at h;subst h;simpa using VRs.mk_nil
 |a::r,_,0,h=>by simpa using VRs.mk_nil
 |a::r,_,n+1,h=>by
  rw[VRs.cons_iff] at h
  obtain⟨u,t,rfl,h1,h⟩:=h
  exact .mk_cons h1 (VRs.take n h)
theorem VRs.drop:∀{cs:List A} {us:List Value} (n:Nat),VRs w g cs us→VRs w g (cs.drop n) (us.drop n)
 |[],_,n,h=>by rw[VRs.nil_iff] at h;subst h;simpa using VRs.mk_nil
 |a::r,_,0,h=>by simpa using h
 |a::r,_,n+1,h=>by
  rw[VRs.cons_iff] at h
  obtain⟨u,t,rfl,h1,h⟩:=h
  exact VRs.drop n h
theorem VRs.at_:∀{cs:List A} {us:List Value} (n:Nat) (a:A),VRs w g cs us→cs[n]? =some a→∃u,us[n]? =some u∧VR w g a u
 |[],_,n,a,h,k=>by simp at k
 |b::r,_,0,a,h,k=>by
  rw[VRs.cons_iff] at h
  obtain⟨u,t,rfl,h1,h⟩:=h
  simp at k
  subst k
  exact⟨u,rfl,h1⟩
 |b::r,_,n+1,a,h,k=>by
  rw[VRs.cons_iff] at h
  obtain⟨u,t,rfl,h1,h⟩:=h
  exact VRs.at_ n a h (by simpa using k)
theorem VRs.replicate{a:A}{u:Value}(h:VR w g a u):∀n,VRs w g (List.replicate n a) (List.replicate n u)
 |0=> .mk_nil
 |n+1=> .mk_cons h (VRs.replicate h n)
theorem VRs.flatten{z:List A}{zs:List Value}(h:VRs w g z zs):∀n,VRs w g (List.replicate n z).flatten (List.replicate n zs).flatten
 |0=> .mk_nil
 |n+1=>by
  rw[List.replicate_succ,List.replicate_succ,List.flatten_cons,List.flatten_cons]
  exact .append h (VRs.flatten h n)
theorem VRs.split{cs ds:List A}{us:List Value}(h:VRs w g (cs++ds) us):∃u1 u2,us=u1++u2∧VRs w g cs u1∧VRs w g ds u2:=by
 refine⟨us.take cs.length,us.drop cs.length,(List.take_append_drop _ _).symm, ?_, ?_⟩
 ·have:=h.take cs.length;rwa [List.take_left'] at this;rfl
 ·have:=h.drop cs.length;rwa [List.drop_left'] at this;rfl
theorem jL.drop{b o:Nat}{us:List Value}(h:jL w g b o us)(n:Nat):jL w g b (o+n) (us.drop n):=fun j u hj=>by
 have:=h (n+j) u (by rw[List.getElem?_drop] at hj;exact hj)
 rwa [←Nat.add_assoc] at this
theorem jL.take{b o:Nat}{us:List Value}(h:jL w g b o us)(n:Nat):jL w g b o (us.take n):=fun j u hj=>by
 rw[List.getElem?_take] at hj
 split at hj
 ·exact h j u hj
 ·cases hj
theorem VR.flat:∀{a:A} {v:Value},VR w g a v→flat a=true→v.oneCell'=true∧v.cells= #[v]:=by
 intro a v h hf
 cases a<;>simp only[AE.flat,Bool.false_eq_true] at hf<;>rw[VR] at h
 all_goals first
  |(subst h;exact⟨rfl,rfl⟩)
  |(obtain⟨u,rfl,_⟩:=h;exact⟨rfl,rfl⟩)
  |(obtain⟨u,t,x,rfl,_⟩:=h;exact⟨rfl,rfl⟩)
  |(obtain⟨_,rfl⟩:=h;exact⟨rfl,rfl⟩)
  |(obtain⟨⟨_,_,rfl⟩,_⟩:=h;exact⟨rfl,rfl⟩)
  |(obtain⟨⟨_,_,_,rfl,_⟩,_⟩:=h;exact⟨rfl,rfl⟩)
theorem VR.cells:∀{a:A} {v:Value},VR w g a v→(a.cells.all AE.flat=true)→VRs w g a.cells v.cells.toList:=by
 intro a v h hf
 by_cases ha:∃cs,a= .agg cs
 ·obtain⟨cs,rfl⟩:=ha
  rw[VR] at h
  obtain⟨us,rfl,h⟩:=h
  simpa [Value.cells,A.cells] using h
 ·have hc:a.cells=[a]:=by cases a<;>first|rfl|exact absurd ⟨_,rfl⟩ ha
  rw[hc] at hf⊢
  simp at hf
  rw[(VR.flat h hf).2]
  exact .one h
theorem VR.part{a:A}{v:Value}(h:VR w g a v)(hf:pd a=true):VRs w g a.cells v.cells.toList:=by
 by_cases ha:∃cs,a= .agg cs
 ·obtain⟨cs,rfl⟩:=ha
  rw[VR] at h
  obtain⟨us,rfl,h⟩:=h
  simpa [Value.cells,A.cells] using h
 ·have hc:a.cells=[a]:=by cases a<;>first|rfl|exact absurd ⟨_,rfl⟩ ha
  have hf':AE.flat a=true:=by cases a<;>first|exact hf|exact absurd ⟨_,rfl⟩ ha
  rw[hc,(VR.flat h hf').2]
  exact .one h
theorem VRs.flats:∀{cs:List A} {us:List Value},VRs w g cs us→cs.all AE.flat=true→∀u∈us,u.oneCell'=true
 |[],_,h,_=>by rw[VRs.nil_iff] at h;subst h;simp
 |a::r,_,h,k=>by
  rw[VRs.cons_iff] at h
  obtain⟨u,t,rfl,h1,h⟩:=h
  simp at k
  intro x hx
  rcases List.mem_cons.1 hx with rfl|hx
  ·exact(VR.flat h1 k.1).1
  ·exact VRs.flats h (by simpa using k.2) x hx
end
def zR:List Int:=[1,10,100,1000,10000,100000,1000000,10000000,100000000,1000000000,10000000000,100000000000,1000000000000,10000000000000,100000000000000,1000000000000000,10000000000000000,100000000000000000,1000000000000000000,10000000000000000000]
def nW(P:Program)(w:World):Prop:=w.var? P "internal/strconv.uint64pow10" =some (zR.map fun z=>Value.int .u64 z).toArray
theorem nW.up{P:Program}{w0 w:World}(hb:Below w0.heap.size w0 w)(h:nW P w0):nW P w:=by
 unfold nW World.var? at h⊢
 obtain⟨g,h1,h2⟩:=Option.bind_eq_some_iff.1 h
 rw[h1,Option.bind_some]
 have hlt:g<w0.heap.size:=by
  cases hg:w0.heap[g]? with
  |none=>rw[hg] at h2;cases h2
  |some o=>exact(Array.getElem?_eq_some_iff.1 hg).1
 rw[hb.block g hlt]
 exact h2
structure SR (P:Program) (glo:Nat→A) (w0:World) (g:Gh) (m:Mem) (w:World):Prop where
 below:Below w0.heap.size w0 w
 nb:g.nb=m.bx.length
 rl:g.rl=m.rw.map fun r=>r.cs.length
 es:∀i r,m.rw[i]? =some r→g.es i=ao P r.el
 bx:∀i cs,m.bx[i]? =some cs→∃(us:Array Value) (e:TypeId),w.heap[g.bb i]? =some (.cells us e (0,0))∧VRs w g cs us.toList
 rw:∀i r,m.rw[i]? =some r→∃(us:Array Value) (ss rest:List Value),w.heap[g.br i]? =some (.cells us r.el (0,0))∧us.size=g.cz i∧us.toList=ss.drop (g.sh i)++rest∧VRs w g r.cs ss
 ownb:∀i,i<g.nb→w0.heap.size≤g.bb i∧∀o,¬g.F (g.bb i) o
 ownr:∀i,i<g.rl.length→w0.heap.size≤g.br i∧∀o,¬g.F (g.br i) o
 injb:∀i j,i<g.nb→j<g.nb→g.bb i=g.bb j→i=j
 injr:∀i j,i<g.rl.length→j<g.rl.length→g.br i=g.br j→i=j
 dis:∀i j,i<g.nb→j<g.rl.length→g.bb i≠g.br j
 lim:∀b o,g.F b o→b<w.heap.size
 gl:∀n,VR w g (glo n) (.pointer (some ⟨n,0,none⟩))
 dr:glo 1000000007= .rp []→w0.drawn≤w.drawn
 tb:glo 1000000009= .rp []→nW P w0
section
variable {P:Program} {gl:Nat→A} {w0:World} {g:Gh} {m:Mem} {w:World}
theorem SR.szB(h:SR P gl w0 g m w):w0.heap.size≤w.heap.size:=h.below.size
theorem SR.bb_lt(h:SR P gl w0 g m w){i:Nat}(hi:i<g.nb):g.bb i<w.heap.size:=by
 rw[h.nb] at hi
 obtain⟨us,e,h1,_⟩:=h.bx i _ (List.getElem?_eq_getElem hi)
 exact(Array.getElem?_eq_some_iff.1 h1).1
theorem SR.br_lt(h:SR P gl w0 g m w){i:Nat}(hi:i<g.rl.length):g.br i<w.heap.size:=by
 rw[h.rl,List.length_map] at hi
 obtain⟨us,ss,rest,h1,_⟩:=h.rw i _ (List.getElem?_eq_getElem hi)
 exact(Array.getElem?_eq_some_iff.1 h1).1
theorem SR.rlen(h:SR P gl w0 g m w):g.rl.length=m.rw.length:=by rw[h.rl,List.length_map]
theorem SR.drew(h:SR P gl w0 g m w):SR P gl w0 g m w.drew∧Ext w g w.drew g:=
 have e:Ext w g w.drew g:=⟨⟨fun _ _ h=>⟨h,rfl⟩,Nat.le_refl _,fun _ _=>rfl,fun i L h=>⟨L,h,Nat.le_refl _,fun _=>⟨rfl,rfl,rfl⟩,rfl⟩⟩,fun b _ h=>⟨rfl,h⟩,Nat.le_refl _⟩
 ⟨⟨h.below.drew,h.nb,h.rl,h.es,fun i cs hi=>by
   obtain⟨us,t,h1,h2⟩:=h.bx i cs hi
   exact⟨us,t,h1,h2.mono e⟩,fun i r hi=>by
   obtain⟨us,ss,rest,h1,h2,h3,h4⟩:=h.rw i r hi
   exact⟨us,ss,rest,h1,h2,h3,h4.mono e⟩,h.ownb,h.ownr,h.injb,h.injr,h.dis,h.lim,fun n=>(h.gl n).mono e,fun hf=>Nat.le_succ_of_le (h.dr hf),h.tb⟩,e⟩
theorem iU(w:World)(o:Obj){b:Nat}(i:Nat)(h:b<w.heap.size):(w.alloc o).cell? ⟨b,i,none⟩=w.cell? ⟨b,i,none⟩:=World.cell?_alloc_lt _ _ _ h
theorem heap_alloc(w:World)(o:Obj){b:Nat}(h:b<w.heap.size):(w.alloc o).heap[b]? =w.heap[b]? :=Below.heap_alloc _ _ _ h
theorem jR(w:World)(o:Obj):(w.alloc o).heap[w.heap.size]? =some o:=by
 show(w.heap.push o)[w.heap.size]? =some o
 simp
theorem SR.newBox(h:SR P gl w0 g m w){cs:List A}{us:Array Value}(e:TypeId)(hc:VRs w g cs us.toList):
  ∃g',SR P gl w0 g' ⟨m.bx++[cs],m.rw⟩ (w.alloc (.cells us e))∧Ext w g (w.alloc (.cells us e)) g'∧g'.bb m.bx.length=w.heap.size∧g'.nb=m.bx.length+1:=by
 let g':Gh:={g with bb:=fun i=>if i=m.bx.length then w.heap.size else g.bb i,nb:=m.bx.length+1}
 have E:Ext w g (w.alloc (.cells us e)) g':=by
  refine⟨⟨fun b o hF=>⟨hF,iU _ _ _ (h.lim b o hF)⟩,by simp[g',h.nb],fun i hi=> ?_,fun i L h=>⟨L,h,Nat.le_refl _,fun _=>⟨rfl,rfl,rfl⟩,rfl⟩⟩,fun b hb hl=>⟨heap_alloc _ _ hb,fun i hi=> ?_,hl.2⟩,by simp⟩
  ·rw[h.nb] at hi
   simp only[g']
   rw[if_neg (by omega)]
  ·simp only[g']
   split
   ·omega
   ·refine hl.1 i ?_
    rw[h.nb]
    simp only[g'] at hi
    omega
 have hlt:∀i,i<m.bx.length→g'.bb i=g.bb i:=fun i hi=>by simp only[g'];rw[if_neg (by omega)]
 have hnew:g'.bb m.bx.length=w.heap.size:=by simp[g']
 refine⟨g',⟨h.below.alloc h.szB _,by simp[g'],h.rl,h.es,fun i ds hi=> ?_,fun i r hi=> ?_,fun i hi=> ?_,h.ownr,fun i j hi hj hij=> ?_,h.injr,fun i j hi hj=> ?_,fun b o hF=> ?_,fun n=>(h.gl n).mono E,h.dr,h.tb⟩,E,hnew,rfl⟩
 ·rcases Nat.lt_or_ge i m.bx.length with hl|hl
  ·rw[List.getElem?_append_left hl] at hi
   obtain⟨vs,t,h1,h2⟩:=h.bx i ds hi
   refine⟨vs,t, ?_,h2.mono E⟩
   rw[hlt i hl,heap_alloc _ _ (Array.getElem?_eq_some_iff.1 h1).1]
   exact h1
  ·rw[List.getElem?_append_right hl] at hi
   obtain rfl:i=m.bx.length:=by
    have:=(List.getElem?_eq_some_iff.1 hi).1
    simp at this
    omega
   simp at hi
   subst hi
   exact⟨us,e,by rw[hnew];exact jR _ _,hc.mono E⟩
 ·obtain⟨vs,ss,rest,h1,h2,h3,h4⟩:=h.rw i r hi
  exact⟨vs,ss,rest,by rw[heap_alloc _ _ (Array.getElem?_eq_some_iff.1 h1).1];exact h1,h2,h3,h4.mono E⟩
 ·simp only[g'] at hi
  rcases Nat.lt_or_ge i m.bx.length with hl|hl
  ·rw[hlt i hl]
   exact h.ownb i (by rw[h.nb];exact hl)
  ·obtain rfl:i=m.bx.length:=by omega
   rw[hnew]
   exact⟨h.szB,fun o hF=>absurd (h.lim _ _ hF) (by omega)⟩
 ·simp only[g'] at hi hj
  rcases Nat.lt_or_ge i m.bx.length with hl|hl<;>rcases Nat.lt_or_ge j m.bx.length with hk|hk
  ·rw[hlt i hl,hlt j hk] at hij
   exact h.injb i j (by rw[h.nb];exact hl) (by rw[h.nb];exact hk) hij
  ·obtain rfl:j=m.bx.length:=by omega
   rw[hlt i hl,hnew] at hij
   have:=h.bb_lt (i:=i) (by rw[h.nb];exact hl)
   omega
  ·obtain rfl:i=m.bx.length:=by omega
   rw[hlt j hk,hnew] at hij
   have:=h.bb_lt (i:=j) (by rw[h.nb];exact hk)
   omega
  ·omega
 ·simp only[g'] at hi
  rcases Nat.lt_or_ge i m.bx.length with hl|hl
  ·rw[hlt i hl]
   exact h.dis i j (by rw[h.nb];exact hl) hj
  ·obtain rfl:i=m.bx.length:=by omega
   rw[hnew]
   have:=h.br_lt (i:=j) hj
   show w.heap.size≠g.br j
   omega
 ·have:=h.lim b o hF
  simp
  omega
theorem SR.adopt(h:SR P gl w0 g m w){b:Nat}{us:Array Value}{e:TypeId}{z:List A}(hb:w0.heap.size≤b)(hl:dj g b)(hh:w.heap[b]? =some (.cells us e (0,0)))(hc:VRs w g z us.toList):
  ∃g',SR P gl w0 g' ⟨m.bx++[z],m.rw⟩ w∧ExtB w g w g'∧g'.bb m.bx.length=b∧g'.nb=m.bx.length+1∧∀b',b'≠b→dj g b'→dj g' b':=by
 let g':Gh:={g with bb:=fun i=>if i=m.bx.length then b else g.bb i,nb:=m.bx.length+1}
 have E:ExtB w g w g':=by
  refine⟨fun b o hF=>⟨hF,rfl⟩,by simp[g',h.nb],fun i hi=> ?_,fun i L h=>⟨L,h,Nat.le_refl _,fun _=>⟨rfl,rfl,rfl⟩,rfl⟩⟩
  rw[h.nb] at hi
  simp only[g']
  rw[if_neg (by omega)]
 have hlt:∀i,i<m.bx.length→g'.bb i=g.bb i:=fun i hi=>by simp only[g'];rw[if_neg (by omega)]
 have hnew:g'.bb m.bx.length=b:=by simp[g']
 have hcase:∀i,i<g'.nb→i=m.bx.length∨(i<m.bx.length∧i<g.nb):=fun i hi=>by
  have:i<m.bx.length+1:=hi
  rw[h.nb]
  omega
 refine⟨g',⟨h.below,by simp[g'],h.rl,h.es,fun i ds hi=> ?_,fun i r hi=> ?_,fun i hi=> ?_,h.ownr,fun i j hi hj hij=> ?_,h.injr,fun i j hi hj=> ?_,h.lim,fun n=>VR.monoB E _ _ (h.gl n),h.dr,h.tb⟩,E,hnew,rfl,fun b' hb' hl'=>⟨fun i hi=> ?_,hl'.2⟩⟩
 ·rcases Nat.lt_or_ge i m.bx.length with hl2|hl2
  ·rw[List.getElem?_append_left hl2] at hi
   obtain⟨vs,t,h1,h2⟩:=h.bx i ds hi
   exact⟨vs,t,by rw[hlt i hl2];exact h1,VRs.monoB E _ _ h2⟩
  ·rw[List.getElem?_append_right hl2] at hi
   obtain rfl:i=m.bx.length:=by
    have:=(List.getElem?_eq_some_iff.1 hi).1
    simp at this
    omega
   simp at hi
   subst hi
   exact⟨us,e,by rw[hnew];exact hh,VRs.monoB E _ _ hc⟩
 ·obtain⟨vs,ss,rest,h1,h2,h3,h4⟩:=h.rw i r hi
  exact⟨vs,ss,rest,h1,h2,h3,VRs.monoB E _ _ h4⟩
 ·rcases hcase i hi with rfl|⟨h1,h2⟩
  ·rw[hnew];exact⟨hb,hl.2.2⟩
  ·rw[hlt i h1];exact h.ownb i h2
 ·rcases hcase i hi with rfl|⟨h1,h2⟩
  ·rcases hcase j hj with rfl|⟨h3,h4⟩
   ·rfl
   ·rw[hnew,hlt j h3] at hij
    exact absurd hij.symm (hl.1 j h4)
  ·rcases hcase j hj with rfl|⟨h3,h4⟩
   ·rw[hnew,hlt i h1] at hij
    exact absurd hij (hl.1 i h2)
   ·rw[hlt i h1,hlt j h3] at hij
    exact h.injb i j h2 h4 hij
 ·rcases hcase i hi with rfl|⟨h1,h2⟩
  ·rw[hnew];exact Ne.symm (hl.2.1 j hj)
  ·rw[hlt i h1];exact h.dis i j h2 hj
 ·rcases hcase i hi with rfl|⟨h1,h2⟩
  ·rw[hnew];exact Ne.symm hb'
  ·rw[hlt i h1];exact hl'.1 i h2
theorem SR.newLoose(h:SR P gl w0 g m w)(o:Obj):SR P gl w0 g m (w.alloc o)∧Ext w g (w.alloc o) g∧dj g w.heap.size:=by
 have E:Ext w g (w.alloc o) g:=⟨⟨fun b k hF=>⟨hF,iU _ _ _ (h.lim b k hF)⟩,Nat.le_refl _,fun _ _=>rfl,fun i L h=>⟨L,h,Nat.le_refl _,fun _=>⟨rfl,rfl,rfl⟩,rfl⟩⟩,fun b hb hl=>⟨heap_alloc _ _ hb,hl⟩,by simp⟩
 refine⟨⟨h.below.alloc h.szB _,h.nb,h.rl,h.es,fun i ds hi=> ?_,fun i r hi=> ?_,h.ownb,h.ownr,h.injb,h.injr,h.dis,fun b k hF=> ?_,fun n=>(h.gl n).mono E,h.dr,h.tb⟩,E,fun i hi=> ?_,fun i hi=> ?_,fun k hF=> ?_⟩
 ·obtain⟨vs,t,h1,h2⟩:=h.bx i ds hi
  exact⟨vs,t,by rw[heap_alloc _ _ (Array.getElem?_eq_some_iff.1 h1).1];exact h1,h2.mono E⟩
 ·obtain⟨vs,ss,rest,h1,h2,h3,h4⟩:=h.rw i r hi
  exact⟨vs,ss,rest,by rw[heap_alloc _ _ (Array.getElem?_eq_some_iff.1 h1).1];exact h1,h2,h3,h4.mono E⟩
 ·have:=h.lim b k hF
  simp
  omega
 ·have:=h.bb_lt hi;omega
 ·have:=h.br_lt hi;omega
 ·have:=h.lim _ k hF;omega
theorem SR.newFix(h:SR P gl w0 g m w)(us:Array Value)(e:TypeId)(lo hi:Nat):
  ∃g',SR P gl w0 g' m (w.alloc (.cells us e (lo,hi)))∧Ext w g (w.alloc (.cells us e (lo,hi))) g'∧jL (w.alloc (.cells us e (lo,hi))) g' w.heap.size 0 us.toList:=by
 let g':Gh:={g with F:=fun b o=>g.F b o∨(b=w.heap.size∧o<us.size)}
 have E:Ext w g (w.alloc (.cells us e (lo,hi))) g':=⟨⟨fun b o hF=>⟨.inl hF,iU _ _ _ (h.lim b o hF)⟩,Nat.le_refl _,fun i hi=>rfl,fun i L h=>⟨L,h,Nat.le_refl _,fun _=>⟨rfl,rfl,rfl⟩,rfl⟩⟩,fun b hb hl=>⟨heap_alloc _ _ hb,hl.1,hl.2.1,fun o hF=>by
  rcases hF with hF|⟨rfl,_⟩
  ·exact hl.2.2 o hF
  ·omega⟩,by simp⟩
 refine⟨g',⟨h.below.alloc h.szB _,h.nb,h.rl,h.es,fun i ds hi=> ?_,fun i r hi=> ?_,fun i hi=>⟨(h.ownb i hi).1,fun o hF=> ?_⟩,fun i hi=>⟨(h.ownr i hi).1,fun o hF=> ?_⟩,h.injb,h.injr,h.dis,fun b o hF=> ?_,fun n=>(h.gl n).mono E,h.dr,h.tb⟩,E,fun j u hj=> ?_⟩
 ·obtain⟨vs,t,h1,h2⟩:=h.bx i ds hi
  exact⟨vs,t,by rw[heap_alloc _ _ (Array.getElem?_eq_some_iff.1 h1).1];exact h1,h2.mono E⟩
 ·obtain⟨vs,ss,rest,h1,h2,h3,h4⟩:=h.rw i r hi
  exact⟨vs,ss,rest,by rw[heap_alloc _ _ (Array.getElem?_eq_some_iff.1 h1).1];exact h1,h2,h3,h4.mono E⟩
 ·rcases hF with hF|⟨hF,_⟩
  ·exact(h.ownb i hi).2 o hF
  ·have:=h.bb_lt hi
   have hF:g.bb i=w.heap.size:=hF
   have hi:i<g.nb:=hi
   omega
 ·rcases hF with hF|⟨hF,_⟩
  ·exact(h.ownr i hi).2 o hF
  ·have:=h.br_lt hi
   have hF:g.br i=w.heap.size:=hF
   have hi:i<g.rl.length:=hi
   omega
 ·rcases hF with hF|⟨hF,_⟩
  ·have:=h.lim b o hF;simp;omega
  ·simp;omega
 ·have hj':j<us.size:=by
   have:=(List.getElem?_eq_some_iff.1 hj).1
   simpa using this
  refine⟨.inr ⟨rfl,by omega⟩, ?_⟩
  have hn:=jR w (.cells us e (lo,hi))
  simp only[World.cell?,hn,Nat.zero_add]
  simpa using hj
theorem SR.newRow(h:SR P gl w0 g m w){cs:List A}{us:Array Value}{ss rest:List Value}(e:TypeId)(hus:us.toList=ss++rest)(hc:VRs w g cs ss):
  ∃g',SR P gl w0 g' ⟨m.bx,m.rw++[⟨e,cs⟩]⟩ (w.alloc (.cells us e))∧Ext w g (w.alloc (.cells us e)) g'∧g'.br m.rw.length=w.heap.size∧g'.cz m.rw.length=us.size∧g'.es m.rw.length=ao P e∧g'.rl[m.rw.length]? =some cs.length∧g'.sh m.rw.length=0:=by
 let g':Gh:={g with br:=fun i=>if i=m.rw.length then w.heap.size else g.br i,cz:=fun i=>if i=m.rw.length then us.size else g.cz i,es:=fun i=>if i=m.rw.length then ao P e else g.es i,sh:=fun i=>if i=m.rw.length then 0 else g.sh i,rl:=g.rl++[cs.length]}
 have hlen:=h.rlen
 have E:Ext w g (w.alloc (.cells us e)) g':=by
  refine⟨⟨fun b o hF=>⟨hF,iU _ _ _ (h.lim b o hF)⟩,Nat.le_refl _,fun i hi=>rfl,fun i L hL=> ?_⟩,fun b hb hl=>⟨heap_alloc _ _ hb,hl.1,fun i hi=> ?_,hl.2.2⟩,by simp⟩
  ·have hi:=(List.getElem?_eq_some_iff.1 hL).1
   refine⟨L,by simp only[g'];rw[List.getElem?_append_left hi];exact hL,Nat.le_refl _,fun _=> ?_, ?_⟩
   ·simp only[g'];rw[if_neg (by omega),if_neg (by omega),if_neg (by omega)];exact⟨rfl,rfl,rfl⟩
   ·simp only[g'];rw[if_neg (by omega)]
  ·simp only[g']
   split
   ·omega
   ·refine hl.2.1 i ?_
    simp[g'] at hi
    omega
 have hlt:∀i,i<m.rw.length→g'.br i=g.br i∧g'.cz i=g.cz i∧g'.es i=g.es i∧g'.sh i=g.sh i:=fun i hi=>by
  simp only[g'];rw[if_neg (by omega),if_neg (by omega),if_neg (by omega),if_neg (by omega)];exact⟨rfl,rfl,rfl,rfl⟩
 have hnew:g'.br m.rw.length=w.heap.size∧g'.cz m.rw.length=us.size∧g'.es m.rw.length=ao P e∧g'.sh m.rw.length=0:=by simp[g']
 have hl':g'.rl.length=m.rw.length+1:=by simp[g',hlen]
 refine⟨g',⟨h.below.alloc h.szB _,h.nb,by simp[g',h.rl],fun i r hi=> ?_,fun i ds hi=> ?_,fun i r hi=> ?_,h.ownb,fun i hi=> ?_,h.injb,fun i j hi hj hij=> ?_,fun i j hi hj=> ?_,fun b o hF=> ?_,fun n=>(h.gl n).mono E,h.dr,h.tb⟩,E,hnew.1,hnew.2.1,hnew.2.2.1, ?_,hnew.2.2.2⟩
 ·rcases Nat.lt_or_ge i m.rw.length with hl|hl
  ·rw[List.getElem?_append_left hl] at hi
   rw[(hlt i hl).2.2.1]
   exact h.es i r hi
  ·rw[List.getElem?_append_right hl] at hi
   obtain rfl:i=m.rw.length:=by
    have:=(List.getElem?_eq_some_iff.1 hi).1
    simp at this
    omega
   simp at hi
   subst hi
   exact hnew.2.2.1
 ·obtain⟨vs,t,h1,h2⟩:=h.bx i ds hi
  exact⟨vs,t,by show(w.alloc _).heap[g.bb i]? =_;rw[heap_alloc _ _ (Array.getElem?_eq_some_iff.1 h1).1];exact h1,h2.mono E⟩
 ·rcases Nat.lt_or_ge i m.rw.length with hl|hl
  ·rw[List.getElem?_append_left hl] at hi
   obtain⟨vs,ss',rest',h1,h2,h3,h4⟩:=h.rw i r hi
   refine⟨vs,ss',rest', ?_,by rw[(hlt i hl).2.1];exact h2,by rw[(hlt i hl).2.2.2];exact h3,h4.mono E⟩
   rw[(hlt i hl).1,heap_alloc _ _ (Array.getElem?_eq_some_iff.1 h1).1]
   exact h1
  ·rw[List.getElem?_append_right hl] at hi
   obtain rfl:i=m.rw.length:=by
    have:=(List.getElem?_eq_some_iff.1 hi).1
    simp at this
    omega
   simp at hi
   subst hi
   exact⟨us,ss,rest,by rw[hnew.1];exact jR _ _,hnew.2.1.symm,by rw[hnew.2.2.2];exact hus,hc.mono E⟩
 ·rw[hl'] at hi
  rcases Nat.lt_or_ge i m.rw.length with hl|hl
  ·rw[(hlt i hl).1]
   exact h.ownr i (by omega)
  ·obtain rfl:i=m.rw.length:=by omega
   rw[hnew.1]
   exact⟨h.szB,fun o hF=>absurd (h.lim _ _ hF) (by omega)⟩
 ·rw[hl'] at hi hj
  rcases Nat.lt_or_ge i m.rw.length with hl|hl<;>rcases Nat.lt_or_ge j m.rw.length with hk|hk
  ·rw[(hlt i hl).1,(hlt j hk).1] at hij
   exact h.injr i j (by omega) (by omega) hij
  ·obtain rfl:j=m.rw.length:=by omega
   rw[(hlt i hl).1,hnew.1] at hij
   have:=h.br_lt (i:=i) (by omega)
   omega
  ·obtain rfl:i=m.rw.length:=by omega
   rw[(hlt j hk).1,hnew.1] at hij
   have:=h.br_lt (i:=j) (by omega)
   omega
  ·omega
 ·rw[hl'] at hj
  rcases Nat.lt_or_ge j m.rw.length with hl|hl
  ·rw[(hlt j hl).1]
   exact h.dis i j hi (by omega)
  ·obtain rfl:j=m.rw.length:=by omega
   rw[hnew.1]
   have:=h.bb_lt (i:=i) hi
   show g.bb i≠w.heap.size
   omega
 ·have:=h.lim b o hF
  simp
  omega
 ·simp only[g']
  rw[List.getElem?_append_right (by omega),hlen]
  simp
theorem mK(h:SR P gl w0 g m w){k:Nat}(us:Array Value)(hk:∀o,¬g.F k o){b o:Nat}(hF:g.F b o):(w.setRow k us).cell? ⟨b,o,none⟩=w.cell? ⟨b,o,none⟩:=
 cell_setRow_other _ _ _ _ fun e=>hk o (by rw[←e];exact hF)
theorem SR.setBox(h:SR P gl w0 g m w){i:Nat}{cs:List A}{us:Array Value}(hi:i<m.bx.length)(hc:VRs w g cs us.toList):
  SR P gl w0 g ⟨m.bx.set i cs,m.rw⟩ (w.setRow (g.bb i) us)∧Ext w g (w.setRow (g.bb i) us) g:=by
 have hin:i<g.nb:=by rw[h.nb];exact hi
 have own:=h.ownb i hin
 have E:Ext w g (w.setRow (g.bb i) us) g:=⟨⟨fun b o hF=>⟨hF,mK h us own.2 hF⟩,Nat.le_refl _,fun _ _=>rfl,fun i L h=>⟨L,h,Nat.le_refl _,fun _=>⟨rfl,rfl,rfl⟩,rfl⟩⟩,fun b hb hl=>⟨setRow_other _ _ _ _ (Ne.symm (hl.1 i hin)),hl⟩,by simp⟩
 refine⟨⟨below_setRow h.below own.1 us,by simp[h.nb],h.rl,h.es,fun j ds hj=> ?_,fun j r hj=> ?_,h.ownb,h.ownr,h.injb,h.injr,h.dis,fun b o hF=>by simpa using h.lim b o hF,fun n=>(h.gl n).mono E,h.dr,h.tb⟩,E⟩
 ·rw[List.getElem?_set] at hj
  by_cases hij:i=j
  ·subst hij
   simp[hi] at hj
   subst hj
   obtain⟨vs,t,h1,_⟩:=h.bx i _ (List.getElem?_eq_getElem hi)
   exact⟨us,t,setRow_heap _ _ _ _ _ _ h1,hc.mono E⟩
  ·rw[if_neg hij] at hj
   obtain⟨vs,t,h1,h2⟩:=h.bx j ds hj
   have hjl:=(List.getElem?_eq_some_iff.1 hj).1
   exact⟨vs,t,by rw[setRow_other _ _ _ _ fun e=>hij (h.injb i j hin (by rw[h.nb];exact hjl) e.symm)];exact h1,h2.mono E⟩
 ·obtain⟨vs,ss,rest,h1,h2,h3,h4⟩:=h.rw j r hj
  have hjl:=(List.getElem?_eq_some_iff.1 hj).1
  exact⟨vs,ss,rest,by rw[setRow_other _ _ _ _ fun e=>h.dis i j hin (by rw[h.rlen];exact hjl) e.symm];exact h1,h2,h3,h4.mono E⟩
theorem SR.setRow(h:SR P gl w0 g m w){i:Nat}{r:Row}{cs:List A}{us:Array Value}{ss rest:List Value}(hi:m.rw[i]? =some r)(hle:r.cs.length≤cs.length)(hsz:us.size=g.cz i)(hus:us.toList=ss.drop (g.sh i)++rest)(hc:VRs w g cs ss):
  ∃g',SR P gl w0 g' ⟨m.bx,m.rw.set i ⟨r.el,cs⟩⟩ (w.setRow (g.br i) us)∧Ext w g (w.setRow (g.br i) us) g'∧g'.br=g.br∧g'.cz=g.cz∧g'.es=g.es∧g'.rl[i]? =some cs.length∧g'.sh=g.sh:=by
 have hlt:=(List.getElem?_eq_some_iff.1 hi).1
 have hin:i<g.rl.length:=by rw[h.rlen];exact hlt
 have own:=h.ownr i hin
 have hri:g.rl[i]? =some r.cs.length:=by rw[h.rl,List.getElem?_map,hi];rfl
 let g':Gh:={g with rl:=g.rl.set i cs.length}
 have E:Ext w g (w.setRow (g.br i) us) g':=by
  refine⟨⟨fun b o hF=>⟨hF,mK h us own.2 hF⟩,Nat.le_refl _,fun _ _=>rfl,fun j L hL=> ?_⟩,fun b hb hl=>⟨setRow_other _ _ _ _ (Ne.symm (hl.2.1 i hin)),hl.1,fun j hj=>hl.2.1 j (by simpa [g'] using hj),hl.2.2⟩,by simp⟩
  by_cases hij:i=j
  ·subst hij
   rw[hri] at hL
   cases hL
   exact⟨cs.length,by simp[g',hin],hle,fun _=>⟨rfl,rfl,rfl⟩,rfl⟩
  ·exact⟨L,by simp only[g'];rw[List.getElem?_set_ne hij];exact hL,Nat.le_refl _,fun _=>⟨rfl,rfl,rfl⟩,rfl⟩
 refine⟨g',⟨below_setRow h.below own.1 us,h.nb, ?_,fun j s hj=> ?_,fun j ds hj=> ?_,fun j s hj=> ?_,h.ownb,fun j hj=>h.ownr j (by simpa [g'] using hj),h.injb,fun j k hj hk=>h.injr j k (by simpa [g'] using hj) (by simpa [g'] using hk),fun j k hj hk=>h.dis j k hj (by simpa [g'] using hk),fun b o hF=>by simpa using h.lim b o hF,fun n=>(h.gl n).mono E,h.dr,h.tb⟩,E,rfl,rfl,rfl,by simp[g',hin],rfl⟩
 ·simp only[g',h.rl,List.map_set]
 ·rw[List.getElem?_set] at hj
  by_cases hij:i=j
  ·subst hij
   simp[hlt] at hj
   subst hj
   exact h.es i r hi
  ·rw[if_neg hij] at hj
   exact h.es j s hj
 ·obtain⟨vs,t,h1,h2⟩:=h.bx j ds hj
  have hjl:=(List.getElem?_eq_some_iff.1 hj).1
  exact⟨vs,t,by show(w.setRow _ _).heap[g.bb j]? =_;rw[setRow_other _ _ _ _ (h.dis j i (by rw[h.nb];exact hjl) hin)];exact h1,h2.mono E⟩
 ·rw[List.getElem?_set] at hj
  by_cases hij:i=j
  ·subst hij
   simp[hlt] at hj
   subst hj
   obtain⟨vs,ss',rest',h1,h2,h3,h4⟩:=h.rw i r hi
   exact⟨us,ss,rest,setRow_heap _ _ _ _ _ _ h1,hsz,hus,hc.mono E⟩
  ·rw[if_neg hij] at hj
   obtain⟨vs,ss',rest',h1,h2,h3,h4⟩:=h.rw j s hj
   have hjl:=(List.getElem?_eq_some_iff.1 hj).1
   exact⟨vs,ss',rest',by show(w.setRow _ _).heap[g.br j]? =_;rw[setRow_other _ _ _ _ fun e=>hij (h.injr i j hin (by rw[h.rlen];exact hjl) e.symm)];exact h1,h2,h3,h4.mono E⟩
theorem SR.moveRow(h:SR P gl w0 g m w){i:Nat}{r:Row}{cs:List A}{us:Array Value}{ss rest:List Value}(hi:m.rw[i]? =some r)(hle:r.cs.length<cs.length){k:Nat}(hus:us.toList=ss.drop k++rest)(hc:VRs w g cs ss):
  ∃g',SR P gl w0 g' ⟨m.bx,m.rw.set i ⟨r.el,cs⟩⟩ (w.alloc (.cells us r.el))∧Ext w g (w.alloc (.cells us r.el)) g'∧g'.br i=w.heap.size∧g'.cz i=us.size∧g'.es i=ao P r.el∧g'.rl[i]? =some cs.length∧g'.sh i=k:=by
 have hlt:=(List.getElem?_eq_some_iff.1 hi).1
 have hin:i<g.rl.length:=by rw[h.rlen];exact hlt
 have hri:g.rl[i]? =some r.cs.length:=by rw[h.rl,List.getElem?_map,hi];rfl
 let g':Gh:={g with rl:=g.rl.set i cs.length,br:=fun j=>if j=i then w.heap.size else g.br j,cz:=fun j=>if j=i then us.size else g.cz j,sh:=fun j=>if j=i then k else g.sh j}
 have E:Ext w g (w.alloc (.cells us r.el)) g':=by
  refine⟨⟨fun b o hF=>⟨hF,iU _ _ _ (h.lim b o hF)⟩,Nat.le_refl _,fun _ _=>rfl,fun j L hL=> ?_⟩,fun b hb hl=>⟨heap_alloc _ _ hb,hl.1,fun j hj=> ?_,hl.2.2⟩,by simp⟩
  ·by_cases hij:i=j
   ·subst hij
    rw[hri] at hL
    cases hL
    exact⟨cs.length,by simp[g',hin],by omega,fun e=>by omega,rfl⟩
   ·refine⟨L,by simp only[g'];rw[List.getElem?_set_ne hij];exact hL,Nat.le_refl _,fun _=> ?_,rfl⟩
    simp only[g']
    rw[if_neg (fun e=>hij e.symm),if_neg (fun e=>hij e.symm),if_neg (fun e=>hij e.symm)]
    exact⟨rfl,rfl,rfl⟩
  ·simp only[g']
   split
   ·omega
   ·exact hl.2.1 j (by simpa [g'] using hj)
 have hne:∀j,j≠i→g'.br j=g.br j∧g'.cz j=g.cz j∧g'.sh j=g.sh j:=fun j hj=>by simp only[g'];rw[if_neg hj,if_neg hj,if_neg hj];exact⟨rfl,rfl,rfl⟩
 have hself:g'.br i=w.heap.size∧g'.cz i=us.size∧g'.sh i=k:=by simp[g']
 have hl':g'.rl.length=g.rl.length:=by simp[g']
 have hes:=h.es i r hi
 refine⟨g',⟨h.below.alloc h.szB _,h.nb, ?_,fun j s hj=> ?_,fun j ds hj=> ?_,fun j s hj=> ?_,h.ownb,fun j hj=> ?_,h.injb,fun j k hj hk hjk=> ?_,fun j k hj hk=> ?_,fun b o hF=> ?_,fun n=>(h.gl n).mono E,h.dr,h.tb⟩,E,hself.1,hself.2.1,hes,by simp[g',hin],hself.2.2⟩
 ·simp only[g',h.rl,List.map_set]
 ·rw[List.getElem?_set] at hj
  by_cases hij:i=j
  ·subst hij
   simp[hlt] at hj
   subst hj
   exact h.es i r hi
  ·rw[if_neg hij] at hj
   exact h.es j s hj
 ·obtain⟨vs,t,h1,h2⟩:=h.bx j ds hj
  exact⟨vs,t,by show(w.alloc _).heap[g.bb j]? =_;rw[heap_alloc _ _ (Array.getElem?_eq_some_iff.1 h1).1];exact h1,h2.mono E⟩
 ·rw[List.getElem?_set] at hj
  by_cases hij:i=j
  ·subst hij
   simp[hlt] at hj
   subst hj
   exact⟨us,ss,rest,by rw[hself.1];exact jR _ _,hself.2.1.symm,by rw[hself.2.2];exact hus,hc.mono E⟩
  ·rw[if_neg hij] at hj
   obtain⟨vs,ss',rest',h1,h2,h3,h4⟩:=h.rw j s hj
   refine⟨vs,ss',rest', ?_,by rw[(hne j (Ne.symm hij)).2.1];exact h2,by rw[(hne j (Ne.symm hij)).2.2];exact h3,h4.mono E⟩
   rw[(hne j (Ne.symm hij)).1,heap_alloc _ _ (Array.getElem?_eq_some_iff.1 h1).1]
   exact h1
 ·by_cases hij:j=i
  ·subst hij
   rw[hself.1]
   exact⟨h.szB,fun o hF=>absurd (h.lim _ _ hF) (by omega)⟩
  ·rw[(hne j hij).1]
   exact h.ownr j (by omega)
 ·rw[hl'] at hj hk
  by_cases h1:j=i<;>by_cases h2:k=i
  ·omega
  ·subst h1
   rw[hself.1,(hne k h2).1] at hjk
   have:=h.br_lt (i:=k) hk
   omega
  ·subst h2
   rw[hself.1,(hne j h1).1] at hjk
   have:=h.br_lt (i:=j) hj
   omega
  ·rw[(hne j h1).1,(hne k h2).1] at hjk
   exact h.injr j k hj hk hjk
 ·rw[hl'] at hk
  by_cases h2:k=i
  ·subst h2
   rw[hself.1]
   have:=h.bb_lt (i:=j) hj
   show g.bb j≠w.heap.size
   omega
  ·rw[(hne k h2).1]
   exact h.dis j k hj hk
 ·have:=h.lim b o hF
  simp
  omega
end
end AE
end Go.Proofs.YtmfdpijmholedaaGreatDoor
/- Each operation of the evaluator does what the model's operation does. -/
set_option linter.unusedVariables false
set_option linter.unusedSimpArgs false
namespace Go.Proofs.YtmfdpijmholedaaGreatDoor
namespace AE
open Go Go.RowKit
def jI(P:Program)(gl:Nat→A)(w0 w:World)(g:Gh)(m':Mem)(a:A)(r:Result Next):Prop:=
 ∃v w' g',(r= .ok (.value v) w'∨(r= .ok .skip w'∧v=undef))∧VR w' g' a v∧SR P gl w0 g' m' w'∧Ext w g w' g'
section
variable {P:Program} {gl:Nat→A} {w0:World} {g:Gh} {m:Mem} {w:World}
theorem jI.pure(hs:SR P gl w0 g m w){a:A}{v:Value}{r:Result Next}(hv:VR w g a v)(hr:r= .ok (.value v) w):jI P gl w0 w g m a r:=
 ⟨v,w,g,.inl hr,hv,hs,Ext.refl _ _⟩
theorem qY{t:TypeId}{d:TypeDesc}(h:P.underlying t=some d):∃i,P.info? t=some i:=by
 unfold Program.underlying at h
 cases hi:P.info? t with
 |none=>simp[hi] at h
 |some i=>exact⟨i,rfl⟩
theorem cT{t e:TypeId}(h:bI P t=some e):P.underlying t=some (.slice e):=by
 unfold bI at h
 cases hu:P.underlying t with
 |none=>simp[hu] at h
 |some d=>cases d<;>simp[hu] at h;rw[h]
theorem oO{t e:TypeId}{n:Nat}(h:ga P t=some (n,e)):P.underlying t=some (.array n e):=by
 unfold ga at h
 cases hu:P.underlying t with
 |none=>simp[hu] at h
 |some d=>cases d<;>simp[hu] at h;rw[h.1,h.2]
theorem rB{t:TypeId}(h:di P t=true):P.underlying t=some .string:=by
 unfold di at h
 cases hu:P.underlying t with
 |none=>simp[hu] at h
 |some d=>cases d<;>simp[hu] at h;rfl
theorem xu{t:TypeId}(h:cv P t=true):P.underlying t=some .bool:=by
 unfold cv at h
 cases hu:P.underlying t with
 |none=>simp[hu] at h
 |some d=>cases d<;>simp[hu] at h;rfl
theorem kF{t:TypeId}(h:dM P t=true):∃e,P.underlying t=some (.pointer e):=by
 unfold dM at h
 cases hu:P.underlying t with
 |none=>simp[hu] at h
 |some d=>cases d<;>simp[hu] at h;exact⟨_,rfl⟩
theorem mC{t:TypeId}{b:Bool}(h:dV P t=some b):(isAgg t).run P w= .ok b w:=by
 unfold dV at h
 cases hu:P.underlying t with
 |none=>simp[hu] at h
 |some d=>
  simp only[hu,Option.map_some,Option.some.injEq] at h
  simp only[isAgg,Sem.run_bind,run_underlying hu,Result.andThen_ok]
  cases d<;>simp_all
theorem ml{t:TypeId}{b:Bool}(h:dV P t=some b):∃i,P.info? t=some i:=by
 unfold dV at h
 cases hu:P.underlying t with
 |none=>simp[hu] at h
 |some d=>exact qY hu
theorem ek{t:TypeId}{i:TypeInfo}(h:P.info? t=some i):(sizeOf t).run P w= .ok (ao P t) w:=by
 simp[sizeOf,typeInfo,h,ao]
theorem run_size'{t:TypeId}(h:ao P t≠0):(sizeOf t).run P w= .ok (ao P t) w:=by
 unfold ao at h
 cases hi:P.info? t with
 |none=>simp[hi] at h
 |some i=>exact ek hi
theorem jK{t:TypeId}{z:List A}(h:bk P t=some z):∃v,(zeroValue t).run P w= .ok v w∧z=v.cells.toList.map A.ofCell:=by
 unfold bk at h
 cases hi:P.info? t with
 |none=>simp[hi] at h
 |some i=>
  simp only[hi,Option.bind_some] at h
  cases hz:i.zero with
  |none=>simp[hz] at h
  |some v=>
   simp only[hz,Option.map_some,Option.some.injEq] at h
   exact⟨v,by simp[zeroValue,typeInfo,hi,hz],h.symm⟩
theorem CU{t:TypeId}{z:List A}(h:bk P t=some z):∃v,(∀W:World,(zeroValue t).run P W= .ok v W)∧z=v.cells.toList.map A.ofCell:=by
 unfold bk at h
 cases hi:P.info? t with
 |none=>simp[hi] at h
 |some i=>
  simp only[hi,Option.bind_some] at h
  cases hz:i.zero with
  |none=>simp[hz] at h
  |some v=>
   simp only[hz,Option.map_some,Option.some.injEq] at h
   exact⟨v,fun W=>by simp[zeroValue,typeInfo,hi,hz],h.symm⟩
theorem yI{t:TypeId}{z:List A}(h:bk P t=some z):∃i,P.info? t=some i:=by
 unfold bk at h
 cases hi:P.info? t with
 |none=>simp[hi] at h
 |some i=>exact⟨i,rfl⟩
theorem uV{t:TypeId}{b:Nat}(h:bt P t=some b):∃i,P.info? t=some i∧i.bytes=b:=by
 unfold bt at h
 cases hi:P.info? t with
 |none=>simp[hi] at h
 |some i=>exact⟨i,rfl,by simpa [hi] using h⟩
theorem Es(v:Value):VR w g (A.ofF v) v:=by
 unfold A.ofF
 split<;>rw[VR]<;>first|trivial|rfl|exact⟨[],rfl,VRs.mk_nil⟩
theorem Cg(v:Value):VR w g (A.ofCell v) v:=by
 unfold A.ofCell
 split<;>first|(rw[VR];trivial)|exact Es v
theorem dp:∀l:List Value,VRs w g (l.map A.ofCell) l
 |[]=>VRs.mk_nil
 |v::r=> .mk_cons (Cg v) (dp r)
theorem EI(v:Value):VR w g (A.ofV v) v:=by
 unfold A.ofV
 split
 ·rename_i cs
  rw[VR]
  exact⟨cs.toList,rfl,dp _⟩
 ·exact Es v
theorem add_plain'(b o n:Nat):(⟨b,o,none⟩:Addr).add n=⟨b,o+n,none⟩:=by unfold Addr.add;split<;>simp_all
def At(w:World)(b o:Nat)(us:List Value):Prop:=∀j u,us[j]? =some u→w.cell? ⟨b,o+j,none⟩=some u
theorem jL.at{b o:Nat}{us:List Value}(h:jL w g b o us):At w b o us:=fun j u hj=>(h j u hj).2
theorem At.sub{b o:Nat}{us:List Value}(h:At w b o us)(d n:Nat):At w b (o+d) ((us.drop d).take n):=fun j u hj=>by
 rw[List.getElem?_take] at hj
 split at hj
 ·rw[List.getElem?_drop] at hj
  rw[Nat.add_assoc]
  exact h _ _ hj
 ·cases hj
theorem At.of_block{b:Nat}{us:Array Value}{e:TypeId}{fr:Nat×Nat}(h:w.heap[b]? =some (.cells us e fr)){ss rest:List Value}(hs:us.toList=ss++rest):At w b 0 ss:=fun j u hj=>by
 simp only[World.cell?,h,Nat.zero_add]
 have:us.toList[j]? =some u:=by
  rw[hs,List.getElem?_append_left (List.getElem?_eq_some_iff.1 hj).1]
  exact hj
 simpa using this
theorem pM{b o:Nat}{us:List Value}(h:At w b o us):(loadCells ⟨b,o,none⟩ us.length).run P w= .ok us.toArray w:=by
 refine run_loadCells_list w _ us fun j v hj=> ?_
 rw[add_plain']
 exact h j v hj
theorem vS{t:TypeId}{b o:Nat}{gb:Bool}(hg:dV P t=some gb){cs:List A}{us:List Value}(hc:VRs w g cs us)(ha:At w b o us)(hn:cs.length=if gb then ao P t else 1){a:A}(hv:js gb cs=some a):
  ∃v,(loadVar t ⟨b,o,none⟩).run P w= .ok v w∧VR w g a v:=by
 obtain⟨i,hi⟩:=ml hg
 cases gb with
 |true=>
  simp only[js,if_true,Option.some.injEq] at hv
  subst hv
  refine⟨.agg us.toArray, ?_,by rw[VR];exact⟨us,rfl,hc⟩⟩
  have hl:ao P t=us.length:=by rw[hc.length,hn];rfl
  have:=pM (P:=P) ha
  simp only[loadVar,Sem.run_bind,mC hg,Result.andThen_ok,if_true,ek hi,hl,this,Sem.run_pure]
 |false=>
  simp only[Bool.false_eq_true,if_false] at hn
  match cs,hn,hv,hc with
  |[c],_,hv,hc=>
   simp only[js,Bool.false_eq_true,if_false,Option.some.injEq] at hv
   subst hv
   rw[VRs.cons_iff] at hc
   obtain⟨u,t',rfl,h1,_⟩:=hc
   refine⟨u, ?_,h1⟩
   have:=ha 0 u rfl
   simp only[Nat.add_zero] at this
   simp only[loadVar,Sem.run_bind,mC hg,Result.andThen_ok,Bool.false_eq_true,if_false,run_load,this]
theorem ow{α:Type}(cs:List α){k off:Nat}(h:k≤off):(cs.drop k).drop (off-k)=cs.drop off:=by rw[List.drop_drop];congr 1;omega
theorem zf{α:Type}(cs xs:List α){k off:Nat}(h:k≤off)(hl:off≤cs.length):(cs.take off++xs++cs.drop (off+xs.length)).drop k=(cs.drop k).take (off-k)++xs++(cs.drop k).drop (off-k+xs.length):=by
 rw[List.append_assoc,List.drop_append_of_le_length (by simp;omega),List.drop_take,List.drop_drop,←List.append_assoc]
 congr 2
 omega
theorem VRs.sub{cs:List A}{us:List Value}(h:VRs w g cs us)(d n:Nat):VRs w g ((cs.drop d).take n) ((us.drop d).take n):=(h.drop d).take n
theorem p8(hs:SR P gl w0 g m w){t:TypeId}{x a:A}{v:Value}(h:iw P t x m=some a)(hx:VR w g x v):
  ∃u,(Instr.loadAt t v).run P w= .ok u w∧VR w g a u:=by
 unfold iw at h
 cases hg:dV P t with
 |none=>simp[hg] at h
 |some gb=>
  simp only[hg,Option.bind_eq_bind,Option.bind_some] at h
  generalize hN:(if gb=true then ao P t else 1)=n at h
  cases x<;>simp only[reduceCtorEq] at h
  case rp cs=>
   rw[VR] at hx
   obtain⟨b,o,us,rfl,hc,hl⟩:=hx
   split at h
   ·rename_i hn
    obtain⟨u,hu,hv⟩:=vS hg (hc.take _) (o:=o) (b:=b) (by simpa using hl.at.sub 0 n) (by simp;omega) h
    exact⟨u,by simp[Instr.loadAt,Instr.sureAddr,hu],hv⟩
   ·cases h
  case ptr id off=>
   rw[VR] at hx
   obtain⟨hid,rfl⟩:=hx
   cases hb:m.bx[id]? with
   |none=>simp[hb] at h
   |some cs=>
    simp only[hb,Option.bind_some] at h
    obtain⟨us,e,h1,h2⟩:=hs.bx id cs hb
    split at h
    ·rename_i hn
     have hat:=(At.of_block h1 (ss:=us.toList) (rest:=[]) (by simp)).sub off n
     rw[Nat.zero_add] at hat
     obtain⟨u,hu,hv⟩:=vS hg (h2.sub off _) hat (by simp;omega) h
     exact⟨u,by simp[Instr.loadAt,Instr.sureAddr,hu],hv⟩
    ·cases h
  case rptr id ver off=>
   rw[VR] at hx
   obtain⟨_,L,hL,hle,hx⟩:=hx
   cases hb:m.rw[id]? with
   |none=>simp[hb] at h
   |some r=>
    simp only[hb,Option.bind_some] at h
    obtain⟨us,ss,rest,h1,h2,h3,h4⟩:=hs.rw id r hb
    split at h
    ·rename_i hn
     have:L=r.cs.length:=by
      rw[hs.rl,List.getElem?_map,hb] at hL
      simpa using hL.symm
     obtain⟨hsh,rfl⟩:=hx (by omega)
     have hat:=(At.of_block h1 h3).sub (off-g.sh id) n
     rw[Nat.zero_add] at hat
     rw[ow _ hsh] at hat
     obtain⟨u,hu,hv⟩:=vS hg (h4.sub off n) hat (by simp;omega) h
     exact⟨u,by simp[Instr.loadAt,Instr.sureAddr,hu],hv⟩
    ·cases h
theorem VRs.setCells{cs xs:List A}{us vs:List Value}(hc:VRs w g cs us)(hx:VRs w g xs vs)(off:Nat):VRs w g (setCells cs off xs) (us.take off++vs++us.drop (off+vs.length)):=by
 unfold AE.setCells
 rw[hx.length]
 exact((hc.take off).append hx).append (hc.drop _)
theorem vD(hs:SR P gl w0 g m w){t:TypeId}{x y:A}{m':Mem}{v u:Value}(h:dY P t x y m=some m')(hx:VR w g x v)(hy:VR w g y u):
  ∃w' g',(Instr.storeAt t v u).run P w= .ok () w'∧SR P gl w0 g' m' w'∧Ext w g w' g':=by
 unfold dY at h
 split at h
 ·rename_i h0
  have hp:∃p,v= .pointer (some p):=by
   cases x<;>simp only[reduceCtorEq] at h
   ·rw[VR] at hx;exact⟨_,hx.2⟩
   ·rw[VR] at hx;obtain⟨⟨_,_,q⟩,_⟩:=hx;exact⟨_,q⟩
  obtain⟨p,rfl⟩:=hp
  have hm:(y.cells.length=0∧(dV P t).isSome=true∧y.cells.all flat=true)∧m=m':=by
   cases x<;>simp only[reduceCtorEq] at h
   all_goals
    split at h
    ·rename_i hc;simp only[Option.some.injEq] at h;exact⟨hc,h⟩
    ·cases h
  obtain⟨⟨hc1,hc2,hc3⟩,rfl⟩:=hm
  have hcs:=hy.cells hc3
  have hlen:u.cells= #[]:=Array.eq_empty_of_size_eq_zero (by have:=hcs.length;simp at this;omega)
  obtain⟨gb,hgb⟩:=Option.isSome_iff_exists.1 hc2
  obtain⟨i,hi⟩:=ml hgb
  refine⟨w,g, ?_,hs,Ext.refl _ _⟩
  simp[Instr.storeAt,Instr.sureAddr,storeVar,ek hi,hlen,h0,storeCells]
 split at h
 ·rename_i hc
  have hcs:=hy.cells hc.2.2
  have hfl:=hcs.flats hc.2.2
  have hlen:u.cells.size=ao P t:=by rw[←hc.1,←hcs.length];simp
  have hpos:ao P t≠0:=by omega
  cases x<;>simp only[reduceCtorEq,Option.bind_eq_bind] at h
  case ptr id off=>
   rw[VR] at hx
   obtain⟨hid,rfl⟩:=hx
   cases hb:m.bx[id]? with
   |none=>simp[hb] at h
   |some cs=>
    simp only[hb,Option.bind_some] at h
    obtain⟨us,e,h1,h2⟩:=hs.bx id cs hb
    split at h
    ·rename_i hn
     simp only[Option.some.injEq] at h
     subst h
     have hul:=h2.length
     simp at hul
     have hst:=run_storeCells_at P (g.bb id) off e u.cells.toList 0 us w h1 (by have:=hcs.length;simp at this⊢;omega) hfl
     have hset:=(hs.setBox (i:=id) (cs:=AE.setCells cs off y.cells) (us:=(us.toList.take (off+0)++u.cells.toList++us.toList.drop (off+0+u.cells.toList.length)).toArray) (List.getElem?_eq_some_iff.1 hb).1 (by simpa using h2.setCells hcs off))
     refine⟨_,g, ?_,hset.1,hset.2⟩
     simp[Instr.storeAt,Instr.sureAddr,storeVar,run_size' hpos,hlen,hst]
    ·cases h
  case rptr id ver off=>
   rw[VR] at hx
   obtain⟨_,L,hL,hle,hx⟩:=hx
   cases hb:m.rw[id]? with
   |none=>simp[hb] at h
   |some r=>
    simp only[hb,Option.bind_some] at h
    obtain⟨us,ss,rest,h1,h2,h3,h4⟩:=hs.rw id r hb
    split at h
    ·rename_i hn
     simp only[Option.some.injEq] at h
     subst h
     have:L=r.cs.length:=by
      rw[hs.rl,List.getElem?_map,hb] at hL
      simpa using hL.symm
     obtain⟨hsh,rfl⟩:=hx (by omega)
     have hul:=h4.length
     have h4':=h4.setCells hcs off
     have hset:=zf ss u.cells.toList hsh (by omega)
     obtain⟨o2,ho2⟩:∃o2,o2=off-g.sh id:=⟨_,rfl⟩
     rw[←ho2] at hset⊢
     obtain⟨s2,hs2⟩:∃s2,s2=ss.drop (g.sh id):=⟨_,rfl⟩
     have hs2l:s2.length=ss.length-g.sh id:=by rw[hs2,List.length_drop]
     rw[←hs2] at hset h3
     have husz:us.size=s2.length+rest.length:=by rw[←Array.length_toList,h3,List.length_append]
     have hyl:=hcs.length
     simp at hyl
     have hst:=run_storeCells_at P (g.br id) o2 r.el u.cells.toList 0 us w h1 (by simp;omega) hfl
     have hl2:u.cells.toList.length=u.cells.size:=by simp
     have key:(us.toList.take (o2+0)++u.cells.toList++us.toList.drop (o2+0+u.cells.toList.length))=(ss.take off++u.cells.toList++ss.drop (off+u.cells.toList.length)).drop (g.sh id)++rest:=by
      rw[hset,h3,Nat.add_zero,List.take_append_of_le_length (by omega),List.drop_append_of_le_length (by omega)]
      simp
     obtain⟨g',hg1,hg2,_⟩:=hs.setRow (i:=id) (cs:=AE.setCells r.cs off y.cells) (us:=(us.toList.take (o2+0)++u.cells.toList++us.toList.drop (o2+0+u.cells.toList.length)).toArray) hb (by simp[AE.setCells];omega) (by rw[←h2,key];simp;omega) key h4'
     refine⟨_,g', ?_,hg1,hg2⟩
     simp[Instr.storeAt,Instr.sureAddr,storeVar,run_size' hpos,hlen,hst]
    ·cases h
 ·cases h
end
end AE
end Go.Proofs.YtmfdpijmholedaaGreatDoor
/- Each operation of the evaluator does what the model's operation does: the operations that only compute. -/
set_option linter.unusedVariables false
set_option linter.unusedSimpArgs false
namespace Go.Proofs.YtmfdpijmholedaaGreatDoor
namespace AE
open Go Go.RowKit
section
variable {P:Program} {gl:Nat→A} {w0:World} {g:Gh} {m:Mem} {w:World}
theorem qm{t:TypeId}{i o ft:Nat}(h:bB P t i=some (o,ft)):∃fs:Array Field,∃f,P.underlying t=some (.struct fs)∧fs[i]? =some f∧f.offset=o∧f.type=ft:=by
 unfold bB at h
 cases hu:P.underlying t with
 |none=>simp[hu] at h
 |some d=>
  cases d<;>simp[hu] at h
  obtain⟨f,h1,h2,h3⟩:=h
  exact⟨_,f,rfl,by simpa using h1,h2,h3⟩
theorem jh(b o:Nat)(f:Field)(h:0<ao P f.type):(fieldPlace ⟨b,o,none⟩ f).run P w= .ok ⟨b,o+f.offset,none⟩ w:=by
 have hne:ao P f.type≠0:=by omega
 simp only[fieldPlace,Sem.run_bind,run_size' hne,Result.andThen_ok,Sem.run_ite,if_neg hne,Sem.run_pure,add_plain']
theorem pr{t:TypeId}{x a:A}{i:Nat}{v:Value}(h:eV P t x i=some a)(hx:VR w g x v):
  ∃u,(Instr.fieldAt t v i).run P w= .ok u w∧VR w g a u:=by
 unfold eV at h
 cases hf:bB P t i with
 |none=>simp[hf] at h
 |some p=>
  obtain⟨o,ft⟩:=p
  obtain⟨fs,f,h1,h2,rfl,rfl⟩:=qm hf
  simp only[hf,Option.bind_eq_bind,Option.bind_some] at h
  split at h
  ·rename_i hz
   cases x<;>simp only[reduceCtorEq,Option.some.injEq] at h
   all_goals subst h
   case rp cs=>
    rw[VR] at hx
    obtain⟨b,o,us,rfl,hc,hl⟩:=hx
    refine⟨.pointer (some ⟨b,o+f.offset,none⟩),by simp[Instr.fieldAt,run_underlying h1,h2,Instr.sureAddr,jh _ _ _ hz], ?_⟩
    rw[VR]
    exact⟨b,o+f.offset,us.drop f.offset,rfl,hc.drop _,hl.drop _⟩
   case ptr id off=>
    rw[VR] at hx
    obtain⟨h3,rfl⟩:=hx
    refine⟨.pointer (some ⟨g.bb id,off+f.offset,none⟩),by simp[Instr.fieldAt,run_underlying h1,h2,Instr.sureAddr,jh _ _ _ hz], ?_⟩
    rw[VR]
    exact⟨h3,rfl⟩
   case rptr id ver off=>
    rw[VR] at hx
    obtain⟨⟨b,o,rfl⟩,L,h3,h4,h5⟩:=hx
    refine⟨.pointer (some ⟨b,o+f.offset,none⟩),by simp[Instr.fieldAt,run_underlying h1,h2,Instr.sureAddr,jh _ _ _ hz], ?_⟩
    rw[VR]
    refine⟨⟨_,_,rfl⟩,L,h3,h4,fun e=> ?_⟩
    obtain⟨hsh,this⟩:=h5 e
    simp only[Value.pointer.injEq,Option.some.injEq,Addr.mk.injEq] at this⊢
    exact⟨by omega,this.1,by omega,trivial⟩
  ·cases h
theorem rE{t:TypeId}{cs:List A}{o:Nat}{a:A}{us:List Value}(h:part P t cs o=some a)(hx:VRs w g cs us):
  ∃u,(Go.part t us.toArray o).run P w= .ok u w∧VR w g a u:=by
 unfold AE.part at h
 cases hg:dV P t with
 |none=>simp[hg] at h
 |some gb=>
  simp only[hg,Option.bind_eq_bind,Option.bind_some] at h
  obtain⟨i,hi⟩:=ml hg
  cases gb with
  |true=>
   simp only[if_true] at h
   split at h
   ·rename_i hn
    simp only[js,if_true,Option.some.injEq] at h
    subst h
    have hl:=hx.length
    refine⟨.agg ((us.drop o).take (ao P t)).toArray, ?_,by rw[VR];exact⟨_,rfl,hx.sub _ _⟩⟩
    simp only[Go.part,Sem.run_bind,mC hg,Result.andThen_ok,if_true,ek hi,Sem.run_pure]
    congr 2
    apply Array.ext'
    simp[List.extract_eq_take_drop]
   ·cases h
  |false=>
   simp only[Bool.false_eq_true,if_false] at h
   split at h
   ·rename_i hn
    obtain⟨c,hc⟩:∃c,cs[o]? =some c:=⟨cs[o],by simp⟩
    obtain⟨u,hu,hv⟩:=hx.at_ o c hc
    have he:(cs.drop o).take 1=[c]:=by
     have hlo:o<cs.length:=by omega
     rw[List.drop_eq_getElem_cons hlo]
     have:=(List.getElem?_eq_some_iff.1 hc).2
     simp[this]
    rw[he] at h
    simp only[js,Bool.false_eq_true,if_false,Option.some.injEq] at h
    subst h
    refine⟨u, ?_,hv⟩
    have hu':us.toArray[o]? =some u:=by simpa using hu
    simp only[Go.part,Sem.run_bind,mC hg,Result.andThen_ok,Bool.false_eq_true,if_false,hu',Sem.run_pure]
   ·cases h
theorem vB{t:TypeId}{x a:A}{i:Nat}{v:Value}(h:pb P t x i=some a)(hx:VR w g x v):
  ∃u,(Instr.field t v i).run P w= .ok u w∧VR w g a u:=by
 unfold pb at h
 cases hf:bB P t i with
 |none=>simp[hf] at h
 |some p=>
  obtain⟨o,ft⟩:=p
  obtain⟨fs,f,h1,h2,rfl,rfl⟩:=qm hf
  simp only[hf,Option.bind_eq_bind,Option.bind_some] at h
  cases x<;>simp only[reduceCtorEq] at h
  rw[VR] at hx
  obtain⟨us,rfl,hc⟩:=hx
  obtain⟨u,hu,hv⟩:=rE h hc
  exact⟨u,by simp[Instr.field,run_underlying h1,h2,asAgg,hu],hv⟩
theorem pH{t:TypeId}{x y a:A}{v u:Value}(h:gQ P t x y=some a)(hx:VR w g x v)(hy:VR w g y u):
  ∃r,(Instr.indexAt t v u).run P w= .ok r w∧VR w g a r:=by
 unfold gQ at h
 cases y<;>simp only[reduceCtorEq] at h
 rename_i k i
 rw[VR] at hy
 subst hy
 cases he:bI P t with
 |some e=>
  have hu:=cT he
  simp only[he] at h
  cases x<;>simp only[reduceCtorEq] at h
  case isl f n cs=>
   split at h
   ·rename_i hc
    obtain⟨h0,h1,h2,h3⟩:=hc
    simp only[Option.some.injEq] at h
    subst h
    rw[VR] at hx
    obtain⟨p,c,us,rfl,_,_,hc,hl⟩:=hx
    have hlen:=hc.length
    have hne:us≠[]:=by
     rintro rfl
     simp at hlen
     rw[←hlen,Nat.add_mul] at h3
     omega
    obtain⟨b,o,rfl,hl2⟩:=hl hne
    have hz:ao P e≠0:=by omega
    refine⟨.pointer (some ⟨b,o+i.toNat*ao P e,none⟩), ?_, ?_⟩
    ·simp only[Instr.indexAt,asIntOf,Sem.run_bind,Sem.run_pure,Result.andThen_ok,run_underlying hu,Sem.run_ite,if_pos (And.intro h0 h1),run_size' hz,add_plain']
    ·rw[VR]
     exact⟨_,_,_,rfl,(hc.drop _).take _,(hl2.drop _).take _⟩
   ·cases h
  case sl id ver off n=>
   split at h
   ·rename_i hc
    obtain⟨h0,h1,h2⟩:=hc
    simp only[Option.some.injEq] at h
    subst h
    rw[VR] at hx
    obtain⟨⟨b,o,c,rfl,_⟩,L,k1,k2,k3⟩:=hx
    have hz:ao P e≠0:=by omega
    refine⟨.pointer (some ⟨b,o+i.toNat*ao P e,none⟩), ?_, ?_⟩
    ·simp only[Instr.indexAt,asIntOf,Sem.run_bind,Sem.run_pure,Result.andThen_ok,run_underlying hu,Sem.run_ite,if_pos (And.intro h0 h1),run_size' hz,add_plain']
    ·rw[VR]
     refine⟨⟨_,_,rfl⟩,L,k1,k2,fun e=> ?_⟩
     obtain⟨hsh,c',hcn,hc'⟩:=k3 e
     rcases hc' with⟨q,_⟩|⟨hc',_⟩
     ·omega
     simp only[Value.slice.injEq,Option.some.injEq,Addr.mk.injEq] at hc'
     simp only[Value.pointer.injEq,Option.some.injEq,Addr.mk.injEq]
     exact⟨by omega,hc'.1.1,by omega,trivial⟩
   ·cases h
 |none=>
  simp only[he] at h
  cases ha:ga P t with
  |none=>simp[ha] at h
  |some p=>
   obtain⟨n,e⟩:=p
   have hu:=oO ha
   simp only[ha] at h
   split at h
   ·rename_i hc
    obtain⟨h0,h1,h2⟩:=hc
    have hz:ao P e≠0:=by omega
    cases x<;>simp only[reduceCtorEq,Option.some.injEq] at h
    all_goals subst h
    case rp cs=>
     rw[VR] at hx
     obtain⟨b,o,us,rfl,hc,hl⟩:=hx
     refine⟨.pointer (some ⟨b,o+i.toNat*ao P e,none⟩), ?_, ?_⟩
     ·simp only[Instr.indexAt,asIntOf,Sem.run_bind,Sem.run_pure,Result.andThen_ok,run_underlying hu,Sem.run_ite,if_pos (And.intro h0 h1),run_size' hz,add_plain',Instr.sureAddr]
     ·rw[VR]
      exact⟨_,_,_,rfl,hc.drop _,hl.drop _⟩
    case ptr id off=>
     rw[VR] at hx
     obtain⟨h3,rfl⟩:=hx
     refine⟨.pointer (some ⟨g.bb id,off+i.toNat*ao P e,none⟩), ?_, ?_⟩
     ·simp only[Instr.indexAt,asIntOf,Sem.run_bind,Sem.run_pure,Result.andThen_ok,run_underlying hu,Sem.run_ite,if_pos (And.intro h0 h1),run_size' hz,add_plain',Instr.sureAddr]
     ·rw[VR]
      exact⟨h3,rfl⟩
    case rptr id ver off=>
     rw[VR] at hx
     obtain⟨⟨b,o,rfl⟩,L,h3,h4,h5⟩:=hx
     refine⟨.pointer (some ⟨b,o+i.toNat*ao P e,none⟩), ?_, ?_⟩
     ·simp only[Instr.indexAt,asIntOf,Sem.run_bind,Sem.run_pure,Result.andThen_ok,run_underlying hu,Sem.run_ite,if_pos (And.intro h0 h1),run_size' hz,add_plain',Instr.sureAddr]
     ·rw[VR]
      refine⟨⟨_,_,rfl⟩,L,h3,h4,fun e=> ?_⟩
      obtain⟨hsh,this⟩:=h5 e
      simp only[Value.pointer.injEq,Option.some.injEq,Addr.mk.injEq] at this⊢
      exact⟨by omega,this.1,by omega,trivial⟩
   ·cases h
theorem vA{t:TypeId}{x y a:A}{v u:Value}(h:ph P t x y=some a)(hx:VR w g x v)(hy:VR w g y u):
  ∃r,(Instr.index t v u).run P w= .ok r w∧VR w g a r:=by
 unfold ph at h
 cases x<;>cases y<;>simp only[reduceCtorEq] at h
 case str.int s k i=>
  rw[VR] at hx
  rw[VR] at hy
  subst hx hy
  split at h
  ·rename_i hc
   obtain⟨h0,h1,h2⟩:=hc
   simp only[Option.some.injEq] at h
   subst h
   have hlt:i.toNat<s.length:=by omega
   refine⟨.int .u8 ((s.getD i.toNat 0).toNat:Int), ?_,by rw[VR]⟩
   have hb:(⟨s.toArray⟩:ByteArray)[i.toNat]? =some (s.getD i.toNat 0):=by
    have hsz:i.toNat<(⟨s.toArray⟩:ByteArray).size:=by show i.toNat<s.toArray.size;simpa using hlt
    rw[getElem?_pos (⟨s.toArray⟩:ByteArray) i.toNat hsz]
    congr 1
    show s.toArray[i.toNat]'(by simpa using hlt)=_
    simp[List.getD,List.getElem?_eq_getElem hlt]
   simp only[Instr.index,asIntOf,Sem.run_bind,Sem.run_pure,Result.andThen_ok,run_underlying (rB h2),if_pos h0,hb]
  ·cases h
 case agg.int cs k i=>
  rw[VR] at hx
  rw[VR] at hy
  obtain⟨us,rfl,hc⟩:=hx
  subst hy
  cases ha:ga P t with
  |none=>simp[ha] at h
  |some p=>
   obtain⟨n,e⟩:=p
   simp only[ha,Option.bind_eq_bind,Option.bind_some] at h
   split at h
   ·rename_i hb
    obtain⟨u,hu,hv⟩:=rE h hc
    have hinfo:∃i,P.info? e=some i:=by
     unfold AE.part at h
     cases hg:dV P e with
     |none=>simp[hg] at h
     |some gb=>exact ml hg
    obtain⟨inf,hinf⟩:=hinfo
    refine⟨u, ?_,hv⟩
    simp only[Instr.index,asIntOf,Sem.run_bind,Sem.run_pure,Result.andThen_ok,run_underlying (oO ha),Sem.run_ite,if_pos hb,ek hinf,hu]
   ·cases h
end
end AE
end Go.Proofs.YtmfdpijmholedaaGreatDoor
/- Each operation of the evaluator does what the model's operation does: slices, literals, numbers and strings. -/
set_option linter.unusedVariables false
set_option linter.unusedSimpArgs false
namespace Go.Proofs.YtmfdpijmholedaaGreatDoor
namespace AE
open Go Go.RowKit
section
variable {P:Program} {gl:Nat→A} {w0:World} {g:Gh} {m:Mem} {w:World}
def VRo(w:World)(g:Gh):Option A→Option Value→Prop
 |none,none=>True
 |some a,some v=>VR w g a v
 |_,_=>False
theorem Cj{k:IntKind}{n:Int}{y:Nat}{code:BoundsCode}(h0:0≤n)(h1:n≤y):(Instr.sliceBound (.int k n) y code).run P w= .ok n.toNat w:=by
 simp only[Instr.sliceBound,asIntOf,Sem.run_bind,Sem.run_pure,Result.andThen_ok,Sem.run_ite,if_pos (And.intro h0 h1)]
theorem jd {b:Bool} {len cap:Nat} {lo hi mx:Option Value} {l h m:Nat}
  (hm:(mx=none∧m=cap)∨∃k,mx=some (.int k m)∧m≤cap∧hi≠none) (hh:(hi=none∧h=len)∨∃k,hi=some (.int k h)) (hl:(lo=none∧l=0)∨∃k,lo=some (.int k l)) (h1:l≤h) (h2:h≤m):
  (Instr.sliceBounds b len cap lo hi mx).run P w= .ok (l,h,m) w:=by
 unfold Instr.sliceBounds
 rcases hm with⟨rfl,rfl⟩|⟨k,rfl,hm,hne⟩<;>rcases hh with⟨rfl,rfl⟩|⟨k',rfl⟩<;>rcases hl with⟨rfl,rfl⟩|⟨k'',rfl⟩<;>
  first
  |exact absurd rfl hne
  |(simp (disch:=omega) [Cj])
theorem gq{x:Option A}{d:Nat}{n:Int}{v:Option Value}(h:bnd x d=some n)(hx:VRo w g x v):(v=none∧x=none∧n=d)∨∃k,v=some (.int k n)∧x≠none:=by
 unfold bnd at h
 cases x with
 |none=>
  cases v with
  |none=>simp at h;exact .inl ⟨rfl,rfl,h.symm⟩
  |some u=>exact hx.elim
 |some a=>
  cases v with
  |none=>exact hx.elim
  |some u=>
   cases a<;>simp at h
   subst h
   have hx:VR w g _ u:=hx
   rw[VR] at hx
   exact .inr ⟨_,by rw[hx],by simp⟩
theorem mU(s:List UInt8)(l h:Nat):(⟨s.toArray⟩:ByteArray).extract l h=⟨((s.take h).drop l).toArray⟩:=by
 apply ByteArray.ext
 rw[ByteArray.data_extract]
 apply Array.ext'
 rw[List.drop_take]
 simp[List.extract_eq_take_drop]
theorem vO{t:TypeId}{x a:A}{v:Value}(h:pk P t x=some a)(hx:VR w g x v):∃r,(Instr.sliceAt t v none none none).run P w= .ok r w∧VR w g a r:=by
 unfold pk at h
 split at h
 ·rename_i cs
  split at h
  ·rename_i n e har
   split at h
   ·rename_i hc
    obtain⟨hz,hle⟩:=hc
    simp only[Option.some.injEq] at h
    subst h
    rw[VR] at hx
    obtain⟨b,o,us,rfl,hcs,hlies⟩:=hx
    have hb:=jd (P:=P) (w:=w) (b:=false) (len:=n) (cap:=n) (lo:=none) (hi:=none) (mx:=none) (l:=0) (h:=n) (m:=n) (.inl ⟨rfl,rfl⟩) (.inl ⟨rfl,rfl⟩) (.inl ⟨rfl,rfl⟩) (by omega) (by omega)
    have hz':ao P e≠0:=by omega
    refine⟨.slice (some ⟨b,o,none⟩) n n, ?_, ?_⟩
    ·have ha:(if n=0 then(⟨b,o,none⟩:Addr) else(⟨b,o,none⟩:Addr).add (0*ao P e))=⟨b,o,none⟩:=by
      split
      ·rfl
      ·rw[Nat.zero_mul];rfl
     simp only[Instr.sliceAt,Sem.run_bind,run_underlying (oO har),Result.andThen_ok,Instr.sureAddr,hb,run_size' hz',Sem.run_pure,ha,Nat.sub_zero]
    ·rw[VR]
     refine⟨_,n,us.take (n*ao P e),rfl,fun _=>rfl,Nat.le_refl _,VRs.take _ hcs,fun _=>⟨b,o,rfl,fun j u hj=> ?_⟩⟩
     rw[List.getElem?_take] at hj
     split at hj
     ·exact hlies j u hj
     ·cases hj
   ·cases h
  ·cases h
 ·cases h
theorem BU {off l h n s ver es sh c cz:Nat} (lh:l≤h) (hn:h≤n) (s0:0<s) (hv:off+n*s≤ver) (hne:l=h→s=1) (hsh:sh≤off) (hcap:off=0∨(es=1∧off+n=ver)→off-sh+c*es≤cz) (hlc:l≤c)
  (hq:off+l*s=0∨(es=1∧off+l*s+(h-l)=ver)):off+l*s-sh+(c-l)*es≤cz:=by
 rcases hq with hq|⟨rfl,hq2⟩
 ·have h0:l*s=0:=by omega
  have hl0:l=0:=by
   rcases Nat.mul_eq_zero.1 h0 with q|q
   ·exact q
   ·omega
  subst hl0
  rw[Nat.sub_zero,Nat.zero_mul,Nat.add_zero]
  exact hcap (.inl (by omega))
 ·obtain⟨d,rfl⟩:∃d,h=l+d:=⟨h-l,by omega⟩
  have hm1:(l+d)*s≤n*s:=Nat.mul_le_mul_right _ hn
  rw[Nat.add_mul] at hm1
  have hm3:d≤d*s:=Nat.le_mul_of_pos_right _ s0
  have hE:d*s=d:=by omega
  have hN:n*s=l*s+d:=by omega
  have hsz:s=1:=by
   rcases Nat.eq_zero_or_pos d with q|q
   ·exact hne (by omega)
   ·exact Nat.eq_of_mul_eq_mul_left q (by rw[hE,Nat.mul_one])
  subst hsz
  have:=hcap (.inr ⟨rfl,by omega⟩)
  omega
theorem wK{t:TypeId}{x a:A}{lo hi mx:Option A}{v:Value}{vl vh vm:Option Value}(hsl:aX P t=true)(h:pf P t x lo hi mx=some a)(hx:VR w g x v)(hl:VRo w g lo vl)(hh:VRo w g hi vh)(hm:VRo w g mx vm):
  ∃r,(Instr.sliceAt t v vl vh vm).run P w= .ok r w∧VR w g a r:=by
 have hat:(Instr.sliceAt t v vl vh vm).run P w=(Instr.slice t v vl vh vm).run P w:=by
  unfold aX at hsl
  cases hu:P.underlying t with
  |none=>simp[hu] at hsl
  |some d=>cases d<;>simp[hu] at hsl<;>simp[Instr.sliceAt,run_underlying hu]
 rw[hat]
 unfold pf at h
 cases x<;>simp only[reduceCtorEq] at h
 case str s=>
  rw[VR] at hx
  subst hx
  cases hbl:bnd lo 0 with
  |none=>simp[hbl] at h
  |some l=>
  cases hbh:bnd hi s.length with
  |none=>simp[hbl,hbh] at h
  |some h'=>
   simp only[hbl,hbh,Option.bind_eq_bind,Option.bind_some] at h
   split at h
   ·rename_i hc
    obtain⟨c1,c2,c3,c4,c5⟩:=hc
    simp only[Option.some.injEq] at h
    subst h
    have hmx:vm=none:=by
     cases mx with
     |none=>cases vm with
      |none=>rfl
      |some u=>exact hm.elim
     |some a=>simp at c1
    subst hmx
    refine⟨.string ⟨((s.take h'.toNat).drop l.toNat).toArray⟩, ?_,by rw[VR]⟩
    have hsz:(⟨s.toArray⟩:ByteArray).size=s.length:=by show s.toArray.size=_;simp
    have hb:=jd (P:=P) (w:=w) (b:=false) (len:=s.length) (cap:=s.length) (lo:=vl) (hi:=vh) (mx:=none) (l:=l.toNat) (h:=h'.toNat) (m:=s.length) (.inl ⟨rfl,rfl⟩)
     (by rcases gq hbh hh with⟨e,_,e'⟩|⟨k,e,_⟩
         ·exact .inl ⟨e,by omega⟩
         ·exact .inr ⟨k,by rw[e];congr 2;omega⟩)
     (by rcases gq hbl hl with⟨e,_,e'⟩|⟨k,e,_⟩
         ·exact .inl ⟨e,by omega⟩
         ·exact .inr ⟨k,by rw[e];congr 2;omega⟩) (by omega) (by omega)
    simp only[Instr.slice,Sem.run_bind,run_underlying (rB c2),Result.andThen_ok,Option.isSome_none,Bool.false_eq_true,if_false,hsz,hb,Sem.run_pure,mU]
   ·cases h
 case nils=>
  rw[VR] at hx
  subst hx
  cases he:bI P t with
  |none=>simp[he] at h
  |some e=>
  cases hbl:bnd lo 0 with
  |none=>simp[he,hbl] at h
  |some l=>
  cases hbh:bnd hi 0 with
  |none=>simp[he,hbl,hbh] at h
  |some h'=>
   simp only[he,hbl,hbh,Option.bind_eq_bind,Option.bind_some] at h
   split at h
   ·rename_i hc
    obtain⟨c1,rfl,rfl,c4⟩:=hc
    simp only[Option.some.injEq] at h
    subst h
    have hmx:vm=none:=by
     cases mx with
     |none=>cases vm with
      |none=>rfl
      |some u=>exact hm.elim
     |some a=>simp at c1
    subst hmx
    refine⟨.slice none 0 0, ?_,by rw[VR]⟩
    have hb:=jd (P:=P) (w:=w) (b:=true) (len:=0) (cap:=0) (lo:=vl) (hi:=vh) (mx:=none) (l:=0) (h:=0) (m:=0) (.inl ⟨rfl,rfl⟩)
     (by rcases gq hbh hh with⟨e,_,e'⟩|⟨k,e,_⟩
         ·exact .inl ⟨e,by omega⟩
         ·exact .inr ⟨k,by rw[e];rfl⟩)
     (by rcases gq hbl hl with⟨e,_,e'⟩|⟨k,e,_⟩
         ·exact .inl ⟨e,by omega⟩
         ·exact .inr ⟨k,by rw[e];rfl⟩) (by omega) (by omega)
    have hz:ao P e≠0:=by omega
    simp only[Instr.slice,Sem.run_bind,run_underlying (cT he),Result.andThen_ok,hb,run_size' hz,Sem.run_pure]
    rfl
   ·cases h
 case isl f n cs=>
  rw[VR] at hx
  obtain⟨p,c,us,rfl,hf,hnc,hc,hlies⟩:=hx
  cases he:bI P t with
  |none=>simp[he] at h
  |some e=>
  cases hbl:bnd lo 0 with
  |none=>simp[he,hbl] at h
  |some l=>
  cases hbh:bnd hi n with
  |none=>simp[he,hbl,hbh] at h
  |some h'=>
  cases hbm:bnd mx n with
  |none=>simp[he,hbl,hbh,hbm] at h
  |some x=>
   simp only[he,hbl,hbh,hbm,Option.bind_eq_bind,Option.bind_some] at h
   split at h
   ·rename_i hcc
    obtain⟨c1,c2,c3,c4,c5,c6,c7⟩:=hcc
    simp only[Option.some.injEq] at h
    subst h
    obtain⟨mm,hmm,hle,hlow,hfull⟩:∃mm:Nat,((vm=none∧mm=c)∨∃k,vm=some (.int k mm)∧mm≤c∧vh≠none)∧mm≤c∧h'.toNat≤mm∧((mx.isSome=true∧h'=x∨f=true∧mx.isNone=true∧h'=n)→mm=h'.toNat):=by
     rcases gq hbm hm with⟨e1,e2,e3⟩|⟨k,e1,e2⟩
     ·refine⟨c,.inl ⟨e1,rfl⟩,Nat.le_refl _,by omega, ?_⟩
      rintro(⟨q,_⟩|⟨q,_,q'⟩)
      ·simp[e2] at q
      ·have:=hf q
       omega
     ·refine⟨x.toNat,.inr ⟨k,by rw[e1];congr 2;omega,by omega, ?_⟩,by omega,by omega, ?_⟩
      ·rcases c1 with c1|c1
       ·exact absurd (by simpa using c1) e2
       ·intro hv
        subst hv
        cases hi with
        |none=>simp at c1
        |some q=>exact hh.elim
      ·rintro(⟨_,q⟩|⟨_,q,_⟩)
       ·omega
       ·exact absurd (by simpa using q) e2
    have hb:=jd (P:=P) (w:=w) (b:=true) (len:=n) (cap:=c) (lo:=vl) (hi:=vh) (mx:=vm) (l:=l.toNat) (h:=h'.toNat) (m:=mm) hmm
     (by rcases gq hbh hh with⟨e,_,e'⟩|⟨k,e,_⟩
         ·exact .inl ⟨e,by omega⟩
         ·exact .inr ⟨k,by rw[e];congr 2;omega⟩)
     (by rcases gq hbl hl with⟨e,_,e'⟩|⟨k,e,_⟩
         ·exact .inl ⟨e,by omega⟩
         ·exact .inr ⟨k,by rw[e];congr 2;omega⟩) (by omega) hlow
    have hz:ao P e≠0:=by omega
    refine⟨.slice (if mm=l.toNat then p else p.map (·.add (l.toNat*ao P e))) (h'.toNat-l.toNat) (mm-l.toNat), ?_, ?_⟩
    ·simp only[Instr.slice,Sem.run_bind,run_underlying (cT he),Result.andThen_ok,hb,run_size' hz,Sem.run_pure]
    ·rw[VR]
     refine⟨_,_,(us.take (h'.toNat*ao P e)).drop (l.toNat*ao P e),by congr 1;omega, ?_,by omega,(hc.take _).drop _,fun hne=> ?_⟩
     ·intro q
      have:=hfull (by simpa using q)
      omega
     ·have hlh:l.toNat<h'.toNat:=by
       rcases Nat.lt_or_ge l.toNat h'.toNat with q|q
       ·exact q
       ·exfalso
        apply hne
        have hk:l.toNat=h'.toNat:=by omega
        rw[hk]
        apply List.drop_eq_nil_of_le
        simp
        omega
      have hune:us≠[]:=by rintro rfl;simp at hne
      obtain⟨b,o,rfl,hl2⟩:=hlies hune
      refine⟨b,o+l.toNat*ao P e, ?_,(hl2.take _).drop _⟩
      rw[if_neg (by omega)]
      simp[add_plain']
   ·cases h
 case sl id ver off n=>
  rw[VR] at hx
  obtain⟨⟨b,o,c,rfl,hnc⟩,L,k1,k2,k3⟩:=hx
  cases he:bI P t with
  |none=>simp[he] at h
  |some e=>
  cases hbl:bnd lo 0 with
  |none=>simp[he,hbl] at h
  |some l=>
  cases hbh:bnd hi n with
  |none=>simp[he,hbl,hbh] at h
  |some h'=>
   simp only[he,hbl,hbh,Option.bind_eq_bind,Option.bind_some] at h
   split at h
   ·rename_i hcc
    obtain⟨c1,c2,c3,c4,c5,c6⟩:=hcc
    simp only[Option.some.injEq] at h
    have hmx:vm=none:=by
     cases mx with
     |none=>cases vm with
      |none=>rfl
      |some u=>exact hm.elim
     |some a=>simp at c1
    subst hmx
    have hb:=jd (P:=P) (w:=w) (b:=true) (len:=n) (cap:=c) (lo:=vl) (hi:=vh) (mx:=none) (l:=l.toNat) (h:=h'.toNat) (m:=c) (.inl ⟨rfl,rfl⟩)
     (by rcases gq hbh hh with⟨e,_,e'⟩|⟨k,e,_⟩
         ·exact .inl ⟨e,by omega⟩
         ·exact .inr ⟨k,by rw[e];congr 2;omega⟩)
     (by rcases gq hbl hl with⟨e,_,e'⟩|⟨k,e,_⟩
         ·exact .inl ⟨e,by omega⟩
         ·exact .inr ⟨k,by rw[e];congr 2;omega⟩) (by omega) (by omega)
    have hz:ao P e≠0:=by omega
    refine⟨.slice (if c=l.toNat then some ⟨b,o,none⟩ else some ⟨b,o+l.toNat*ao P e,none⟩) (h'.toNat-l.toNat) (c-l.toNat), ?_, ?_⟩
    ·simp only[Instr.slice,Sem.run_bind,run_underlying (cT he),Result.andThen_ok,hb,run_size' hz,Sem.run_pure,Option.map_some,add_plain']
    ·by_cases hlh:l=h'∧ao P e≠1
     ·rw[if_pos hlh] at h
      subst h
      rw[VR]
      refine⟨_,_,[],by congr 1;omega,by simp,by omega,VRs.mk_nil,by simp⟩
     ·rw[if_neg hlh] at h
      subst h
      rw[VR]
      have hlp:l.toNat≤l.toNat*ao P e:=Nat.le_mul_of_pos_right _ c5
      have f1:l.toNat≤h'.toNat:=by clear k3 hb;omega
      have f2:h'.toNat≤n:=by clear k3 hb;omega
      have f3:l.toNat=h'.toNat→ao P e=1:=fun q=>by
       rcases Decidable.em (ao P e=1) with q1|q1
       ·exact q1
       ·exact absurd ⟨by clear k3 hb;omega,q1⟩ hlh
      have hnn:(h'-l).toNat=h'.toNat-l.toNat:=by clear k3 hb;omega
      rw[hnn]
      refine⟨by split<;>exact⟨_,_,_,rfl,by omega⟩,L,k1,k2,fun e'=> ?_⟩
      obtain⟨hsh,c',hcn,hc'⟩:=k3 e'
      refine⟨by omega,c-l.toNat,by omega, ?_⟩
      rcases hc' with⟨q1,q2,b',o',q3⟩|⟨hc',hcap,hcv⟩
      ·left
       simp only[Value.slice.injEq,Option.some.injEq,Addr.mk.injEq] at q3
       obtain⟨⟨rfl,rfl,_⟩,_,rfl⟩:=q3
       refine⟨by omega,by omega, ?_⟩
       split<;>exact⟨_,_,rfl⟩
      ·simp only[Value.slice.injEq,Option.some.injEq,Addr.mk.injEq] at hc'
       obtain⟨⟨rfl,rfl,_⟩,_,rfl⟩:=hc'
       have key:=BU (l:=l.toNat) (h:=h'.toNat) (n:=n) (s:=ao P e) (off:=off) (ver:=ver) (es:=g.es id) (sh:=g.sh id) (c:=c) (cz:=g.cz id) f1 f2 c5 c6 f3 hsh hcap (by omega)
       by_cases hcl:c=l.toNat
       ·rw[if_pos hcl]
        rcases Nat.eq_zero_or_pos l.toNat with q|q
        ·right
         refine⟨?_,key,fun e0=> ?_⟩
         ·rw[q]
          simp
         ·rw[q,Nat.sub_zero]
          exact hcv (by omega)
        ·left
         exact⟨by omega,by omega,_,_,rfl⟩
       ·rw[if_neg hcl]
        right
        refine⟨?_,key,fun e0=> ?_⟩
        ·rw[show off-g.sh id+l.toNat*ao P e=off+l.toNat*ao P e-g.sh id from by omega]
        ·have q:l.toNat=0:=by omega
         rw[q,Nat.sub_zero]
         exact hcv (by omega)
   ·cases h
end
end AE
end Go.Proofs.YtmfdpijmholedaaGreatDoor
/- Each operation of the evaluator does what the model's operation does: literals, numbers and strings. -/
set_option linter.unusedVariables false
set_option linter.unusedSimpArgs false
set_option maxHeartbeats 800000
namespace Go.Proofs.YtmfdpijmholedaaGreatDoor
namespace AE
open Go Go.RowKit
section
variable {P:Program} {gl:Nat→A} {w0:World} {g:Gh} {m:Mem} {w:World}
theorem uF(off:Nat):∀(l:List Value) (k:Nat) (cells:Array Value),off+k+l.length≤cells.size→
  ((l.zipIdx k).foldl (fun cs (x:Value×Nat)=>cs.setIfInBounds (off+x.2) x.1) cells).toList=cells.toList.take (off+k)++l++cells.toList.drop (off+k+l.length)
 |[],k,cells,h=>by simp
 |v::rest,k,cells,h=>by
  simp only[List.length_cons] at h
  rw[List.zipIdx_cons,List.foldl_cons,uF off rest (k+1) _ (by simp;omega)]
  have e:=list_seg_step cells.toList (off+k) v rest (by simp;omega)
  simpa [Array.toList_setIfInBounds,Nat.add_assoc] using e
def VRp(w:World)(g:Gh):List (Nat×A)→List (Nat×Value)→Prop
 |[],[]=>True
 |(i,a)::r,(j,v)::s=>i=j∧VR w g a v∧VRp w g r s
 |_,_=>False
theorem kr{pa pv:Nat→Option (Nat×Nat)}(hp:∀i p,pa i=some p→pv i=some p):∀{parts:List (Nat×A)} {pvs:List (Nat×Value)} {cells cs:List A} {us:Array Value},VRs w g cells us.toList→VRp w g parts pvs→qa pa cells parts=some cs→
  ∃vs:Array Value,Instr.fill pv us pvs=some vs∧VRs w g cs vs.toList
 |[],[],cells,cs,us,hc,_,h=>by
  simp only[qa,Option.some.injEq] at h
  subst h
  exact⟨us,rfl,hc⟩
 |[],_::_,_,_,_,_,h,_=>h.elim
 |_::_,[],_,_,_,_,h,_=>h.elim
 |(i,a)::r,(j,v)::s,cells,cs,us,hc,hpr,h=>by
  obtain⟨rfl,ha,hr⟩:=hpr
  unfold qa at h
  cases hi:pa i with
  |none=>simp[hi] at h
  |some p=>
   obtain⟨off,size⟩:=p
   simp only[hi] at h
   split at h
   ·rename_i hcc
    obtain⟨c1,c2,c3⟩:=hcc
    have hac:=ha.part c3
    have hal:=hac.length
    have hul:=hc.length
    simp at hal hul
    have hset:=uF off v.cells.toList 0 us (by simp;omega)
    have hrec:=hc.setCells hac off
    obtain⟨vs,h1,h2⟩:=kr hp (us:=(v.cells.toList.zipIdx 0).foldl (fun cs (x:Value×Nat)=>cs.setIfInBounds (off+x.2) x.1) us) (by rw[hset];simpa using hrec) hr h
    refine⟨vs, ?_,h2⟩
    unfold Instr.fill
    simp only[hp i _ hi]
    rw[if_neg (by simp;omega),←h1]
    congr 1
    rw[←Array.foldl_toList]
    simp
   ·cases h
theorem vX {t:TypeId} {fs:Array Field} (hu:P.underlying t=some (.struct fs)) (places:Array (Nat×Nat)) (hpl:places.toList=fs.toList.map fun f=>(f.offset,ao P f.type)) (i:Nat) (p:Nat×Nat)
  (h:((bB P t i).map fun p=>(p.1,ao P p.2))=some p):places[i]? =some p:=by
 rw[←Array.getElem?_toList,hpl,List.getElem?_map]
 unfold bB at h
 simp only[hu,Option.bind_some,Option.map_map] at h
 rw[Array.getElem?_toList,←h]
 rfl
theorem rN:∀(l:List Field),(∀f∈l,∃i,P.info? f.type=some i)→(l.mapM (m:=Sem) fun f=>do pure (f.offset,←sizeOf f.type)).run P w= .ok (l.map fun f=>(f.offset,ao P f.type)) w
 |[],_=>by simp
 |f::r,h=>by
  obtain⟨i,hi⟩:=h f (by simp)
  simp only[List.mapM_cons,Sem.run_bind,ek hi,Result.andThen_ok,Sem.run_pure,rN r (fun f hf=>h f (by simp[hf])),List.map_cons]
theorem vE{t:TypeId}{parts:List (Nat×A)}{pvs:Array (Nat×Value)}{a:A}(h:pj P t parts=some a)(hp:VRp w g parts pvs.toList):
  ∃r,(Instr.build t pvs).run P w= .ok r w∧VR w g a r:=by
 unfold pj at h
 cases hz:bk P t with
 |none=>simp[hz] at h
 |some z=>
  obtain⟨zv,hzr,rfl⟩:=jK (w:=w) hz
  simp only[hz,Option.bind_eq_bind,Option.bind_some] at h
  have hzc:VRs w g (zv.cells.toList.map A.ofCell) zv.cells.toList:=dp _
  split at h
  ·cases h
  rename_i hok
  replace hok:bQ P t=true:=by simpa using hok
  unfold bQ at hok
  cases hu:P.underlying t with
  |none=>simp[hu] at h
  |some d=>
   simp only[hu] at h hok
   cases d<;>simp only[reduceCtorEq] at h
   case array n e=>
    obtain⟨i,hi⟩:=Option.isSome_iff_exists.1 hok
    obtain⟨cs,hcs,rfl⟩:=Option.map_eq_some_iff.1 h
    obtain⟨vs,h1,h2⟩:=kr (pv:=fun i=>some (i*ao P e,ao P e)) (fun i p h=>h) hzc hp hcs
    refine⟨.agg vs, ?_,by rw[VR];exact⟨vs.toList,rfl,h2⟩⟩
    simp only[Instr.build,Sem.run_bind,hzr,Result.andThen_ok,run_underlying hu,ek hi,h1,Sem.run_pure]
   case struct fs=>
    obtain⟨cs,hcs,rfl⟩:=Option.map_eq_some_iff.1 h
    have hall:∀f∈fs.toList,∃i,P.info? f.type=some i:=fun f hf=>by
     have:=Array.all_eq_true'.1 hok f (by simpa using hf)
     exact Option.isSome_iff_exists.1 this
    have hrun:=rN (P:=P) (w:=w) fs.toList hall
    have hrun':(fs.mapM (m:=Sem) fun f=>do pure (f.offset,←sizeOf f.type)).run P w= .ok (fs.toList.map fun f=>(f.offset,ao P f.type)).toArray w:=by
     rw[Array.mapM_eq_mapM_toList,Sem.run_map,hrun]
     rfl
    obtain⟨vs,h1,h2⟩:=kr (pv:=((fs.toList.map fun f=>(f.offset,ao P f.type)).toArray[·]?)) (fun i p h=>vX hu _ (by simp) i p h) hzc hp hcs
    refine⟨.agg vs, ?_,by rw[VR];exact⟨vs.toList,rfl,h2⟩⟩
    simp only[Instr.build,Sem.run_bind,hzr,Result.andThen_ok,run_underlying hu,hrun',h1,Sem.run_pure]
theorem Cc(s:List UInt8):(⟨s.toArray⟩:ByteArray).toList=s:=by rw[Lib.toList_data]
theorem cQ{op:BinOp}{t:TypeId}{x y:Operand}{a b:Value}(h:¬(a= .nilIface∧b= .nilIface))(h2:∀c d,¬(a= .agg c∧b= .agg d)):(eqGuard op t x y a b).run P w= .ok () w:=by
 unfold eqGuard
 cases op<;>first
  |rfl
  |(cases a<;>cases b<;>first|rfl|exact absurd ⟨rfl,rfl⟩ h|exact absurd ⟨rfl,rfl⟩ (h2 _ _))
theorem VR.mkInt{k:IntKind}{n:Int}:VR w g (.int k n) (.int k n):=by rw[VR]
theorem VR.mkBool{b:Bool}:VR w g (.bool b) (.bool b):=by rw[VR]
theorem VR.mkStr{s:List UInt8}:VR w g (.str s) (.string ⟨s.toArray⟩):=by rw[VR]
theorem qU{e t:TypeId}(hu:P.underlying t=some (.pointer e))(p:Addr)(d:Nat):(Op.equalIn (d+1) t (.pointer (some p)) (.pointer none)).run P w= .ok false w:=by
 simp[Op.equalIn,run_underlying hu]
theorem pl{t:TypeId}(hu:P.underlying t=some .bool)(a b:Bool)(d:Nat):(Op.equalIn (d+1) t (.bool a) (.bool b)).run P w= .ok (a==b) w:=by
 simp[Op.equalIn,run_underlying hu]
theorem mP{e t:TypeId}(hu:P.underlying t=some (.pointer e))(p:Addr):(Op.equal t (.pointer (some p)) (.pointer none)).run P w= .ok false w:=qU hu p 9999
theorem lV{t:TypeId}(hu:P.underlying t=some .bool)(a b:Bool):(Op.equal t (.bool a) (.bool b)).run P w= .ok (a==b) w:=pl hu a b 9999
theorem gK{e t:TypeId}{op:BinOp}(hu:P.underlying t=some (.pointer e))(p:Addr)(ho:op= .eql∨op= .neq):(binOp op t (.pointer (some p)) (.pointer none)).run P w= .ok (.bool (op== .neq)) w:=by
 rcases ho with rfl|rfl
 ·show(do pure (.bool (←Op.equal t _ _)):Sem Value).run P w=_
  rw[Sem.run_bind,mP hu];rfl
 ·show(do pure (.bool (!(←Op.equal t _ _))):Sem Value).run P w=_
  rw[Sem.run_bind,mP hu];rfl
theorem pn{e t:TypeId}(hu:P.underlying t=some (.pointer e))(d:Nat):(Op.equalIn (d+1) t (.pointer none) (.pointer none)).run P w= .ok true w:=by
 simp[Op.equalIn,run_underlying hu]
theorem qM{e t:TypeId}{op:BinOp}(hu:P.underlying t=some (.pointer e))(ho:op= .eql∨op= .neq):(binOp op t (.pointer none) (.pointer none)).run P w= .ok (.bool (op== .eql)) w:=by
 have hq:(Op.equal t (.pointer none) (.pointer none)).run P w= .ok true w:=pn hu 9999
 rcases ho with rfl|rfl
 ·show(do pure (.bool (←Op.equal t _ _)):Sem Value).run P w=_
  rw[Sem.run_bind,hq];rfl
 ·show(do pure (.bool (!(←Op.equal t _ _))):Sem Value).run P w=_
  rw[Sem.run_bind,hq];rfl
theorem so{t:TypeId}(h:dN P t=true):∃ms,P.underlying t=some (.interface ms):=by
 unfold dN at h
 split at h
 ·exact⟨_,by assumption⟩
 ·cases h
theorem qZ{t:TypeId}{ms}(hu:P.underlying t=some (.interface ms))(s:TypeId)(x:Value)(d:Nat):(Op.equalIn (d+1) t (.iface s x) .nilIface).run P w= .ok false w:=by
 simp[Op.equalIn,run_underlying hu]
theorem px{t:TypeId}{ms}(hu:P.underlying t=some (.interface ms))(d:Nat):(Op.equalIn (d+1) t .nilIface .nilIface).run P w= .ok true w:=by
 simp[Op.equalIn,run_underlying hu]
theorem mN{t:TypeId}{ms}(hu:P.underlying t=some (.interface ms))(s:TypeId)(x:Value):(Op.equal t (.iface s x) .nilIface).run P w= .ok false w:=qZ hu s x 9999
theorem lH{t:TypeId}{ms}(hu:P.underlying t=some (.interface ms)):(Op.equal t .nilIface .nilIface).run P w= .ok true w:=px hu 9999
theorem sg{t:TypeId}{ms}{op:BinOp}(hu:P.underlying t=some (.interface ms))(s:TypeId)(x:Value)(ho:op= .eql∨op= .neq):(binOp op t (.iface s x) .nilIface).run P w= .ok (.bool (op== .neq)) w:=by
 rcases ho with rfl|rfl
 ·show(do pure (.bool (←Op.equal t _ _)):Sem Value).run P w=_
  rw[Sem.run_bind,mN hu];rfl
 ·show(do pure (.bool (!(←Op.equal t _ _))):Sem Value).run P w=_
  rw[Sem.run_bind,mN hu];rfl
theorem pW{t:TypeId}{ms}{op:BinOp}(hu:P.underlying t=some (.interface ms))(ho:op= .eql∨op= .neq):(binOp op t .nilIface .nilIface).run P w= .ok (.bool (op== .eql)) w:=by
 rcases ho with rfl|rfl
 ·show(do pure (.bool (←Op.equal t _ _)):Sem Value).run P w=_
  rw[Sem.run_bind,lH hu];rfl
 ·show(do pure (.bool (!(←Op.equal t _ _))):Sem Value).run P w=_
  rw[Sem.run_bind,lH hu];rfl
theorem tH{op:BinOp}{t:TypeId}{x y:Operand}(h:(fy x||fy y)=true):(eqGuard op t x y .nilIface .nilIface).run P w= .ok () w:=by
 unfold eqGuard
 cases op<;>first
  |rfl
  |(cases x<;>cases y<;>first|rfl|(simp[fy] at h;done))
theorem zO{op:BinOp}{t:TypeId}{x y a:A}{v u:Value}{ox oy:Operand}(h:CQ P op t (fy ox||fy oy) x y=some a)(hx:VR w g x v)(hy:VR w g y u):
  ∃r,(do eqGuard op t ox oy v u;binOp op t v u:Sem Value).run P w= .ok r w∧VR w g a r:=by
 unfold CQ at h
 split at h
 ·rename_i k n k' n'
  rw[VR] at hx
  rw[VR] at hy
  subst hx hy
  split at h
  ·rename_i hk
   subst hk
   rw[Sem.run_bind,cQ (by simp) (by simp),Result.andThen_ok]
   cases op<;>simp only[reduceCtorEq] at h<;>simp only[i7,Option.some.injEq] at h
   case quo=>
    split at h
    ·cases h
    ·rename_i hb
     simp only[Option.some.injEq] at h
     subst h
     exact⟨_,by simp[binOp,Op.intDiv,hb],VR.mkInt⟩
   case rem=>
    split at h
    ·cases h
    ·rename_i hb
     simp only[Option.some.injEq] at h
     subst h
     exact⟨_,by simp[binOp,Op.intDiv,hb],VR.mkInt⟩
   all_goals
    subst h
    first
     |exact⟨_,by simp[binOp,Op.intArith,Op.intCmp],VR.mkInt⟩
     |exact⟨_,by simp[binOp,Op.intArith,Op.intCmp],VR.mkBool⟩
  ·cases h
 ·rename_i s s'
  rw[VR] at hx
  rw[VR] at hy
  subst hx hy
  rw[Sem.run_bind,cQ (by simp) (by simp),Result.andThen_ok]
  cases op<;>simp only[oK,reduceCtorEq] at h
  case add=>
   split at h
   ·rename_i hl
    simp only[Option.some.injEq] at h
    subst h
    refine⟨.string ⟨(s++s').toArray⟩, ?_,VR.mkStr⟩
    have hs1:(⟨s.toArray⟩:ByteArray).size=s.length:=by show s.toArray.size=_;simp
    have hs2:(⟨s'.toArray⟩:ByteArray).size=s'.length:=by show s'.toArray.size=_;simp
    have hm:¬(((s.length+s'.length:Nat):Int)>IntKind.i64.max):=by
     show ¬(((s.length+s'.length:Nat):Int)>9223372036854775807)
     omega
    have e:(⟨s.toArray⟩++⟨s'.toArray⟩:ByteArray)=⟨(s++s').toArray⟩:=by
     apply ByteArray.ext
     apply Array.ext'
     have:=Joins.data_append ⟨s.toArray⟩ ⟨s'.toArray⟩
     simp[this]
    simp only[binOp,Op.stringOp,hs1,hs2,if_neg hm,Sem.run_pure,e]
   ·cases h
  all_goals
   simp only[Option.some.injEq] at h
   subst h
   exact⟨_,by simp[binOp,Op.stringOp,Cc],VR.mkBool⟩
 ·rename_i b b'
  rw[VR] at hx
  rw[VR] at hy
  subst hx hy
  split at h
  ·rename_i hb
   have hu:=xu hb
   rw[Sem.run_bind,cQ (by simp) (by simp),Result.andThen_ok]
   cases op<;>simp only[reduceCtorEq,Option.some.injEq] at h
   all_goals
    subst h
    first
     |exact⟨_,(show(do pure (.bool (←Op.equal t (.bool b) (.bool b'))):Sem Value).run P w= .ok (.bool (b==b')) w from by rw[Sem.run_bind,lV hu];rfl),VR.mkBool⟩
     |exact⟨_,(show(do pure (.bool (!(←Op.equal t (.bool b) (.bool b')))):Sem Value).run P w= .ok (.bool (!(b==b'))) w from by rw[Sem.run_bind,lV hu];rfl),VR.mkBool⟩
  ·cases h
 ·split at h
  ·rename_i hb
   obtain⟨ms,hu⟩:=so hb
   rw[VR] at hx
   rw[VR] at hy
   obtain⟨_,rfl,_⟩:=hx
   subst hy
   rw[Sem.run_bind,cQ (by simp) (by simp),Result.andThen_ok]
   cases op<;>simp only[reduceCtorEq,Option.some.injEq] at h
   ·subst h;exact⟨_,sg hu _ _ (.inl rfl),VR.mkBool⟩
   ·subst h;exact⟨_,sg hu _ _ (.inr rfl),VR.mkBool⟩
  ·cases h
 ·split at h
  ·rename_i hb
   obtain⟨ms,hu⟩:=so hb.1
   rw[VR] at hx
   rw[VR] at hy
   subst hx hy
   rw[Sem.run_bind,tH hb.2,Result.andThen_ok]
   cases op<;>simp only[reduceCtorEq,Option.some.injEq] at h
   ·subst h;exact⟨_,pW hu (.inl rfl),VR.mkBool⟩
   ·subst h;exact⟨_,pW hu (.inr rfl),VR.mkBool⟩
  ·cases h
 ·split at h
  ·rename_i hb
   obtain⟨e,hu⟩:=kF hb
   rw[VR] at hx
   rw[VR] at hy
   obtain⟨_,rfl⟩:=hx
   subst hy
   rw[Sem.run_bind,cQ (by simp) (by simp),Result.andThen_ok]
   cases op<;>simp only[reduceCtorEq,Option.some.injEq] at h
   ·subst h;exact⟨_,gK hu _ (.inl rfl),VR.mkBool⟩
   ·subst h;exact⟨_,gK hu _ (.inr rfl),VR.mkBool⟩
  ·cases h
 ·split at h
  ·rename_i hb
   obtain⟨e,hu⟩:=kF hb
   rw[VR] at hx
   rw[VR] at hy
   obtain⟨⟨_,_,rfl⟩,_⟩:=hx
   subst hy
   rw[Sem.run_bind,cQ (by simp) (by simp),Result.andThen_ok]
   cases op<;>simp only[reduceCtorEq,Option.some.injEq] at h
   ·subst h;exact⟨_,gK hu _ (.inl rfl),VR.mkBool⟩
   ·subst h;exact⟨_,gK hu _ (.inr rfl),VR.mkBool⟩
  ·cases h
 ·split at h
  ·rename_i hb
   obtain⟨e,hu⟩:=kF hb
   rw[VR] at hx
   rw[VR] at hy
   obtain⟨_,_,_,rfl,_⟩:=hx
   subst hy
   rw[Sem.run_bind,cQ (by simp) (by simp),Result.andThen_ok]
   cases op<;>simp only[reduceCtorEq,Option.some.injEq] at h
   ·subst h;exact⟨_,gK hu _ (.inl rfl),VR.mkBool⟩
   ·subst h;exact⟨_,gK hu _ (.inr rfl),VR.mkBool⟩
  ·cases h
 ·split at h
  ·rename_i hb
   obtain⟨e,hu⟩:=kF hb
   rw[VR] at hx
   rw[VR] at hy
   subst hx hy
   rw[Sem.run_bind,cQ (by simp) (by simp),Result.andThen_ok]
   cases op<;>simp only[reduceCtorEq,Option.some.injEq] at h
   ·subst h;exact⟨_,qM hu (.inl rfl),VR.mkBool⟩
   ·subst h;exact⟨_,qM hu (.inr rfl),VR.mkBool⟩
  ·cases h
 ·cases h
theorem BR{op:UnOp}{x a:A}{v:Value}(h:unA op x=some a)(hx:VR w g x v):∃r,(Op.unary op v).run P w= .ok r w∧VR w g a r:=by
 unfold unA at h
 split at h
 ·rw[VR] at hx
  subst hx
  simp only[Option.some.injEq] at h
  subst h
  exact⟨_,by simp[Op.unary,Op.intArith],VR.mkInt⟩
 ·rw[VR] at hx
  subst hx
  simp only[Option.some.injEq] at h
  subst h
  exact⟨_,by simp[Op.unary],VR.mkBool⟩
 ·cases h
theorem xQ{s d:TypeId}{x a:A}{v:Value}(h:sQ P s d x=some a)(hx:VR w g x v):∃r,(convert s d v).run P w= .ok r w∧VR w g a r:=by
 unfold sQ at h
 split at h
 all_goals first|(cases h;done)|(split at h<;>first|(cases h;done)|skip)
 ·rename_i k _ n hu hs
  rw[VR] at hx
  subst hx
  obtain⟨d',hd'⟩:=Option.isSome_iff_exists.mp hs
  simp only[Option.some.injEq] at h
  subst h
  exact⟨_,by simp[convert,run_underlying hd',run_underlying hu,Conv.intToInt],VR.mkInt⟩
 ·rename_i str hu hs
  rw[VR] at hx
  subst hx
  obtain⟨d',hd'⟩:=Option.isSome_iff_exists.mp hs
  simp only[Option.some.injEq] at h
  subst h
  exact⟨_,by simp[convert,run_underlying hd',run_underlying hu],VR.mkStr⟩
 ·rename_i n hu hs
  rw[VR] at hx
  subst hx
  obtain⟨d',hd'⟩:=Option.isSome_iff_exists.mp hs
  simp only[Option.some.injEq] at h
  subst h
  exact⟨.string (Utf8.encode n),by simp[convert,run_underlying hd',run_underlying hu,Conv.intToString],by rw[VR]⟩
theorem Ac{t ty:TypeId}{x a:A}{v:Value}{ts:List TypeId}{vs:List Value}(h:Fu P t x=some a)(hx:VR w g x v):∃r,(Builtin.len_ (t::ts).toArray ty (v::vs).toArray).run P w= .ok r w∧VR w g a r:=by
 have e1:(t::ts).toArray[0]? =some t:=by simp
 have e2:(v::vs).toArray[0]? =some v:=by simp
 unfold Fu at h
 split at h<;>simp only[Option.some.injEq,reduceCtorEq] at h<;>subst h
 ·rename_i s hu
  rw[VR] at hx
  subst hx
  refine⟨.int .i64 s.length, ?_,VR.mkInt⟩
  have hs1:(⟨s.toArray⟩:ByteArray).size=s.length:=by show s.toArray.size=_;simp
  simp only[Builtin.len_,e1,e2,Sem.run_bind,run_underlying hu,Result.andThen_ok,Sem.run_pure,goInt,hs1]
 ·rename_i f n cs hu
  rw[VR] at hx
  obtain⟨_,_,_,rfl,_⟩:=hx
  exact⟨_,by simp only[Builtin.len_,e1,e2,Sem.run_bind,run_underlying hu,Result.andThen_ok,Sem.run_pure,goInt],VR.mkInt⟩
 ·rename_i id ver off n hu
  rw[VR] at hx
  obtain⟨⟨_,_,_,rfl,_⟩,_⟩:=hx
  exact⟨_,by simp only[Builtin.len_,e1,e2,Sem.run_bind,run_underlying hu,Result.andThen_ok,Sem.run_pure,goInt],VR.mkInt⟩
 ·rename_i hu
  rw[VR] at hx
  subst hx
  exact⟨_,by simp only[Builtin.len_,e1,e2,Sem.run_bind,run_underlying hu,Result.andThen_ok,Sem.run_pure,goInt];rfl,VR.mkInt⟩
 ·rename_i n e hu
  exact⟨_,by simp only[Builtin.len_,e1,e2,Sem.run_bind,run_underlying hu,Result.andThen_ok,Sem.run_pure,goInt],VR.mkInt⟩
theorem AC{x y a:A}{v u:Value}{tys:Array TypeId}{ty:TypeId}(h:Dk x y=some a)(hx:VR w g x v)(hy:VR w g y u):∃r,(Builtin.max_ tys ty #[v,u]).run P w= .ok r w∧VR w g a r:=by
 unfold Dk at h
 split at h
 ·split at h
  ·rename_i hk
   subst hk
   simp only[Option.some.injEq] at h
   rw[VR] at hx
   rw[VR] at hy
   subst h hx hy
   exact⟨_,by simp[Builtin.max_,Builtin.max2],VR.mkInt⟩
  ·cases h
 ·cases h
theorem Aw{x y a:A}{v u:Value}{tys:Array TypeId}{ty:TypeId}(h:D6 x y=some a)(hx:VR w g x v)(hy:VR w g y u):∃r,(Builtin.min_ tys ty #[v,u]).run P w= .ok r w∧VR w g a r:=by
 unfold D6 at h
 split at h
 ·split at h
  ·rename_i hk
   subst hk
   simp only[Option.some.injEq] at h
   rw[VR] at hx
   rw[VR] at hy
   subst h hx hy
   exact⟨_,by simp[Builtin.min_,Builtin.min2],VR.mkInt⟩
  ·cases h
 ·cases h
theorem rt{t:TypeId}(h:gu P t=false):∃d,P.underlying t=some d∧∀ms,d≠ .interface ms:=by
 unfold gu at h
 cases hu:P.underlying t with
 |none=>simp[hu] at h
 |some d=>exact⟨d,rfl,fun ms e=>by subst e;simp[hu] at h⟩
theorem tL{t xt:TypeId}{ok:Bool}{x a:A}{v:Value}(h:oB P t ok x=some a)(hx:VR w g x v):∃r,(Instr.typeAssert v xt t ok).run P w= .ok r w∧VR w g a r:=by
 unfold oB at h
 split at h
 ·rename_i u y
  rw[VR] at hx
  obtain⟨y',rfl,hy⟩:=hx
  split at h
  ·rename_i hc
   obtain⟨rfl,hi⟩:=hc
   obtain⟨d,hd,hn⟩:=rt hi
   simp only[Option.some.injEq] at h
   subst h
   refine⟨if ok then .tuple #[y',.bool true] else y', ?_, ?_⟩
   ·unfold Instr.typeAssert
    rw[Sem.run_bind,run_underlying hd,Result.andThen_ok]
    cases d<;>first|exact absurd rfl (hn _)|(simp only[if_true];cases ok<;>rfl)
   ·cases ok
    ·exact hy
    ·simp only[if_true]
     rw[VR]
     exact⟨[y',.bool true],rfl,.mk_cons hy (.mk_cons VR.mkBool VRs.mk_nil)⟩
  ·cases h
 ·cases h
theorem od{t:TypeId}(h:gu P t=false)(v:Value):(Instr.makeInterface t v).run P w= .ok (.iface t v) w:=by
 obtain⟨d,hu,hd⟩:=rt h
 simp only[Instr.makeInterface,Sem.run_bind,run_underlying hu,Result.andThen_ok]
 cases d<;>first|exact absurd rfl (hd _)|rfl
end
end AE
end Go.Proofs.YtmfdpijmholedaaGreatDoor
/- Each operation of the evaluator does what the model's operation does: what makes memory; and all of them together. -/
set_option linter.unusedVariables false
set_option linter.unusedSimpArgs false
set_option maxHeartbeats 800000
namespace Go.Proofs.YtmfdpijmholedaaGreatDoor
namespace AE
open Go Go.RowKit
section
variable {P:Program} {gl:Nat→A} {w0:World} {g:Gh} {m:Mem} {w:World}
theorem uj(zs:Array Value):∀n,((List.range (n*zs.size)).map fun i=>zs[i % zs.size]!)=(List.replicate n zs.toList).flatten
 |0=>by simp
 |n+1=>by
  rw[Nat.add_mul,Nat.one_mul,List.range_add,List.map_append,uj zs n,List.replicate_succ',List.flatten_append]
  congr 1
  simp only[List.map_map,List.flatten_cons,List.flatten_nil,List.append_nil]
  apply List.ext_getElem?
  intro j
  rw[List.getElem?_map]
  by_cases hj:j<zs.size
  ·have h1:(n*zs.size+j) % zs.size=j:=by rw[Nat.mul_comm,Nat.mul_add_mod,Nat.mod_eq_of_lt hj]
   simp[hj,h1]
  ·rw[List.getElem?_eq_none (by simp;omega),List.getElem?_eq_none (by simp;omega)]
   rfl
theorem pR(zs:Array Value)(n k:Nat)(hk:k=n*zs.size):((Array.range k).map (zs[· % zs.size]!)).toList=(List.replicate n zs.toList).flatten:=by
 subst hk
 rw[Array.toList_map,Array.toList_range]
 exact uj zs n
theorem pQ(hs:SR P gl w0 g m w){t:TypeId}{n:Nat}{parts:List (Nat×A)}{pvs:Array (Nat×Value)}{a:A}(h:fI P t n parts=some a)(hp:VRp w g parts pvs.toList):
  ∃v w' g',(Instr.buildSlice t n pvs).run P w= .ok v w'∧VR w' g' a v∧SR P gl w0 g' m w'∧Ext w g w' g':=by
 unfold fI at h
 cases he:bI P t with
 |none=>simp[he] at h
 |some e=>
 cases hz:bk P e with
 |none=>simp[he,hz] at h
 |some z=>
  simp only[he,hz,Option.bind_eq_bind,Option.bind_some] at h
  split at h
  ·rename_i hc
   obtain⟨cs,hcs,h⟩:=Option.bind_eq_some_iff.1 h
   simp only[Option.some.injEq] at h
   subst h
   obtain⟨zv,hzr,rfl⟩:=jK (w:=w) hz
   obtain⟨i,hi⟩:=yI hz
   have hzl:zv.cells.size=ao P e:=by simpa using hc.2
   have hzc:VRs w g (List.replicate n (zv.cells.toList.map A.ofCell)).flatten (List.replicate n zv.cells.toList).flatten:=(dp _).flatten n
   obtain⟨zc,hz0,hz1,hz2⟩:∃zc:Array Value,(n*ao P e=0→zc= #[])∧(¬n*ao P e=0→zc=zv.cells)∧((Array.range (n*ao P e)).map (zc[· % zc.size]!)).toList=(List.replicate n zv.cells.toList).flatten:=by
    by_cases h0:n*ao P e=0
    ·refine⟨#[],fun _=>rfl,fun q=>absurd h0 q, ?_⟩
     rw[h0]
     rcases Nat.mul_eq_zero.1 h0 with q|q
     ·subst q;simp
     ·have:zv.cells.toList=[]:=by
       apply List.eq_nil_of_length_eq_zero
       rw[Array.length_toList]
       omega
      rw[this]
      simp
    ·exact⟨zv.cells,fun q=>absurd q h0,fun _=>rfl,pR _ _ _ (by rw[hzl])⟩
   obtain⟨vs,h1,h2⟩:=kr (pv:=fun i=>some (i*ao P e,ao P e)) (us:=(Array.range (n*ao P e)).map (zc[· % zc.size]!)) (fun i p h=>h) (by rw[hz2];exact hzc) hp hcs
   obtain⟨g',s1,s2,s3⟩:=hs.newFix vs e 0 0
   refine⟨.slice (some ⟨w.heap.size,0,none⟩) n n,_,g', ?_, ?_,s1,s2⟩
   ·have h24:¬(n*ao P e>2 ^ 24):=by
     have:=hc.1
     omega
    by_cases h0:n*ao P e=0
    ·obtain rfl:=hz0 h0
     simp only[Instr.buildSlice,Sem.run_bind,run_underlying (cT he),Result.andThen_ok,ek hi,Sem.run_ite,if_neg h24,if_pos h0,Sem.run_pure,h1,newRow,run_newObj]
     rfl
    ·obtain rfl:=hz1 h0
     simp only[Instr.buildSlice,Sem.run_bind,run_underlying (cT he),Result.andThen_ok,ek hi,Sem.run_ite,if_neg h24,if_neg h0,Sem.run_pure,hzr,h1,newRow,run_newObj]
     rfl
   ·rw[VR]
    exact⟨_,_,vs.toList,rfl,fun _=>rfl,Nat.le_refl _,h2.mono s2,fun _=>⟨_,_,rfl,s3⟩⟩
  ·cases h
theorem dF(hs:SR P gl w0 g m w){size n:Nat}{x:A}{cs:List A}{v:Value}(h:jj size n x m=some cs)(hx:VR w g x v):
  ∃us:List Value,(Builtin.firstCells size n v).run P w= .ok us.toArray w∧VRs w g cs us:=by
 unfold jj at h
 split at h
 ·rename_i s
  split at h
  ·rename_i h1
   subst h1
   simp only[Option.some.injEq] at h
   subst h
   rw[VR] at hx
   subst hx
   refine⟨(s.take n).map fun b=> .int .u8 (b.toNat:Int), ?_, ?_⟩
   ·simp only[Builtin.firstCells,Sem.run_pure]
    congr 1
    apply Array.ext'
    have:=mU s 0 n
    rw[this]
    simp
   ·generalize s.take n=l
    induction l with
    |nil=>exact VRs.mk_nil
    |cons b r ih=>exact .mk_cons VR.mkInt ih
  ·cases h
 ·rename_i k cs0
  split at h
  ·rename_i hc
   simp only[Option.some.injEq] at h
   subst h
   rw[VR] at hx
   obtain⟨p,c,us,rfl,_,_,hcc,hl⟩:=hx
   refine⟨us.take (n*size), ?_,hcc.take _⟩
   have hlen:=hcc.length
   by_cases hu:us=[]
   ·subst hu
    have:n*size=0:=by
     have h1:=hc.1
     simp at hlen
     have h2:k*size=0:=by omega
     rcases Nat.mul_eq_zero.1 h2 with q|q
     ·have:n=0:=by omega
      rw[this,Nat.zero_mul]
     ·rw[q,Nat.mul_zero]
    cases p with
    |none=>simp[Builtin.firstCells]
    |some a=>simp[Builtin.firstCells,this,loadCells,loadCellsFrom]
   ·obtain⟨b,o,rfl,hl2⟩:=hl hu
    have hn:(us.take (n*size)).length=n*size:=by
     have:=Nat.mul_le_mul_right size hc.2
     simp
     omega
    have:=pM (P:=P) (hl2.take (n*size)).at
    rw[hn] at this
    exact this
  ·cases h
 ·rename_i id ver off k
  cases hr:m.rw[id]? with
  |none=>simp[hr] at h
  |some r=>
   simp only[hr,Option.bind_eq_bind,Option.bind_some] at h
   split at h
   ·rename_i hc
    simp only[Option.some.injEq] at h
    subst h
    rw[VR] at hx
    obtain⟨_,L,k1,k2,k3⟩:=hx
    have:L=r.cs.length:=by
     rw[hs.rl,List.getElem?_map,hr] at k1
     simpa using k1.symm
    obtain⟨hsh,c,hkc,hv⟩:=k3 (by omega)
    obtain⟨us,ss,rest,h1,h2,h3,h4⟩:=hs.rw id r hr
    rcases hv with⟨q1,q2,b',o',rfl⟩|⟨rfl,_⟩
    ·have hn0:n=0:=by omega
     subst hn0
     refine⟨[], ?_,by simpa using VRs.mk_nil⟩
     simp[Builtin.firstCells,loadCells,loadCellsFrom]
    refine⟨(ss.drop off).take (n*size), ?_,h4.sub _ _⟩
    have hat:=(At.of_block h1 h3).sub (off-g.sh id) (n*size)
    rw[Nat.zero_add,ow _ hsh] at hat
    have hlen:=h4.length
    have hn:((ss.drop off).take (n*size)).length=n*size:=by
     have:=Nat.mul_le_mul_right size hc.2.1
     simp
     omega
    have:=pM (P:=P) hat
    rw[hn] at this
    exact this
   ·cases h
 ·split at h
  ·rename_i hn
   simp only[Option.some.injEq] at h
   subst h hn
   rw[VR] at hx
   subst hx
   exact⟨[],by simp[Builtin.firstCells],VRs.mk_nil⟩
  ·cases h
 all_goals cases h
theorem wT{x:A}{v:Value}{n:Nat}(h:qW x=some n)(hx:VR w g x v):(Builtin.lenOf v).run P w= .ok n w:=by
 unfold qW at h
 split at h<;>simp only[Option.some.injEq,reduceCtorEq] at h<;>subst h
 ·rw[VR] at hx
  subst hx
  simp only[Builtin.lenOf,Sem.run_pure]
  congr 1
 ·rw[VR] at hx
  obtain⟨_,_,_,rfl,_⟩:=hx
  rfl
 ·rw[VR] at hx
  obtain⟨⟨_,_,_,rfl,_⟩,_⟩:=hx
  rfl
 ·rw[VR] at hx
  subst hx
  rfl
theorem uY(need:Nat):∀(r c:Nat),c<need→Builtin.growBy need r c≤2*need+768
 |0,c,h=>by simp only[Builtin.growBy];omega
 |r+1,c,h=>by
  simp only[Builtin.growBy]
  rw[if_neg (by omega)]
  by_cases hq:c+(c+768) / 4<need
  ·exact uY need r _ hq
  ·cases r with
   |zero=>simp only[Builtin.growBy];omega
   |succ r=>simp only[Builtin.growBy];rw[if_pos (by omega)];omega
theorem zB(need cap:Nat)(h:cap<need):Builtin.nextslicecap need cap≤2*need+768:=by
 unfold Builtin.nextslicecap
 split
 ·omega
 ·split
  ·omega
  ·exact uY need 4 cap h
theorem EC{need cap by_:Nat}(h:cap<need)(hb:by_≤1024)(hn:need*by_≤70368744177664):¬(Builtin.nextslicecap need cap*by_>2 ^ 48):=by
 have h1:=zB need cap h
 have h2:=Nat.mul_le_mul_right by_ h1
 have h3:(2*need+768)*by_=2*(need*by_)+768*by_:=by rw[Nat.add_mul,Nat.mul_assoc]
 omega
theorem fZ(z:Array Value)(n:Nat):(Builtin.zeroCells z n).size=n*z.size:=by simp[Builtin.zeroCells]
theorem eP(need old:Nat)(e:TypeId):∃c,(choose (.appendCap need old e)).run P w= .ok c w.drew∧need≤c:=by
 refine⟨(Question.appendCap need old e).cut (w.tape w.drawn (.appendCap need old e)), ?_, ?_⟩
 ·rw[run_choose]
  simp[Question.forced]
 ·simp only[Question.cut]
  omega
section
variable {ts tx ty e:TypeId} {base:Option Addr} {l c n:Nat} {xv:Value} {i:TypeInfo} (hts:P.underlying ts=some (.slice e)) (hi:P.info? e=some i)
  (htx:ie P tx=true) (hn:(Builtin.lenOf xv).run P w= .ok n w) (tail1:List TypeId) (tail2:List Value)
include htx in
omit hts in
theorem pS:∃d,P.underlying tx=some d∧((∃e',d= .slice e')∨d= .string):=by
 unfold ie at htx
 cases hu:P.underlying tx with
 |none=>simp[hu] at htx
 |some d=>cases d<;>simp[hu] at htx<;>first|exact⟨_,rfl,.inl ⟨_,rfl⟩⟩|exact⟨_,rfl,.inr rfl⟩
include hts hi htx hn
theorem fu {us:Array Value} {w':World} (hle:l+n≤c) (hf:(Builtin.firstCells (ao P e) n xv).run P w= .ok us w)
  (hst:(match base with|some a=>storeCells (a.add (l*ao P e)) us.toList|none=>pure ()).run P w= .ok () w'):
  (Builtin.append_ (ts::tx::tail1).toArray ty (.slice base l c::xv::tail2).toArray).run P w= .ok (.slice base (l+n) c) w':=by
 obtain⟨d,hd,hdi⟩:=pS htx
 have e1:(ts::tx::tail1).toArray[0]? =some ts:=by simp
 have e2:(ts::tx::tail1).toArray[1]? =some tx:=by simp
 have e3:(Value.slice base l c::xv::tail2).toArray[0]? =some (.slice base l c):=by simp
 have e4:(Value.slice base l c::xv::tail2).toArray[1]? =some xv:=by simp
 unfold Builtin.append_
 rcases hdi with⟨e',rfl⟩|rfl<;>
  simp only[e1,e2,e3,e4,Sem.run_bind,run_underlying hts,Result.andThen_ok,ek hi,run_underlying hd,Sem.run_pure,Bool.false_eq_true,if_false,hn,if_pos hle,Bool.not_false,if_true,hf]<;>
  cases base with
  |none=>
   simp only[Sem.run_pure,Result.ok.injEq,true_and] at hst⊢
   exact hst
  |some a=>simp only[Sem.run_bind,hst,Result.andThen_ok,Sem.run_pure]
theorem gv {old us:Array Value} {zv:Value} {nc:Nat} (hlt:c<l+n) (hb:i.bytes≤1024) (hnb:(l+n)*i.bytes≤70368744177664) (hnl:l+n≤70368744177664)
  (hch:(choose (.appendCap (l+n) c e)).run P w= .ok nc w.drew)
  (ho:(Builtin.firstCells (ao P e) l (.slice base l c)).run P w.drew= .ok old w.drew) (hf:(Builtin.firstCells (ao P e) n xv).run P w.drew= .ok us w.drew) (hz:(zeroValue e).run P w.drew= .ok zv w.drew) (hby:0<i.bytes):
  (Builtin.append_ (ts::tx::tail1).toArray ty (.slice base l c::xv::tail2).toArray).run P w= .ok (.slice (some ⟨w.heap.size,0,none⟩) (l+n) nc) (w.drew.alloc (.cells (old++us++Builtin.zeroCells zv.cells (nc-(l+n))) e)):=by
 obtain⟨d,hd,hdi⟩:=pS htx
 have e1:(ts::tx::tail1).toArray[0]? =some ts:=by simp
 have e2:(ts::tx::tail1).toArray[1]? =some tx:=by simp
 have e3:(Value.slice base l c::xv::tail2).toArray[0]? =some (.slice base l c):=by simp
 have e4:(Value.slice base l c::xv::tail2).toArray[1]? =some xv:=by simp
 have hnle:¬l+n≤c:=by omega
 have hfit:=EC hlt hb hnb
 have hti:∀W:World,(typeInfo e).run P W= .ok i W:=fun W=>by simp[typeInfo,hi]
 have hov:¬(((l+n:Nat):Int)>IntKind.i64.max∧(False∨i.bytes=0)):=by
  rintro⟨_,q|q⟩
  ·exact q
  ·omega
 unfold Builtin.append_
 rcases hdi with⟨e',rfl⟩|rfl
 all_goals
  simp only[e1,e2,e3,e4,Sem.run_bind,run_underlying hts,Result.andThen_ok,ek hi,run_underlying hd,Sem.run_pure,Bool.false_eq_true,if_false,hn,if_neg hnle,Bool.not_false,if_true,hti,Sem.run_ite,if_neg hov,if_neg hfit,hch,run_askRoom,ho,hf,hz,newRow,run_newObj]
  rfl
end
theorem vK(hs:SR P gl w0 g m w){ts tx ty:TypeId}{s x a:A}{m':Mem}{sv xv:Value}(tail1:List TypeId)(tail2:List Value)(h:re P ts tx s x m=some (a,m'))(hsv:VR w g s sv)(hxv:VR w g x xv):
  ∃v w' g',(Builtin.append_ (ts::tx::tail1).toArray ty (sv::xv::tail2).toArray).run P w= .ok v w'∧VR w' g' a v∧SR P gl w0 g' m' w'∧Ext w g w' g':=by
 unfold re at h
 cases he:bI P ts with
 |none=>simp[he] at h
 |some e=>
 cases hz:bk P e with
 |none=>simp[he,hz] at h
 |some z=>
 cases hb:bt P e with
 |none=>simp[he,hz,hb] at h
 |some by_=>
 cases hn:qW x with
 |none=>simp[he,hz,hb,hn] at h
 |some n=>
 cases hl:qW s with
 |none=>simp[he,hz,hb,hn,hl] at h
 |some l=>
 cases hcs:jj (ao P e) n x m with
 |none=>simp[he,hz,hb,hn,hl,hcs] at h
 |some cs=>
  simp only[he,hz,hb,hn,hl,hcs,Option.bind_eq_bind,Option.bind_some] at h
  split at h
  ·rename_i hc
   obtain⟨c1,c2,c2',c3,c4,c5,c6,c7,c8⟩:=hc
   have hts:=cT he
   obtain⟨i,hi,rfl⟩:=uV hb
   obtain⟨zv,hzr,rfl⟩:=jK (w:=w.drew) hz
   have hzl:zv.cells.size=ao P e:=by simpa using c1
   have hlx:=wT (P:=P) hn hxv
   obtain⟨us,hus,husr⟩:=dF hs hcs hxv
   have husl:=husr.length
   have hone:=husr.flats c7
   obtain⟨hsd,hed⟩:=hs.drew
   obtain⟨ud,hud,hudr⟩:=dF hsd hcs (hxv.mono hed)
   have hudl:=hudr.length
   split at h
   ·-- nils
    rw[VR] at hsv
    subst hsv
    simp only[qW,Option.some.injEq] at hl
    subst hl
    split at h
    ·rename_i hn0
     simp only[Option.some.injEq,Prod.mk.injEq] at h
     obtain⟨rfl,rfl⟩:=h
     subst hn0
     exact⟨_,w,g,fu hts hi c8 hlx tail1 tail2 (by omega) hus rfl,by rw[VR],hs,Ext.refl _ _⟩
    ·rename_i hn0
     simp only[Option.some.injEq,Prod.mk.injEq] at h
     obtain⟨rfl,rfl⟩:=h
     obtain⟨nc,hch,hge⟩:=eP (P:=P) (w:=w) (0+n) 0 e
     have hrun:=gv (l:=0) (c:=0) (base:=none) hts hi c8 hlx tail1 tail2 (by omega) c3 c4 c5 hch (old:= #[]) (by simp[Builtin.firstCells]) hud hzr c2' (ty:=ty)
     obtain⟨g',s1,s2,s3,s4,s5,s6,s7⟩:=hsd.newRow (cs:=cs) (us:= #[]++ud.toArray++Builtin.zeroCells zv.cells (nc-(0+n))) (ss:=ud) (rest:=(Builtin.zeroCells zv.cells (nc-(0+n))).toList) e (by simp) hudr
     refine⟨_,_,g',hrun, ?_,s1,hed.trans s2⟩
     have hsz:(#[]++ud.toArray++Builtin.zeroCells zv.cells (nc-(0+n))).size=nc*ao P e:=by
      have h1:nc=n+(nc-n):=by omega
      simp[fZ,hzl]
      rw[hudl,c6,←Nat.add_mul,←h1]
     rw[Nat.zero_add] at hge⊢
     have:=VR.mk_sl (w:=w.drew.alloc (.cells (#[]++ud.toArray++Builtin.zeroCells zv.cells (nc-(0+n))) e)) s6 s7 hge (by rw[s5,s4,hsz];exact Nat.le_refl _) (by rw[s5,c6];exact Nat.mul_le_mul_right _ hge)
     rw[s3,c6] at this
     exact this
   ·-- a full slice
    rename_i l' os
    simp only[qW,Option.some.injEq] at hl
    subst hl
    have hsv':=hsv
    rw[VR] at hsv
    obtain⟨p,c,uo,hv,hfull,_,huo,hlies⟩:=hsv
    have hcl:c=l':=hfull rfl
    rw[hcl] at hv
    subst hv
    split at h
    ·rename_i hol
     split at h
     ·rename_i hn0
      simp only[Option.some.injEq,Prod.mk.injEq] at h
      obtain⟨rfl,rfl⟩:=h
      subst hn0
      have hu0:us=[]:=List.eq_nil_of_length_eq_zero (by rw[husl,c6];omega)
      subst hu0
      refine⟨_,w,g,fu hts hi c8 hlx tail1 tail2 (by omega) hus ?_,hsv',hs,Ext.refl _ _⟩
      cases p<;>simp[storeCells]
     ·rename_i hn0
      simp only[Option.some.injEq,Prod.mk.injEq] at h
      obtain⟨rfl,rfl⟩:=h
      obtain⟨nc,hch,hge⟩:=eP (P:=P) (w:=w) (l'+n) l' e
      obtain⟨uo',ho1,ho2⟩:=dF (size:=ao P e) (n:=l') (x:= .isl true l' os) (cs:=os) hsd (by simp[jj,hol];exact List.take_of_length_le (by omega)) (hsv'.mono hed)
      have hrun:=gv (l:=l') (c:=l') (base:=p) hts hi c8 hlx tail1 tail2 (by omega) c3 c4 c5 hch ho1 hud hzr c2' (ty:=ty)
      have ho2l:=ho2.length
      obtain⟨g',s1,s2,s3,s4,s5,s6,s7⟩:=hsd.newRow (cs:=os++cs) (us:=uo'.toArray++ud.toArray++Builtin.zeroCells zv.cells (nc-(l'+n))) (ss:=uo'++ud) (rest:=(Builtin.zeroCells zv.cells (nc-(l'+n))).toList) e (by simp) (ho2.append hudr)
      refine⟨_,_,g',hrun, ?_,s1,hed.trans s2⟩
      have hsz:(uo'.toArray++ud.toArray++Builtin.zeroCells zv.cells (nc-(l'+n))).size=nc*ao P e:=by
       have h1:nc=(l'+n)+(nc-(l'+n)):=by omega
       simp[fZ,hzl]
       rw[hudl,c6,ho2l,hol,←Nat.add_mul,←Nat.add_mul,←h1]
      have:=VR.mk_sl (w:=w.drew.alloc (.cells (uo'.toArray++ud.toArray++Builtin.zeroCells zv.cells (nc-(l'+n))) e)) s6 s7 hge (by rw[s5,s4,hsz];exact Nat.le_refl _) (by rw[s5,List.length_append,c6,hol,←Nat.add_mul];exact Nat.mul_le_mul_right _ hge)
      rw[s3,List.length_append,c6,hol,←Nat.add_mul] at this
      exact this
    ·cases h
   ·-- a row
    rename_i id ver off l'
    simp only[qW,Option.some.injEq] at hl
    subst hl
    cases hr:m.rw[id]? with
    |none=>simp[hr] at h
    |some r=>
     simp only[hr,Option.bind_some] at h
     split at h
     ·rename_i hrc
      obtain⟨r1,r2,r3,r4⟩:=hrc
      simp only[Option.some.injEq,Prod.mk.injEq] at h
      obtain⟨rfl,rfl⟩:=h
      have hsv':=hsv
      rw[VR] at hsv
      obtain⟨_,L,k1,k2,k3⟩:=hsv
      have hL:L=r.cs.length:=by
       rw[hs.rl,List.getElem?_map,hr] at k1
       simpa using k1.symm
      obtain⟨hsh,c,hlc,hat⟩:=k3 (by omega)
      have hesr:=hs.es id r hr
      rw[r2] at hesr
      obtain⟨ua,ss,rest,h1,h2,h3,h4⟩:=hs.rw id r hr
      have h4l:=h4.length
      obtain⟨b,o,rfl⟩:∃b o,sv= .slice (some ⟨b,o,none⟩) l' c:=by
       rcases hat with⟨q1,q2,b,o,q3⟩|⟨q,_⟩
       ·exact⟨b,o,q3⟩
       ·exact⟨_,_,q⟩
      have hlen':(r.cs++cs).length=off+(l'+n)*ao P e:=by rw[List.length_append,c6,r1,r3,Nat.add_mul,Nat.add_assoc]
      by_cases hle:l'+n≤c
      ·-- in place
       have hm:=Nat.mul_le_mul_right (ao P e) hle
       rw[Nat.add_mul] at hm
       rcases hat with⟨q1,q2,b',o',q3⟩|⟨hat,hcap,hcv⟩
       ·-- nothing is appended
        have hn0:n=0:=by omega
        have hl0:l'=0:=by omega
        subst hn0
        have hu0:us=[]:=List.eq_nil_of_length_eq_zero (by rw[husl,c6];omega)
        subst hu0
        have hcs0:cs=[]:=List.eq_nil_of_length_eq_zero (by rw[c6];omega)
        subst hcs0
        have hrow:m.rw.set id ⟨e,r.cs++[]⟩=m.rw:=by
         rw[List.append_nil,←r2]
         apply List.ext_getElem?
         intro j
         rw[List.getElem?_set]
         by_cases hj:id=j
         ·subst hj
          rw[if_pos rfl,if_pos (List.getElem?_eq_some_iff.1 hr).1,hr]
         ·rw[if_neg hj]
        refine⟨_,w,g,fu hts hi c8 hlx tail1 tail2 hle hus ?_, ?_,by rw[hrow];exact hs,Ext.refl _ _⟩
        ·simp[storeCells]
        ·rw[Nat.add_zero,←r3]
         exact hsv'
       ·simp only[Value.slice.injEq,Option.some.injEq,Addr.mk.injEq] at hat
        obtain⟨⟨rfl,rfl,_⟩,_,_⟩:=hat
        have hcap':off-g.sh id+c*g.es id≤g.cz id:=by
         rcases r4 with q|q
         ·exact hcap (.inl q)
         ·exact hcap (.inr ⟨hesr.trans q,by rw[q,Nat.mul_one] at r3;exact r3.symm⟩)
        rw[hesr] at hcap'
        clear hcap k3
        obtain⟨o2,ho2⟩:∃o2,o2=off-g.sh id:=⟨_,rfl⟩
        rw[←ho2] at hcap'⊢
        have hroom:o2+l'*ao P e+us.length≤ua.size:=by
         rw[h2,husl,c6,Nat.add_assoc]
         exact Nat.le_trans (Nat.add_le_add_left hm _) hcap'
        have hst:=run_storeCells_at P (g.br id) (o2+l'*ao P e) r.el us 0 ua w h1 (by simpa using hroom) hone
        have hsl:(ss.drop (g.sh id)).length=o2+l'*ao P e:=by rw[List.length_drop];omega
        have key:(ua.toList.take (o2+l'*ao P e+0)++us++ua.toList.drop (o2+l'*ao P e+0+us.length))=(ss++us).drop (g.sh id)++rest.drop us.length:=by
         rw[List.drop_append_of_le_length (by omega),h3,Nat.add_zero,←hsl,List.take_left' rfl,←List.drop_drop,List.drop_left' rfl]
        obtain⟨g',s1,s2,s3,s4,s5,s6,s7⟩:=hs.setRow (i:=id) (r:=r) (cs:=r.cs++cs) (us:=(ua.toList.take (o2+l'*ao P e+0)++us++ua.toList.drop (o2+l'*ao P e+0+us.length)).toArray) (ss:=ss++us) (rest:=rest.drop us.length) hr (by simp) (by rw[←h2,key];simp;have:=congrArg List.length h3;simp at this;omega) key (h4.append husr)
        refine⟨.slice (some ⟨g.br id,o2,none⟩) (l'+n) c,_,g',fu hts hi c8 hlx tail1 tail2 hle hus ?_, ?_,by rw[show(⟨r.el,r.cs++cs⟩:Row)=⟨e,r.cs++cs⟩ from by rw[r2]] at s1;exact s1,s2⟩
        ·simp only[add_plain',List.size_toArray]
         exact hst
        ·rw[VR]
         rw[hlen'] at s6
         refine⟨⟨_,_,_,rfl,hle⟩,_,s6,Nat.le_refl _,fun _=>⟨by rw[s7];exact hsh,c,hle,.inr ⟨by rw[s3,s7,←ho2],fun _=> ?_,fun e0=> ?_⟩⟩⟩
         ·rw[s5,s4,s7,←ho2,hesr]
          exact hcap'
         ·rw[s5,hesr,e0,Nat.zero_add]
          exact Nat.mul_le_mul_right _ hle
      ·-- a new block
       obtain⟨nc,hch,hge⟩:=eP (P:=P) (w:=w) (l'+n) c e
       have hcellsL:jj (ao P e) l' (.sl id ver off l') m=some (r.cs.drop off):=by
        simp only[jj,hr,Option.bind_eq_bind,Option.bind_some]
        rw[if_pos ⟨r1,Nat.le_refl _,by omega⟩,List.take_of_length_le (by rw[List.length_drop];omega)]
       obtain⟨uo',ho1,ho2⟩:=dF hsd hcellsL (hsv'.mono hed)
       have hrun:=gv (l:=l') (c:=c) (base:=some ⟨b,o,none⟩) hts hi c8 hlx tail1 tail2 (by omega) c3 c4 c5 hch ho1 hud hzr c2' (ty:=ty)
       have ho2l:=ho2.length
       rw[List.length_drop] at ho2l
       have hnp:0<n*ao P e:=Nat.mul_pos (by omega) c2
       obtain⟨uw,sw,restw,w1,w2,w3,w4⟩:=hsd.rw id r hr
       have w4l:=w4.length
       obtain⟨g',s1,s2,s3,s4,s5,s6,s7⟩:=hsd.moveRow (i:=id) (r:=r) (cs:=r.cs++cs) (us:=uo'.toArray++ud.toArray++Builtin.zeroCells zv.cells (nc-(l'+n))) (ss:=(sw.take off++uo')++ud) (rest:=(Builtin.zeroCells zv.cells (nc-(l'+n))).toList) hr (by rw[List.length_append];omega) (k:=off) (by rw[List.append_assoc,List.drop_left' (by rw[List.length_take];omega)];simp) (by
        have:=(w4.take off).append ho2
        rw[List.take_append_drop] at this
        exact this.append hudr)
       rw[show(⟨r.el,r.cs++cs⟩:Row)=⟨e,r.cs++cs⟩ from by rw[r2],r2] at s1
       rw[r2] at s2
       refine⟨.slice (some ⟨w.heap.size,0,none⟩) (l'+n) nc,_,g',hrun, ?_,s1,hed.trans s2⟩
       rw[VR]
       have hsz:(uo'.toArray++ud.toArray++Builtin.zeroCells zv.cells (nc-(l'+n))).size=nc*ao P e:=by
        have h1:nc=(l'+n)+(nc-(l'+n)):=by omega
        have h2:uo'.length=l'*ao P e:=by omega
        simp[fZ,hzl]
        rw[hudl,c6,h2,←Nat.add_mul,←Nat.add_mul,←h1]
       rw[hlen'] at s6
       refine⟨⟨_,_,_,rfl,hge⟩,_,s6,Nat.le_refl _,fun _=>⟨by omega,nc,hge,.inr ⟨by rw[s3,s7,Nat.sub_self];rfl,fun _=> ?_,fun e0=> ?_⟩⟩⟩
       ·rw[s5,s4,s7,hsz,r2,Nat.sub_self,Nat.zero_add]
        exact Nat.le_refl _
       ·rw[s5,r2,e0,Nat.zero_add]
        exact Nat.mul_le_mul_right _ hge
     ·-- a part of a row,from its beginning on
      split at h
      ·rename_i hrc
       obtain⟨r4,r1,r2,r3⟩:=hrc
       simp only[Option.some.injEq,Prod.mk.injEq] at h
       obtain⟨rfl,rfl⟩:=h
       subst r4
       have hgl:g.rl[id]? =some ver:=by rw[hs.rl,List.getElem?_map,hr,←r1];rfl
       have hsv':=hsv
       obtain⟨hsh,c,hv,hlc,hcz,hvc⟩:=hsv.sl_cap hgl
       subst hv
       have hesr:=hs.es id r hr
       rw[r2] at hesr
       rw[hesr] at hcz hvc
       obtain⟨ua,ss,rest,h1,h2,h3,h4⟩:=hs.rw id r hr
       have h4l:=h4.length
       rw[hsh,List.drop_zero] at h3
       have hmul:(l'+n)*ao P e=l'*ao P e+n*ao P e:=Nat.add_mul _ _ _
       have hlen':(r.cs.take (l'*ao P e)++cs++r.cs.drop ((l'+n)*ao P e)).length=max ver ((l'+n)*ao P e):=by
        simp only[List.length_append,List.length_take,List.length_drop,c6]
        omega
       by_cases hle:l'+n≤c
       ·have hm:=Nat.mul_le_mul_right (ao P e) hle
        have hroom:l'*ao P e+us.length≤ua.size:=by rw[h2,husl,c6];omega
        have hst:=run_storeCells_at P (g.br id) (l'*ao P e) r.el us 0 ua w h1 (by simpa using hroom) hone
        have key:(ua.toList.take (l'*ao P e+0)++us++ua.toList.drop (l'*ao P e+0+us.length))=(ss.take (l'*ao P e)++us++ss.drop ((l'+n)*ao P e)).drop (g.sh id)++rest.drop ((l'+n)*ao P e-ss.length):=by
         rw[hsh,List.drop_zero,h3,Nat.add_zero,List.take_append_of_le_length (by omega),List.drop_append,husl,c6,←hmul,List.append_assoc,List.append_assoc,List.append_assoc]
        obtain⟨g',s1,s2,s3,s4,s5,s6,s7⟩:=hs.setRow (i:=id) (r:=r) (cs:=r.cs.take (l'*ao P e)++cs++r.cs.drop ((l'+n)*ao P e)) (us:=(ua.toList.take (l'*ao P e+0)++us++ua.toList.drop (l'*ao P e+0+us.length)).toArray) (ss:=ss.take (l'*ao P e)++us++ss.drop ((l'+n)*ao P e)) (rest:=rest.drop ((l'+n)*ao P e-ss.length)) hr (by rw[hlen'];omega)
         (by rw[←h2];simp only[List.size_toArray,List.length_append,List.length_take,List.length_drop,Array.length_toList];omega) key (((h4.take _).append husr).append (h4.drop _))
        refine⟨.slice (some ⟨g.br id,0,none⟩) (l'+n) c,_,g',fu hts hi c8 hlx tail1 tail2 hle hus ?_, ?_,by rw[show(⟨r.el,r.cs.take (l'*ao P e)++cs++r.cs.drop ((l'+n)*ao P e)⟩:Row)=⟨e,r.cs.take (l'*ao P e)++cs++r.cs.drop ((l'+n)*ao P e)⟩ from by rw[r2]] at s1;exact s1,s2⟩
        ·simp only[add_plain',List.size_toArray,Nat.zero_add]
         exact hst
        ·rw[hlen'] at s6
         have:=VR.mk_sl (w:=w.setRow (g.br id) (ua.toList.take (l'*ao P e+0)++us++ua.toList.drop (l'*ao P e+0+us.length)).toArray) s6 (by rw[s7];exact hsh) hle (by rw[s5,s4,hesr];exact hcz) (by rw[s5,hesr];omega)
         rw[s3] at this
         exact this
       ·obtain⟨nc,hch,hge⟩:=eP (P:=P) (w:=w) (l'+n) c e
        have hcp:c*ao P e+ao P e≤(l'+n)*ao P e:=by
         have:=Nat.mul_le_mul_right (ao P e) (show c+1≤l'+n by omega)
         rw[Nat.add_mul,Nat.one_mul] at this
         exact this
        have hcellsL:jj (ao P e) l' (.sl id ver 0 l') m=some (r.cs.take (l'*ao P e)):=by
         simp only[jj,hr,Option.bind_eq_bind,Option.bind_some,List.drop_zero]
         rw[if_pos ⟨r1,Nat.le_refl _,by omega⟩]
        obtain⟨uo',ho1,ho2⟩:=dF hsd hcellsL (hsv'.mono hed)
        have hrun:=gv (l:=l') (c:=c) (base:=some ⟨g.br id,0,none⟩) hts hi c8 hlx tail1 tail2 (by omega) c3 c4 c5 hch ho1 hud hzr c2' (ty:=ty)
        have ho2l:=ho2.length
        rw[List.length_take] at ho2l
        have hdr:r.cs.drop ((l'+n)*ao P e)=[]:=List.drop_eq_nil_of_le (by omega)
        rw[hdr,List.append_nil] at hlen'⊢
        obtain⟨g',s1,s2,s3,s4,s5,s6,s7⟩:=hsd.moveRow (i:=id) (r:=r) (cs:=r.cs.take (l'*ao P e)++cs) (us:=uo'.toArray++ud.toArray++Builtin.zeroCells zv.cells (nc-(l'+n))) (ss:=uo'++ud) (rest:=(Builtin.zeroCells zv.cells (nc-(l'+n))).toList) hr (by rw[hlen'];omega) (k:=0) (by simp) (ho2.append hudr)
        rw[show(⟨r.el,r.cs.take (l'*ao P e)++cs⟩:Row)=⟨e,r.cs.take (l'*ao P e)++cs⟩ from by rw[r2],r2] at s1
        rw[r2] at s2 s5
        refine⟨.slice (some ⟨w.heap.size,0,none⟩) (l'+n) nc,_,g',hrun, ?_,s1,hed.trans s2⟩
        have hsz:(uo'.toArray++ud.toArray++Builtin.zeroCells zv.cells (nc-(l'+n))).size=nc*ao P e:=by
         have h1:nc=(l'+n)+(nc-(l'+n)):=by omega
         have h2:uo'.length=l'*ao P e:=by omega
         simp[fZ,hzl]
         rw[hudl,c6,h2,←Nat.add_mul,←Nat.add_mul,←h1]
        rw[hlen'] at s6
        have hgm:=Nat.mul_le_mul_right (ao P e) hge
        have:=VR.mk_sl (w:=w.drew.alloc (.cells (uo'.toArray++ud.toArray++Builtin.zeroCells zv.cells (nc-(l'+n))) e)) s6 s7 hge (by rw[s5,s4,hsz];exact Nat.le_refl _) (by rw[s5];omega)
        rw[s3] at this
        exact this
      ·cases h
   ·cases h
  ·cases h
end
end AE
end Go.Proofs.YtmfdpijmholedaaGreatDoor
