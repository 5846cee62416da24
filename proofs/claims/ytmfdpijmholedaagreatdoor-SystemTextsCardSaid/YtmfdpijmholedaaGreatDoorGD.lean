/- strings.Builder's copyCheck, walked: of a builder that was not written yet, and of one that was. -/
import Derived.Test.YtmfdpijmholedaaGreatDoorGC
import Derived.Shelf.RegionOpenPlain
import Derived.Shelf.Strconv.AtoiAll
import Derived.Shelf.SlSortCmp.NoneTotal
import Derived.Test.YtmfdpijmholedaaGreatDoorProg
import Derived.Shelf.Strconv.Itoa3
import Derived.Ground.NamesProg
set_option linter.unusedVariables false
set_option linter.unusedSimpArgs false
namespace Go.Proofs.YtmfdpijmholedaaGreatDoor
namespace AE
open Go Go.RowKit
section
theorem szB:(Tryz.prog.info? 78).map (·.size)=some 2:=by kernel_rfl
theorem H6:Tryz.prog.cellsOf 78=2:=by kernel_rfl
theorem J4:sameLayout Tryz.prog Tryz.prog.depth 78 78=true:=by kernel_rfl
theorem Ky(k:Nat)(hk:2≤k):liesAt Tryz.prog Tryz.prog.depth 78 (k / Tryz.prog.cellsOf 78) 0 78 1=true:=by
 have hd:Tryz.prog.depth=(2*(Tryz.prog.types.size+Made.depth)+1)+1:=rfl
 have h2:0+1≤k / 2:=by omega
 have key:∀n,rowAt Tryz.prog (fun x=>sameLayout Tryz.prog Tryz.prog.depth x 78) (n+1) 78 (k / Tryz.prog.cellsOf 78) 0 1=true:=fun n=>by
  simp[rowAt,H6,J4]
  exact .inl (by omega)
 have key2:∀n,liesAt Tryz.prog (n+1) 78 (k / Tryz.prog.cellsOf 78) 0 78 1=true:=fun n=>by
  simp only[liesAt,Bool.or_eq_true]
  exact .inl (by have:=key (2*(Tryz.prog.types.size+Made.depth)+1);rwa [←hd] at this)
 rw[hd]
 exact key2 _
set_option maxHeartbeats 1000000 in
set_option maxRecDepth 100000 in
theorem CI(b:Nat)(w:World)(h0:w.cell? ⟨b,0,none⟩=some (.pointer (some ⟨b,0,none⟩))):
  Calls Tryz.prog 94 #[.pointer (some ⟨b,0,none⟩)] w fun e w'=>e= .returned (.tuple #[])∧w'=w:=by
 obtain⟨j,hj,_⟩:=Option.map_eq_some_iff.1 szB
 have mixed:Tryz.prog.follows .mixedOrders=true:=by kernel_rfl
 have t1:=Tryz.underlying78;have a1:=Tryz.isAgg78;have z1:=Tryz.sizeOf78;have u1:=run_underlying Tryz.underlying78
 have t2:=Tryz.underlying76;have a2:=Tryz.isAgg76;have z2:=Tryz.sizeOf76;have u2:=run_underlying Tryz.underlying76
 go_enter Tryz.func94,Tryz.ntmps94
 go_wp2
 rw[Lib.run_neq_ptr_same w _ Tryz.underlying76 hj]
 go_wp2
 go_end0
 exact⟨rfl,rfl⟩
set_option maxHeartbeats 1000000 in
set_option maxRecDepth 100000 in
theorem AW(b:Nat)(w:World)(h0:w.cell? ⟨b,0,none⟩=some (.pointer none)){k:Nat}(hk:2≤k)(hsh:w.shape? b=some (78,k))(hfz:w.frozen? ⟨b,0,none⟩=false):
  Calls Tryz.prog 94 #[.pointer (some ⟨b,0,none⟩)] w fun e w'=>e= .returned (.tuple #[])∧w'=w.setCell ⟨b,0,none⟩ (.pointer (some ⟨b,0,none⟩)):=by
 obtain⟨j,hj,hjs⟩:=Option.map_eq_some_iff.1 szB
 have mixed:Tryz.prog.follows .mixedOrders=true:=by kernel_rfl
 have t1:=Tryz.underlying78;have a1:=Tryz.isAgg78;have z1:=Tryz.sizeOf78;have u1:=run_underlying Tryz.underlying78
 have t2:=Tryz.underlying76;have a2:=Tryz.isAgg76;have z2:=Tryz.sizeOf76;have u2:=run_underlying Tryz.underlying76
 go_enter Tryz.func94,Tryz.ntmps94
 go_wp2
 rw[Lib.run_to_unsafe w ⟨b,0,none⟩ Tryz.underlying76 Tryz.underlying171 hj (by rw[hjs];decide) hsh (show 0<k by omega)]
 simp only[Result.andThen]
 rw[Oper.upon_value]
 go_wp2
 rw[run_callFunc_extern Tryz.func135 (by kernel_rfl) (by kernel_rfl) (by kernel_rfl) (e:=Extern.AbiNoEscape.same) (by kernel_rfl)]
 rw[Lib.run_noEscape]
 simp only[Result.andThen]
 rw[Oper.upon_value]
 go_wp2
 rw[Lib.run_from_unsafe w ⟨b,0,none⟩ Tryz.underlying171 Tryz.underlying76 hj hsh (Ky k hk)]
 simp only[Result.andThen]
 rw[Oper.upon_value]
 go_wp2
 go_end0
 exact⟨rfl,rfl⟩
theorem E2:Tryz.prog.cellsOf 5=1:=by kernel_rfl
set_option maxHeartbeats 2000000 in
set_option maxRecDepth 100000 in
theorem Lf (b gb c k:Nat) (l:List UInt8) (w:World) (h1:w.cell? ⟨b,1,none⟩=some (.slice (some ⟨gb,0,none⟩) l.length c)) (h0:l≠[]) (hc:l.length≤c) (hsh:w.shape? gb=some (5,k)) (hk:l.length≤k) (h63:l.length≤9223372036854775807)
  (hcell:∀j x,l[j]? =some x→w.cell? ((⟨gb,0,none⟩:Addr).add j)=some (.int .u8 x.toNat)):
  Calls Tryz.prog 51 #[.pointer (some ⟨b,0,none⟩)] w fun e w'=>e= .returned (.string ⟨l.toArray⟩)∧w'=w.drew.freeze ⟨gb,0,none⟩ l.length:=by
 have hl0:l.length≠0:=by simpa using h0
 have c1:w.drew.cell? ⟨b,1,none⟩=some (.slice (some ⟨gb,0,none⟩) l.length c):=h1
 have hSD:(Builtin.unsafeSliceData_ #[40] 126 #[.slice (some ⟨gb,0,none⟩) l.length c]).run Tryz.prog w.drew= .ok (.pointer (some ⟨gb,0,none⟩)) w.drew:=
  Lib.run_unsafeSliceData_row _ _ _ _ _ _ (by omega)
 have hUS:(Builtin.unsafeString_ #[126,3] 9 #[.pointer (some ⟨gb,0,none⟩),.int .i64 l.length]).run Tryz.prog w.drew= .ok (.string ⟨l.toArray⟩) (w.drew.freeze ⟨gb,0,none⟩ l.length):=
  Lib.run_unsafeString_row w.drew 126 3 9 5 Tryz.underlying126 E2 gb k hsh l h0 hk h63 hcell
 have mixed:Tryz.prog.follows .mixedOrders=true:=by kernel_rfl
 have t1:=Tryz.underlying78;have a1:=Tryz.isAgg78;have z1:=Tryz.sizeOf78;have u1:=run_underlying Tryz.underlying78
 have t2:=Tryz.underlying76;have a2:=Tryz.isAgg76;have z2:=Tryz.sizeOf76;have u2:=run_underlying Tryz.underlying76
 have t3:=Tryz.underlying40;have a3:=Tryz.isAgg40;have z3:=Tryz.sizeOf40;have u3:=run_underlying Tryz.underlying40
 have t4:=Tryz.underlying3;have a4:=Tryz.isAgg3;have z4:=Tryz.sizeOf3;have u4:=run_underlying Tryz.underlying3
 have t5:=Tryz.underlying9;have a5:=Tryz.isAgg9;have z5:=Tryz.sizeOf9;have u5:=run_underlying Tryz.underlying9
 go_enter Tryz.func51,Tryz.ntmps51
 go_wp2
 go_region_o
 all_goals (go_wp2;go_ret;exact⟨rfl,rfl⟩)
def nn:FuncId:=94
def kA:FuncId:=200
def oG:List A→Mem→Option (Res×Mem)
 |[.rptr id 2 0],m=>
  match m.rw[id]? with
  |some ⟨t,[.nilp,x]⟩=>if t=78 then some (.ret (.tup []),⟨m.bx,m.rw.set id ⟨t,[.rptr id 2 0,x]⟩⟩) else none
  |some ⟨t,[.rptr i 2 0,x]⟩=>if i=id then some (.ret (.tup []),m) else none
  |_=>none
 |_,_=>none
def lA:List A→Mem→Option (Res×Mem)
 |[.str s,.int .u8 c],m=>some (.ret (.int .i64 (Lib.indexByte s c.toNat.toUInt8)),m)
 |_,_=>none
theorem wZ{C:Cfg}(hP:C.P=Tryz.prog){args:List A}{m:Mem}{r:Res×Mem}(h:lA args m=some r):aV C kA args m r:=by
 unfold aV
 rw[hP]
 refine⟨⟨_,_,Tryz.func200,rfl,by decide⟩,fun w0 g w vals hs hv=> ?_⟩
 unfold lA at h
 split at h
 case h_2=>cases h
 case h_1 s c=>
 simp only[Option.some.injEq] at h
 subst h
 rw[VRs.cons_iff] at hv
 obtain⟨u,t,rfl,h1,h2⟩:=hv
 rw[VRs.cons_iff] at h2
 obtain⟨u2,t2,rfl,h3,h4⟩:=h2
 rw[VRs.nil_iff] at h4
 subst h4
 rw[VR] at h1
 rw[VR] at h3
 subst h1
 subst h3
 refine(Any.stringslite_IndexByte Tryz.lays217 ⟨s.toArray⟩ c w).mono ?_
 rintro e w' ⟨rfl,rfl⟩
 exact⟨g,hs,Ext.refl _ _,by show VR w' g (.int .i64 _) _;rw[VR]⟩
theorem Bt{C:Cfg}(hP:C.P=Tryz.prog){args:List A}{m:Mem}{r:Res×Mem}(h:oG args m=some r):aV C nn args m r:=by
 unfold aV
 rw[hP]
 refine⟨⟨_,_,Tryz.func94,rfl,by decide⟩,fun w0 g w vals hs hv=> ?_⟩
 unfold oG at h
 split at h
 case h_2=>cases h
 case h_1 id=>
 rw[VRs.cons_iff] at hv
 obtain⟨u,t,rfl,h1,h2⟩:=hv
 rw[VRs.nil_iff] at h2
 subst h2
 have hv0:=h1
 rw[VR] at h1
 obtain⟨_,L,hL,_,hp⟩:=h1
 split at h
 case h_3=>cases h
 case h_1 t x hr=>
  split at h
  case isFalse=>cases h
  case isTrue ht=>
  subst ht
  simp only[Option.some.injEq] at h
  subst h
  have hL2:L=2:=by
   rw[hs.rl,List.getElem?_map,hr] at hL
   simpa using hL.symm
  obtain⟨hsh,hu⟩:=hp hL2.symm
  replace hsh:g.sh id=0:=by omega
  rw[hsh,Nat.sub_zero] at hu
  subst hu
  obtain⟨us,ss,rest,k1,k2,k3,k4⟩:=hs.rw id _ hr
  rw[hsh,List.drop_zero] at k3
  have k4':=k4
  rw[VRs.cons_iff] at k4
  obtain⟨u0,t0,rfl,q1,q2⟩:=k4
  rw[VRs.cons_iff] at q2
  obtain⟨u1,t1,rfl,q3,q4⟩:=q2
  rw[VRs.nil_iff] at q4
  subst q4
  rw[VR] at q1
  subst q1
  have hlen:2≤us.size:=by rw[←Array.length_toList,k3];simp
  have hc0:us[0]? =some (.pointer none):=by rw[←Array.getElem?_toList,k3];rfl
  refine(AW (g.br id) w (by simp[World.cell?,k1,hc0]) hlen (k:=us.size) (by simp[World.shape?,k1]) (by simp[World.frozen?,k1])).mono ?_
  rintro e w' ⟨rfl,rfl⟩
  rw[setCell_eq_setRow w (g.br id) 0 us 78 (0,0) _ k1]
  have hus:(us.setIfInBounds 0 (.pointer (some ⟨g.br id,0,none⟩))).toList=[.pointer (some ⟨g.br id,0,none⟩),u1]++rest:=by
   rw[Array.toList_setIfInBounds,k3];rfl
  obtain⟨g',f1,f2,_⟩:=hs.setRow (i:=id) (cs:=[.rptr id 2 0,x]) (us:=us.setIfInBounds 0 (.pointer (some ⟨g.br id,0,none⟩))) (ss:=[.pointer (some ⟨g.br id,0,none⟩),u1]) (rest:=rest) hr (by simp) (by rw[Array.size_setIfInBounds];exact k2) (by rw[hsh,List.drop_zero];exact hus) (.mk_cons hv0 (.one q3))
  exact⟨g',f1,f2,by show VR _ _ (.tup []) _;rw[VR];exact⟨[],rfl,VRs.mk_nil⟩⟩
 case h_2 t i x hr=>
  split at h
  case isFalse=>cases h
  case isTrue hi=>
  subst hi
  simp only[Option.some.injEq] at h
  subst h
  have hL2:L=2:=by
   rw[hs.rl,List.getElem?_map,hr] at hL
   simpa using hL.symm
  obtain⟨hsh,hu⟩:=hp hL2.symm
  replace hsh:g.sh i=0:=by omega
  rw[hsh,Nat.sub_zero] at hu
  subst hu
  obtain⟨us,ss,rest,k1,k2,k3,k4⟩:=hs.rw i _ hr
  rw[hsh,List.drop_zero] at k3
  rw[VRs.cons_iff] at k4
  obtain⟨u0,t0,rfl,q1,q2⟩:=k4
  rw[VR] at q1
  obtain⟨_,L',hL',_,hp'⟩:=q1
  rw[hL] at hL'
  obtain rfl:L=L':=by simpa using hL'
  obtain⟨_,hu0⟩:=hp' hL2.symm
  rw[hsh,Nat.sub_zero] at hu0
  subst hu0
  have hc0:us[0]? =some (.pointer (some ⟨g.br i,0,none⟩)):=by rw[←Array.getElem?_toList,k3];rfl
  refine(CI (g.br i) w (by simp[World.cell?,k1,hc0])).mono ?_
  rintro e w' ⟨rfl,rfl⟩
  exact⟨g,hs,Ext.refl _ _,by show VR _ _ (.tup []) _;rw[VR];exact⟨[],rfl,VRs.mk_nil⟩⟩
end
end AE
end Go.Proofs.YtmfdpijmholedaaGreatDoor
/- A function that writes into a strings.Builder and hands its string back. -/
set_option linter.unusedVariables false
set_option linter.unusedSimpArgs false
set_option maxHeartbeats 1000000
namespace Go.Proofs.YtmfdpijmholedaaGreatDoor
namespace AE
open Go Go.RowKit
section
variable {C:Cfg}
theorem JU:bk Tryz.prog 78=some [.nilp,.nils]:=by kernel_rfl
theorem FZ{ops:Array Oper}{x y z:Oper}(h:ops.toList=[x,y,z]):ops[0]? =some x∧ops[1]? =some y∧ops[2]? =some z∧ops.size=3:=by
 have h0:ops= #[x,y,z]:=by apply Array.ext';rw[h]
 subst h0
 exact⟨rfl,rfl,rfl,rfl⟩
theorem sf{w:World}{g:Gh}:∀(l:List UInt8) (ss:List Value),VRs w g (l.map fun b=> .int .u8 (b.toNat:Int)) ss→ss=l.map fun b=>Value.int .u8 (b.toNat:Int)
 |[],ss,h=>by rw[List.map_nil,VRs.nil_iff] at h;exact h
 |x::r,ss,h=>by
  rw[List.map_cons,VRs.cons_iff] at h
  obtain⟨u,t,rfl,z1,z2⟩:=h
  rw[VR] at z1
  subst z1
  rw[sf r t z2]
  rfl
theorem xU (hC:CfgOk C) (hP:C.P=Tryz.prog) {f nt:Nat} {K:EvK} (hK:KOk C f nt K) {R0 c1 R4 mid:Code} {id3 id10:Nat} {ops3 ops10:Array Oper} {fn:Func} (hf:C.P.funcs[f]? =some fn)
  (hb:fn.body=some (.seq R0 (.seq c1 (.seq (.region id3 ops3 false) (.seq R4 (.seq mid (.seq (.region id10 ops10 false) .ret))))))) (hnt:fn.ntmps=nt) (hfn:fn.name≠ "runtime.NumGoroutine") (h36:36≤nt) (hres:fn.results= #[.tmp 2,.tmp 3])
  (h3:∃t p e,ops3.toList=[⟨some 4,.alloc 78,t,p,e,none⟩])
  (h10:∃ty t1 p1 e1 t2 p2 e2 t3 p3 e3,ops10.toList=[⟨some 35,.call {callee:= .value (.func 51),args:= #[.tmp 4],argTypes:=ty},t1,p1,e1,none⟩,⟨some 2,.assign (.tmp 35),t2,p2,e2,none⟩,⟨some 3,.assign (.const (.int .i64 0)),t3,p3,e3,none⟩])
  {args:List A} (hlen:args.length≤nt) {s0 s1 s4 s5:St} (k0:K R0 ⟨bi 0 args,⟨[],[]⟩⟩=some (.normal,s0)) (k1:K c1 s0=some (.normal,s1))
  (k4:K R4 ⟨(4,.rptr s1.m.rw.length 2 0)::s1.tm,⟨s1.m.bx,s1.m.rw++[⟨78,[.nilp,.nils]⟩]⟩⟩=some (.normal,s4)) (k5:K mid s4=some (.normal,s5))
  {id rid:Nat} {a0:A} {l:List UInt8} (hb4:lk 4 s5.tm= .rptr id 2 0) (hr1:s5.m.rw[id]? =some ⟨78,[a0,.sl rid l.length 0 l.length]⟩) (hr2:s5.m.rw[rid]? =some ⟨5,l.map fun b=> .int .u8 (b.toNat:Int)⟩) (hl0:l≠[]) (h63:l.length≤9223372036854775807):
  aV C f args ⟨[],[]⟩ (.ret (.tup [.str l,.int .i64 0]),⟨[],[]⟩):=by
 refine⟨⟨fn,_,hf,hb,hfn⟩,fun w0 g w vals hs hv=> ?_⟩
 have hvl:=hv.length
 have htm:TmR w g (bi 0 args) (vals.toArray++Array.replicate (fn.ntmps-vals.toArray.size) undef):=fun t=>by
  have:=iL args vals w g 0 t (Array.replicate (fn.ntmps-vals.toArray.size) undef) [] rfl hv
  simpa using this
 have hsz:(vals.toArray++Array.replicate (fn.ntmps-vals.toArray.size) undef).size=nt:=by
  simp
  omega
 refine(callsIn_wide (n:=0)).1 (callsIn_of_wp hf hb trivial ?_)
 have part:∀c,Sub (.seq R0 (.seq c1 (.seq (.region id3 ops3 false) (.seq R4 (.seq mid (.seq (.region id10 ops10 false) .ret)))))) c→cJ C f c:=fun c hc=>⟨fn,_,hf,hb,hc⟩
 show Code.wpIn (Fz none) 0 C.P _ _ _ _
 refine wpIn_seq (jZ hK k0 (part _ (by simp[Sub,Sub.refl])) hsz hs htm fun g0 w1 a0' q1 q2 q3 q4 q5=> ?_)
 refine wpIn_seq (jZ hK k1 (part _ (by simp[Sub,Sub.refl])) q4 q1 q3 fun g1 w2 a1 r1 r2 r3 r4 r5=> ?_)
 have hdf:a1.defers=[]:=by rw[r5,q5]
 have hx1:Ext w g w2 g1:=q2.trans r2
 obtain⟨t,p,e,hops3⟩:=h3
 have o3:ops3[0]? =some ⟨some 4,.alloc 78,t,p,e,none⟩∧ops3.size=1:=by
  have:ops3= #[⟨some 4,.alloc 78,t,p,e,none⟩]:=by apply Array.ext';rw[hops3]
  subst this
  exact⟨rfl,rfl⟩
 refine wpIn_seq (wpIn_region ?_)
 rw[o3.2]
 show wpOpsIn (Fz none) 0 C.P _ _ [0] a1 w2
 obtain⟨zv,hzr,hzz⟩:=jK (P:=C.P) (w:=w2) (by rw[hP];exact JU)
 have hrun:(execOp a1.eval (⟨some 4,.alloc 78,t,p,e,none⟩:Oper)).run C.P w2= .ok (.value (.pointer (some ⟨w2.heap.size,0,none⟩))) (w2.alloc (.cells zv.cells 78)):=by
  simp only[execOp,Instr.alloc,Sem.run_bind,hzr,Result.andThen_ok,newVar,newRow,run_newObj,Sem.run_pure]
  rfl
 refine fb o3.1 rfl (fun c e=>by cases e) (by rw[hrun];intro _ _ _ e;cases e) ?_
 rw[hrun]
 have hzl:zv.cells.size=2:=by
  have:=congrArg List.length hzz
  simpa using this.symm
 obtain⟨g2,n1,n2,n3,n4,n5,n6,n7⟩:=r1.newRow (cs:=[.nilp,.nils]) (us:=zv.cells) (ss:=zv.cells.toList) (rest:=[]) 78 (by simp) (by rw[hzz];exact dp _)
 have hv4:VR (w2.alloc (.cells zv.cells 78)) g2 (.rptr s1.m.rw.length 2 0) (.pointer (some ⟨w2.heap.size,0,none⟩)):=by
  rw[VR]
  exact⟨⟨_,_,rfl⟩,2,n6,Nat.le_refl _,fun _=>⟨by omega,by rw[n3,n7]⟩⟩
 have t4:TmR (w2.alloc (.cells zv.cells 78)) g2 ((4,.rptr s1.m.rw.length 2 0)::s1.tm) (a1.put (some 4) (.pointer (some ⟨w2.heap.size,0,none⟩))).tmps:=TmR.put (d:=some 4) (r3.mono n2) (by simp[r4];omega) hv4
 have z4:(a1.put (some 4) (.pointer (some ⟨w2.heap.size,0,none⟩))).tmps.size=nt:=by rw[eL];exact r4
 have d4:(a1.put (some 4) (.pointer (some ⟨w2.heap.size,0,none⟩))).defers=[]:=by rw[bZ];exact hdf
 show Code.wpIn (Fz none) 0 C.P (.seq R4 _) _ (a1.put (some 4) (.pointer (some ⟨w2.heap.size,0,none⟩))) (w2.alloc (.cells zv.cells 78))
 generalize a1.put (some 4) (.pointer (some ⟨w2.heap.size,0,none⟩))=b1 at t4 z4 d4
 generalize w2.alloc (.cells zv.cells 78)=w3 at n1 n2 t4
 refine wpIn_seq (jZ hK k4 (part _ (by simp[Sub,Sub.refl])) z4 n1 t4 fun g4 w4 a4 u1 u2 u3 u4 u5=> ?_)
 refine wpIn_seq (jZ hK k5 (part _ (by simp[Sub,Sub.refl])) u4 u1 u3 fun g5 w5 a5 v1 v2 v3 v4 v5=> ?_)
 have d5:a5.defers=[]:=by rw[v5,u5,d4]
 have hx5:Ext w g w5 g5:=((hx1.trans n2).trans u2).trans v2
 clear q1 q2 q3 q4 q5 r1 r2 r3 r4 r5 u1 u2 u3 u4 u5 v2 v5 n1 n2 n4 n5 n6 n7 t4 z4 d4 hv4
 /- what lies where -/
 have hb:=v3 4
 rw[hb4,VR] at hb
 obtain⟨_,L,hL,_,hp⟩:=hb
 have hL2:L=2:=by
  rw[v1.rl,List.getElem?_map,hr1] at hL
  simpa using hL.symm
 obtain⟨hsh,hbv⟩:=hp hL2.symm
 replace hsh:g5.sh id=0:=by omega
 rw[hsh,Nat.sub_zero] at hbv
 obtain⟨us,ss,rest,m1,m2,m3,m4⟩:=v1.rw id _ hr1
 rw[hsh,List.drop_zero] at m3
 rw[VRs.cons_iff] at m4
 obtain⟨u0,t0,rfl,x1,x2⟩:=m4
 rw[VRs.cons_iff] at x2
 obtain⟨u1,t1,rfl,x3,x4⟩:=x2
 rw[VRs.nil_iff] at x4
 subst x4
 obtain⟨hsh2,c,hu1,hnc,_⟩:=x3.sl_zero (by rw[v1.rl,List.getElem?_map,hr2];simp)
 obtain⟨us2,ss2,rest2,y1,y2,y3,y4⟩:=v1.rw rid _ hr2
 rw[hsh2,List.drop_zero] at y3
 have hss2:ss2=l.map fun b=>Value.int .u8 (b.toNat:Int):=sf l ss2 y4
 have hc1:w5.cell? ⟨g5.br id,1,none⟩=some (.slice (some ⟨g5.br rid,0,none⟩) l.length c):=by
  have:us[1]? =some u1:=by rw[←Array.getElem?_toList,m3];rfl
  simp[World.cell?,m1,this,hu1]
 have hk:l.length≤us2.size:=by rw[←Array.length_toList,y3,hss2];simp
 have hcell:∀j x,l[j]? =some x→w5.cell? ((⟨g5.br rid,0,none⟩:Addr).add j)=some (.int .u8 x.toNat):=fun j x hj=>by
  have e1:(⟨g5.br rid,0,none⟩:Addr).add j=⟨g5.br rid,j,none⟩:=by unfold Addr.add;split<;>simp_all
  have hjl:=(List.getElem?_eq_some_iff.1 hj).1
  have e2:us2[j]? =some (.int .u8 x.toNat):=by
   rw[←Array.getElem?_toList,y3,hss2,List.getElem?_append_left (by simpa using hjl),List.getElem?_map,hj]
   rfl
  rw[e1]
  simp[World.cell?,y1,e2]
 have hbs:=Lf (g5.br id) (g5.br rid) c us2.size l w5 hc1 hl0 hnc (by simp[World.shape?,y1]) hk h63 hcell
 obtain⟨ty,t1,p1,e1,t2,p2,e2,t3,p3,e3,hops10⟩:=h10
 have o10:=FZ hops10
 refine wpIn_seq (wpIn_region ?_)
 rw[o10.2.2.2]
 show wpOpsIn (Fz none) 0 C.P _ _ [0,1,2] a5 w5
 have hrunc:=hY (P:=C.P) (ρ:=a5.eval) (w:=w5) (o:=⟨some 35,.call {callee:= .value (.func 51),args:= #[.tmp 4],argTypes:=ty},t1,p1,e1,none⟩) rfl (h:=51) (us:=[]) rfl (by rw[hP];exact⟨_,_,Tryz.func51,rfl,by decide⟩)
 refine fb o10.1 rfl (fun c e=>by cases e) (by rw[hrunc];intro _ _ _ e;cases e) ?_
 rw[hrunc,Oper.upon_enter]
 have hev4:a5.eval (.tmp 4)= .pointer (some ⟨g5.br id,0,none⟩):=hbv
 have harr:(#[Operand.tmp 4].map a5.eval++([]:List Value).toArray)= #[.pointer (some ⟨g5.br id,0,none⟩)]:=by simp[hev4]
 rw[harr,hP]
 refine hbs.mono ?_
 rintro en w6 ⟨rfl,rfl⟩
 rw[←hP]
 have mv:∀{i d:Nat} {x:Operand} {ty:TypeId} {p:String} {ed:Array Edge} {aa:Act} {rest:List Nat} {ww:World} {QQ:Exit→Act→World→Prop},ops10[i]? =some ⟨some d,.assign x,ty,p,ed,none⟩→wpOpsIn (Fz none) 0 C.P ops10 QQ rest (aa.put (some d) (aa.eval x)) ww→wpOpsIn (Fz none) 0 C.P ops10 QQ (i::rest) aa ww:=by
  intro i d x ty p ed aa rest ww QQ ho hn'
  exact fb ho rfl (fun c e=>by cases e) (fun r ar w' e=>by cases e) hn'
 refine mv o10.2.1 (mv o10.2.2.1 ?_)
 show Code.wpIn (Fz none) 0 C.P .ret _ _ _
 refine wpIn_ret ?_
 /- the end -/
 have hgb:w.heap.size≤g5.br rid:=by
  have hrid:rid<g5.rl.length:=by rw[v1.rlen];exact(List.getElem?_eq_some_iff.1 hr2).1
  rcases Nat.lt_or_ge (g5.br rid) w.heap.size with hlt|hge
  ·exfalso
   by_cases hF:∃o,g.F (g5.br rid) o
   ·obtain⟨o,hF⟩:=hF
    exact(v1.ownr rid hrid).2 o (hx5.fx _ o hF).1
   ·have hL:dj g (g5.br rid):=⟨fun i hi=>by rw[hs.nb] at hi;exact absurd hi (by simp),fun i hi=>by rw[hs.rl] at hi;exact absurd hi (by simp),fun o h=>hF ⟨o,h⟩⟩
    exact(hx5.fr _ hlt hL).2.2.1 rid hrid rfl
  ·exact hge
 obtain⟨f1,f2⟩:=v1.drew
 have hcut:=f1.cut hC.gl 0 0 (Nat.zero_le _) (Nat.zero_le _) (fun i cs hi=>absurd hi (Nat.not_lt_zero _)) (fun i r hi=>absurd hi (Nat.not_lt_zero _))
 have hec:=(hx5.trans f2).cut
 rw[hs.nb,hs.rl] at hec
 have hne:¬l.length=0:=by simpa using hl0
 have hfz:∀k,k≠g5.br rid→(w5.drew.freeze ⟨g5.br rid,0,none⟩ l.length).heap[k]? =w5.drew.heap[k]? :=fun k hk=>by
  unfold World.freeze
  rw[if_neg hne]
  simp only[Array.getElem?_modify]
  rw[if_neg (Ne.symm hk)]
 have hsz6:(w5.drew.freeze ⟨g5.br rid,0,none⟩ l.length).heap.size=w5.drew.heap.size:=by
  unfold World.freeze
  rw[if_neg hne]
  simp
 have hcells:∀o,(w5.drew.freeze ⟨g5.br rid,0,none⟩ l.length).cell? ⟨g5.br rid,o,none⟩=w5.drew.cell? ⟨g5.br rid,o,none⟩:=fun o=>by
  have y1':w5.drew.heap[g5.br rid]? =some (.cells us2 5 (0,0)):=y1
  have:(w5.drew.freeze ⟨g5.br rid,0,none⟩ l.length).heap[g5.br rid]? =some (.cells us2 5 (0,l.length)):=by
   unfold World.freeze
   rw[if_neg hne]
   simp only[Array.getElem?_modify,if_true,y1']
   simp
  simp[World.cell?,this,y1']
 have hf:(w5.drew.freeze ⟨g5.br rid,0,none⟩ l.length).os=w5.drew.os∧(w5.drew.freeze ⟨g5.br rid,0,none⟩ l.length).tape=w5.drew.tape∧(w5.drew.freeze ⟨g5.br rid,0,none⟩ l.length).output=w5.drew.output∧(w5.drew.freeze ⟨g5.br rid,0,none⟩ l.length).drawn=w5.drew.drawn:=by
  unfold World.freeze
  rw[if_neg hne]
  exact⟨rfl,rfl,rfl,rfl⟩
 obtain⟨j1,j2⟩:=hcut.turnF (l:=g5.br rid) (w':=w5.drew.freeze ⟨g5.br rid,0,none⟩ l.length) (fun i hi=>absurd hi (Nat.not_lt_zero _)) (fun i hi=>by simp[dc] at hi) (fun o _=>hcells o) (by have:=hs.szB;omega) hf.1 hf.2.1 hf.2.2.1 hsz6 (by rw[hf.2.2.2];exact Nat.le_refl _) hfz
 have hx6:Ext w g (w5.drew.freeze ⟨g5.br rid,0,none⟩ l.length) (dc g5 0 0):=(hec.toX.trans j2).toExt fun b hb=>by omega
 have hr:(results fn (((a5.put (some 35) (.string ⟨l.toArray⟩)).put (some 2) ((a5.put (some 35) (.string ⟨l.toArray⟩)).eval (.tmp 35))).put (some 3) (.int .i64 0)).tmps).run C.P (w5.drew.freeze ⟨g5.br rid,0,none⟩ l.length)= .ok (.tuple #[.string ⟨l.toArray⟩,.int .i64 0]) (w5.drew.freeze ⟨g5.br rid,0,none⟩ l.length):=by
  have e35:(a5.put (some 35) (.string ⟨l.toArray⟩)).eval (.tmp 35)= .string ⟨l.toArray⟩:=by
   simp only[Act.eval,Act.put,Array.getD_eq_getD_getElem?,Array.getElem?_setIfInBounds,if_true,v4,show 35<nt by omega,Option.getD_some]
  rw[e35]
  have g2:((((a5.put (some 35) (.string ⟨l.toArray⟩)).put (some 2) (.string ⟨l.toArray⟩)).put (some 3) (.int .i64 0)).tmps).getD 2 undef= .string ⟨l.toArray⟩:=by
   simp[Act.put,Array.getD_eq_getD_getElem?,Array.getElem?_setIfInBounds,v4,show 2<nt by omega]
  have g3:((((a5.put (some 35) (.string ⟨l.toArray⟩)).put (some 2) (.string ⟨l.toArray⟩)).put (some 3) (.int .i64 0)).tmps).getD 3 undef= .int .i64 0:=by
   simp[Act.put,Array.getD_eq_getD_getElem?,Array.getElem?_setIfInBounds,v4,show 3<nt by omega]
  unfold results
  rw[hres,Sem.run_bind,Array.mapM_eq_mapM_toList,Sem.run_map]
  simp only[List.mapM_cons,List.mapM_nil,Sem.run_bind,Sem.run_pure,Result.andThen_ok,g2,g3]
  rfl
 refine⟨?_,_,hr,dc g5 0 0, ?_,hx6, ?_⟩
 ·rw[bZ,bZ,bZ];exact d5
 ·exact j1
 ·show VR _ _ (.tup [.str l,.int .i64 0]) _
  rw[VR]
  exact⟨[.string ⟨l.toArray⟩,.int .i64 0],rfl,.mk_cons (by rw[VR]) (.one (by rw[VR]))⟩
end
end AE
end Go.Proofs.YtmfdpijmholedaaGreatDoor
/- The evaluator with a number of steps: the kernel can run it. What it answers holds; what a call answers on an empty store it answers on any. -/
set_option linter.unusedVariables false
set_option linter.unusedSimpArgs false
set_option linter.unusedSectionVars false
namespace Go.Proofs.YtmfdpijmholedaaGreatDoor
namespace AE
open Go Go.RowKit
mutual
def eqA:A→A→Bool
 | .undef,.undef=>true
 | .int k n,.int k' n'=>(k==k')&&(n==n')
 | .bool b,.bool b'=>b==b'
 | .str s,.str s'=>s==s'
 | .nilp,.nilp=>true
 | .nili,.nili=>true
 | .nilf,.nilf=>true
 | .yld l,.yld l'=>l==l'
 | .nils,.nils=>true
 | .ifc t x,.ifc t' x'=>(t==t')&&eqA x x'
 | .agg cs,.agg cs'=>eqL cs cs'
 | .tup cs,.tup cs'=>eqL cs cs'
 | .isl f n cs,.isl f' n' cs'=>(f==f')&&(n==n')&&eqL cs cs'
 | .rp cs,.rp cs'=>eqL cs cs'
 | .ptr i o,.ptr i' o'=>(i==i')&&(o==o')
 | .sl a b c d,.sl a' b' c' d'=>(a==a')&&(b==b')&&(c==c')&&(d==d')
 | .rptr a b c,.rptr a' b' c'=>(a==a')&&(b==b')&&(c==c')
 | .fn f cs,.fn f' cs'=>(f==f')&&eqL cs cs'
 |_,_=>false
def eqL:List A→List A→Bool
 |[],[]=>true
 |a::r,b::q=>eqA a b&&eqL r q
 |_,_=>false
end
mutual
theorem th:∀(a b:A),eqA a b=true→a=b
 | .undef,b,h=>by cases b<;>simp[eqA] at h⊢
 | .int k n,b,h=>by cases b<;>simp[eqA] at h⊢;exact h
 | .bool x,b,h=>by cases b<;>simp[eqA] at h⊢;exact h
 | .str s,b,h=>by cases b<;>simp[eqA] at h⊢;exact h
 | .nilp,b,h=>by cases b<;>simp[eqA] at h⊢
 | .nili,b,h=>by cases b<;>simp[eqA] at h⊢
 | .nilf,b,h=>by cases b<;>simp[eqA] at h⊢
 | .yld l,b,h=>by cases b<;>simp[eqA] at h⊢;exact h
 | .nils,b,h=>by cases b<;>simp[eqA] at h⊢
 | .ifc t x,b,h=>by cases b<;>simp[eqA] at h⊢;exact⟨h.1,th _ _ h.2⟩
 | .agg cs,b,h=>by cases b<;>simp[eqA] at h⊢;exact jA _ _ h
 | .tup cs,b,h=>by cases b<;>simp[eqA] at h⊢;exact jA _ _ h
 | .isl f n cs,b,h=>by cases b<;>simp[eqA] at h⊢;exact⟨h.1.1,h.1.2,jA _ _ h.2⟩
 | .rp cs,b,h=>by cases b<;>simp[eqA] at h⊢;exact jA _ _ h
 | .ptr i o,b,h=>by cases b<;>simp[eqA] at h⊢;exact h
 | .sl x y z u,b,h=>by cases b<;>simp[eqA] at h⊢;exact⟨h.1.1.1,h.1.1.2,h.1.2,h.2⟩
 | .rptr x y z,b,h=>by cases b<;>simp[eqA] at h⊢;exact⟨h.1.1,h.1.2,h.2⟩
 | .fn f cs,b,h=>by cases b<;>simp[eqA] at h⊢;exact⟨h.1,jA _ _ h.2⟩
theorem jA:∀(a b:List A),eqL a b=true→a=b
 |[],b,h=>by cases b<;>simp[eqL] at h⊢
 |a::r,b,h=>by
  cases b<;>simp[eqL] at h⊢
  exact⟨th _ _ h.1,jA _ _ h.2⟩
end
def eqR(a b:Row):Bool:=(a.el==b.el)&&eqL a.cs b.cs
theorem EE{a b:Row}(h:eqR a b=true):a=b:=by
 unfold eqR at h
 simp at h
 obtain⟨e,c⟩:=a
 obtain⟨e',c'⟩:=b
 simp only[Row.mk.injEq]
 exact⟨h.1,jA _ _ h.2⟩
def qi{α:Type}(eq:α→α→Bool)(cl:α→Bool):List α→List α→Bool
 |[],_=>true
 |a::r,b::q=>(cl b||eq a b)&&qi eq cl r q
 |_::_,[]=>false
theorem lZ{α:Type}{eq:α→α→Bool}{cl:α→Bool}(he:∀a b,eq a b=true→a=b):∀{l m:List α},qi eq cl l m=true→l.length≤m.length∧∀i,i<l.length→m[i]? =l[i]? ∨∃c,m[i]? =some c∧cl c=true
 |[],m,h=>⟨Nat.zero_le _,fun i hi=>by simp at hi⟩
 |a::r,[],h=>by simp[qi] at h
 |a::r,b::q,h=>by
  rw[qi,Bool.and_eq_true,Bool.or_eq_true] at h
  obtain⟨h1,h2⟩:=lZ he h.2
  refine⟨by simp;exact h1,fun i hi=> ?_⟩
  cases i with
  |zero=>
   rcases h.1 with h3|h3
   ·exact .inr ⟨b,rfl,h3⟩
   ·exact .inl (by rw[he _ _ h3];rfl)
  |succ i=>
   have:=h2 i (by simpa using hi)
   simpa using this
def rn(cl:Row→Bool):List Row→List Row→Bool
 |[],_=>true
 |b::q,a::r=>(cl b||eqR a b)&&rn cl q r
 |b::q,[]=>cl b&&rn cl q []
theorem oi{cl:Row→Bool}:∀{m l:List Row},rn cl m l=true→∀i,i<m.length→m[i]? =l[i]? ∨∃c,m[i]? =some c∧cl c=true
 |[],l,h,i,hi=>by simp at hi
 |b::q,a::r,h,i,hi=>by
  rw[rn,Bool.and_eq_true,Bool.or_eq_true] at h
  cases i with
  |zero=>
   rcases h.1 with h3|h3
   ·exact .inr ⟨b,rfl,h3⟩
   ·exact .inl (by rw[EE h3];rfl)
  |succ i=>
   have:=oi h.2 i (by simpa using hi)
   simpa using this
 |b::q,[],h,i,hi=>by
  rw[rn,Bool.and_eq_true] at h
  cases i with
  |zero=>exact .inr ⟨b,rfl,h.1⟩
  |succ i=>
   have:=oi h.2 i (by simpa using hi)
   simpa using this
def o6(k:Option (List Nat))(m0:Mem)(s:St):Option St:=
 match k with
 |none=>some s
 |some l=>
  if(l.all fun t=>closed m0.bx.length s.m.rw.length (lk t s.tm))&&qi eqL (fun cs=>cs.all (closed m0.bx.length s.m.rw.length)) m0.bx s.m.bx&&rn (fun r=>r.cs.all (closed m0.bx.length s.m.rw.length)) s.m.rw m0.rw
  then some ⟨prune k s.tm,⟨s.m.bx.take m0.bx.length,s.m.rw⟩⟩ else none
theorem vP{k:Option (List Nat)}{m0:Mem}{s s':St}(h:o6 k m0 s=some s'):endRound k m0 s=some s':=by
 unfold o6 at h
 unfold endRound
 split
 ·exact h
 ·rename_i l
  simp only at h
  split at h
  ·rename_i hc
   simp only[Bool.and_eq_true,List.all_eq_true] at hc
   obtain⟨⟨h1,h2⟩,h3⟩:=hc
   obtain⟨h4,h5⟩:=lZ jA h2
   rw[if_pos ⟨h1,h4,h5,oi h3⟩]
   exact h
  ·cases h
def EA(nb nr:Nat):A→Bool
 | .fn _ cs=> !closed.closedL nb nr cs
 | .ifc _ x=>EA nb nr x
 | .agg cs| .tup cs| .isl _ _ cs| .rp cs=>lostL cs
 |_=>false
where
 lostL:List A→Bool
  |[]=>false
  |a::r=>EA nb nr a||lostL r
def lO(P:Program)(m0:Mem)(r:Res)(m:Mem):Option (Res×Mem):=
 if EA m0.bx.length m0.rw.length r.val then some (r,m)
 else if qi eqL (fun cs=>cs.all (closed m0.bx.length m0.rw.length)) m0.bx m.bx&&qi eqR (fun r=>r.cs.all (closed m0.bx.length m0.rw.length)) m0.rw m.rw then
  some (erR (er P m0.bx.length m0.rw.length m.rw 4) r,Ft m0 m)
 else if qi eqL (fun cs=>cs.all (closed m0.bx.length m.rw.length)) m0.bx m.bx&&rn (fun r=>r.cs.all (closed m0.bx.length m.rw.length)) m.rw m0.rw&&closed m0.bx.length m.rw.length r.val then
  some (r,⟨m.bx.take m0.bx.length,m.rw⟩)
 else none
theorem ut{P:Program}{m0 m:Mem}{r:Res}{x:Res×Mem}(h:lO P m0 r m=some x):(∃k,bC P k m0 r m=some x)∨x=(r,m):=by
 unfold lO at h
 split at h
 ·exact .inr (Option.some.inj h).symm
 left
 split at h
 ·rename_i hc
  rw[Bool.and_eq_true] at hc
  obtain⟨h4,h5⟩:=lZ jA hc.1
  obtain⟨h6,h7⟩:=lZ (fun _ _=>EE) hc.2
  refine⟨false, ?_⟩
  unfold bC
  rw[if_neg (by simp),if_pos ⟨h4,h6,h5,h7⟩]
  exact h
 ·split at h
  ·rename_i hc
   rw[Bool.and_eq_true,Bool.and_eq_true] at hc
   obtain⟨h4,h5⟩:=lZ jA hc.1.1
   refine⟨true, ?_⟩
   unfold bC
   rw[if_pos rfl,if_pos ⟨⟨h4,h5,oi hc.1.2⟩,hc.2⟩]
   exact h
  ·cases h
def isA(x:Option A)(v:A):Bool:=match x with|some a=>eqA a v|none=>false
theorem Dp{x:Option A}{v:A}(h:isA x v=true):x=some v:=by
 unfold isA at h
 split at h
 ·rw[th _ _ h]
 ·cases h
def lC(P:Program)(tr:List Ent)(fin:Mem):List (Nat×List Nat×Bool)→Bool
 |[]=>true
 |(p,es,f)::r=>
  (match tr[p]? with
   |some ⟨.load t x,v,_⟩=>(es.all fun e=>match tr[e]? with|some en=>isA (iw P t x en.m) v|none=>true)&&(!f||isA (iw P t x fin) v)
   |_=>true)&&lC P tr fin r
theorem md{P:Program}{tr:List Ent}{fin:Mem}:∀{l:List (Nat×List Nat×Bool)},lC P tr fin l=true→iz P tr fin l
 |[],h=>trivial
 |(p,es,f)::r,h=>by
  rw[lC,Bool.and_eq_true] at h
  rw[iz]
  refine⟨?_,md h.2⟩
  have h1:=h.1
  split
  ·rename_i t x v m0 he
   rw[he] at h1
   simp only[Bool.and_eq_true,List.all_eq_true] at h1
   refine⟨fun e hin en hen=> ?_,fun hf=> ?_⟩
   ·have:=h1.1 e hin
    rw[hen] at this
    exact Dp this
   ·have:=h1.2
    rw[hf] at this
    exact Dp (by simpa using this)
  ·trivial
def DV(n k:Nat)(a b:A):Bool:=match a,b with
 | .ptr _ _,.rptr _ _ _=>true
 | .rptr _ _ _,.ptr _ _=>true
 | .ptr i o,.ptr j q=> !decide (i=j)||decide (o+n≤q)||decide (q+k≤o)
 | .rptr i _ o,.rptr j _ q=> !decide (i=j)||decide (o+n≤q)||decide (q+k≤o)
 |_,_=>false
theorem DZ{n k:Nat}{a b:A}(h:DV n k a b=true):n8 n k a b:=by
 unfold DV at h
 split at h
 ·trivial
 ·trivial
 ·simp only[Bool.or_eq_true,Bool.not_eq_true',decide_eq_false_iff_not,decide_eq_true_eq,or_assoc] at h
  exact h
 ·simp only[Bool.or_eq_true,Bool.not_eq_true',decide_eq_false_iff_not,decide_eq_true_eq,or_assoc] at h
  exact h
 ·cases h
def pc(P:Program)(tr:List Ent)(tm:List (Nat×A))(l:List LateAnn):Bool:=l.all fun l=>DV (ao P l.t) (ao P l.u) (gr tr tm l.ka l.sa) (gr tr tm l.kb l.sb)
theorem nU{P:Program}{tr:List Ent}{tm:List (Nat×A)}:∀{l:List LateAnn},pc P tr tm l=true→iR P tr tm l
 |[],_=>trivial
 |l::r,h=>by
  unfold pc at h
  rw[List.all_cons,Bool.and_eq_true] at h
  exact⟨DZ h.1,nU (l:=r) h.2⟩
def oD(P:Program)(gl:Nat→A)(nt:Nat)(ok:Bool)(d:DrawAnn)(all:List Oper)(tr:List Ent)(k:Option (List Nat))(y:Option (A×Mem)×St):Option (Ex×St):=
 match y with
 |(none,s)=>if ok&&(lC P tr s.m d.need&&pc P tr s.tm d.late) then some (.normal,⟨prune k s.tm,s.m⟩) else none
 |(some (a,m),s)=>(dG P gl nt d all (tr.length-1) tr.length (all.drop tr.length) s).bind fun z=>
  if ok&&lC P (tr++z.1) z.2.m d.need then some (.pan a,⟨eH all s.tm,m⟩) else none
theorem yD{P:Program}{gl:Nat→A}{nt:Nat}{ok:Bool}{d:DrawAnn}{all:List Oper}{tr:List Ent}{k:Option (List Nat)}{y:Option (A×Mem)×St}{x:Ex×St}(h:oD P gl nt ok d all tr k y=some x):hS P gl nt ok d all tr k y=some x:=by
 obtain⟨po,s⟩:=y
 cases po with
 |none=>
  simp only[oD,hS] at h⊢
  split at h
  ·rename_i hc
   rw[Bool.and_eq_true,Bool.and_eq_true] at hc
   rw[if_pos ⟨hc.1,md hc.2.1,nU hc.2.2⟩]
   exact h
  ·cases h
 |some z=>
  obtain⟨a,m⟩:=z
  simp only[oD,hS] at h⊢
  obtain⟨z,h1,h2⟩:=Option.bind_eq_some_iff.1 h
  rw[h1]
  simp only[Option.bind_some]
  split at h2
  ·rename_i hc
   rw[Bool.and_eq_true] at hc
   rw[if_pos ⟨hc.1,md hc.2⟩]
   exact h2
  ·cases h2
structure EvR where
 call:FuncId→List A→Mem→Option (Res×Mem)
 rcv:FuncId→Nat→Code→St→Option (Ex×St)
 code:FuncId→Nat→Code→St→Option (Ex×St)
 ops:FuncId→Nat→List Oper→List Oper→St→Option (Ex×St)
 draw:FuncId→Nat→List Oper→List Oper→St→Option (List Ent×Option (A×Mem)×St)
def D1(C:Cfg)(r:EvR)(f:FuncId)(args:List A)(m:Mem):Option (Res×Mem):=
 match C.ext f with
 |some g=>g args m
 |none=>
  match C.P.funcs[f]? with
  |none=>none
  |some fn=>
   match fn.body with
   |none=>none
   |some c=>
    if fn.name= "runtime.NumGoroutine" ∨fn.ntmps<args.length then none else
    (if C.ann.recov f then r.rcv f fn.ntmps c ⟨bi 0 args,m⟩ else r.code f fn.ntmps c ⟨bi 0 args,m⟩)>>=fun x=>
     match x.1 with
     | .normal| .ret=>(bl C.P fn.results.toList x.2.tm x.2.m)>>=fun a=>lO C.P m (.ret a) x.2.m
     | .pan a=>lO C.P m (.pan a) x.2.m
     | .exit _=>none
def Lk(C:Cfg)(r:EvR)(f:FuncId)(nt:Nat)(c:Code)(s:St):Option (Ex×St):=
 match c with
 | .seq a b=>
   match iI a with
   |some d=>
    if d.1<nt then
     (r.code f nt b ⟨put (some d.1) (.fn d.2.1 (d.2.2.map (opd C.gl s.tm))) s.tm,s.m⟩)>>=fun x=>
      match iT x.1,d9 C.P d.2.1 with
      |some v,some rb=>
       if d.2.2.length≤rb.1 then
        (r.code d.2.1 rb.1 rb.2.2.2 ⟨put (some rb.2.2.1) v (put (some rb.2.1) v (bi 0 (d.2.2.map (opd C.gl s.tm)))),x.2.m⟩)>>=fun y=>
         match y.1 with
         | .normal| .ret=>some (.ret,⟨x.2.tm,y.2.m⟩)
         |_=>none
       else none
      |_,_=>none
    else none
   |none=>
    (r.code f nt a s)>>=fun x=>
     match x.1 with
     | .normal=>r.rcv f nt b x.2
     |e=>some (e,x.2)
 |c=>r.code f nt c s
def D8(C:Cfg)(r:EvR)(f:FuncId)(nt:Nat)(c:Code)(s:St):Option (Ex×St):=
 match c with
 | .skip=>some (.normal,s)
 | .region id ops draw=>
   if draw then
    (r.draw f nt ops.toList ops.toList s)>>=fun y=>
     oD C.P C.gl nt (C.ann.dok f id) (C.ann.draw f id) ops.toList y.1 (C.ann.reg f id) y.2
   else
   (r.ops f nt ops.toList ops.toList s)>>=fun x=>
    match x.1 with
    | .normal=>some (.normal,⟨prune (C.ann.reg f id) x.2.tm,x.2.m⟩)
    |e=>some (e,x.2)
 | .seq a b=>
   (r.code f nt a s)>>=fun x=>
    match x.1 with
    | .normal=>r.code f nt b x.2
    |e=>some (e,x.2)
 | .cond c a b=>
   match opd C.gl s.tm c with
   | .bool t=>if t then r.code f nt a s else r.code f nt b s
   |_=>none
 | .block id b=>
   (r.code f nt b s)>>=fun x=>
    match x.1 with
    | .exit i=>if i=id then some (.normal,x.2) else some (.exit i,x.2)
    |e=>some (e,x.2)
 | .loop b=>
   (r.code f nt b ⟨prune (C.ann.loop f (cu b)) s.tm,s.m⟩)>>=fun x=>
    match x.1 with
    | .normal=>(o6 (C.ann.loop f (cu b)) s.m x.2)>>=fun s1=>r.code f nt (.loop b) s1
    |e=>some (e,x.2)
 | .exit id=>some (.exit id,s)
 | .ret=>some (.ret,s)
 | .label _=>some (.normal,s)
 | .scope b=>r.code f nt b s
 |_=>none
def Lp(C:Cfg)(r:EvR)(f:FuncId)(nt:Nat)(all l:List Oper)(s:St):Option (Ex×St):=
 match l with
 |[]=>some (.normal,s)
 |o::rest=>
  match o.dst.all (· <nt),cW o all s.tm with
  |true,some true=>
   match o.op with
   | .panic x=>(li (opd C.gl s.tm x)).map fun a=>(.pan a,s)
   | .call {callee:= .value g,args,argTypes}=>
     match opd C.gl s.tm g with
     | .fn h caps=>
       (r.call h (args.toList.map (opd C.gl s.tm)++caps) s.m)>>=fun x=>
        match x.1 with
        | .ret a=>r.ops f nt all rest ⟨put o.dst a s.tm,x.2⟩
        | .pan a=>some (.pan a,⟨s.tm,x.2⟩)
     |_=>none
   | .convert t u x=>
     match pG C.P t u (opd C.gl s.tm x) s.m with
     |some a=>r.ops f nt all rest ⟨put o.dst a s.tm,s.m⟩
     |none=>(opA C.P (.convert t u x) (opd C.gl s.tm) s.m)>>=fun x=>r.ops f nt all rest ⟨put o.dst x.1 s.tm,x.2⟩
   |op=>(opA C.P op (opd C.gl s.tm) s.m)>>=fun x=>r.ops f nt all rest ⟨put o.dst x.1 s.tm,x.2⟩
  |true,some false=>r.ops f nt all rest ⟨put o.dst (.tup []) s.tm,s.m⟩
  |_,_=>none
def Kb(C:Cfg)(r:EvR)(f:FuncId)(nt:Nat)(all l:List Oper)(s:St):Option (List Ent×Option (A×Mem)×St):=
 match l with
 |[]=>some ([],none,s)
 |o::rest=>
  match o.dst.all (· <nt),cW o all s.tm with
  |true,some true=>
   match o.op with
   | .call {callee:= .value g,args,argTypes}=>
     match opd C.gl s.tm g with
     | .fn h caps=>
       (r.call h (args.toList.map (opd C.gl s.tm)++caps) s.m)>>=fun x=>
        match x.1 with
        | .ret a=>(r.draw f nt all rest ⟨put o.dst a s.tm,x.2⟩)>>=fun y=>some (⟨.eff,a,s.m⟩::y.1,y.2)
        | .pan a=>some ([⟨.eff,.undef,s.m⟩],some (a,x.2),⟨put o.dst .undef s.tm,s.m⟩)
     |_=>none
   |op=>(opA C.P op (opd C.gl s.tm) s.m)>>=fun x=>(r.draw f nt all rest ⟨put o.dst x.1 s.tm,x.2⟩)>>=fun y=>some (⟨qy op (opd C.gl s.tm),x.1,s.m⟩::y.1,y.2)
  |true,some false=>(r.draw f nt all rest ⟨put o.dst (.tup []) s.tm,s.m⟩)>>=fun y=>some (⟨qz o.op,.tup [],s.m⟩::y.1,y.2)
  |_,_=>none
def evR(C:Cfg):Nat→EvR
 |0=>⟨fun _ _ _=>none,fun _ _ _ _=>none,fun _ _ _ _=>none,fun _ _ _ _ _=>none,fun _ _ _ _ _=>none⟩
 |n+1=>⟨D1 C (evR C n),Lk C (evR C n),D8 C (evR C n),Lp C (evR C n),Kb C (evR C n)⟩
section
variable {C:Cfg}
structure RecsOk (C:Cfg) (r:EvR):Prop where
 call:∀f args m x,r.call f args m=some x→aV C f args m x
 rcv:∀f nt c s x,r.rcv f nt c s=some x→uz C f nt c s x
 code:∀f nt c s x,r.code f nt c s=some x→iP C f nt c s x
 ops:∀f nt all l s x,r.ops f nt all l s=some x→tp C f nt all l s x
 draw:∀f nt all l s x,r.draw f nt all l s=some x→iu C nt all l s x.1 x.2
theorem D9(hC:CfgOk C){r:EvR}(hr:RecsOk C r)(f:FuncId)(args:List A)(m:Mem)(x:Res×Mem)(h:D1 C r f args m=some x):aV C f args m x:=by
 refine nL hC hr.rcv hr.code (lv:=fun _=>lO C.P) (fun f m0 r m x h=>ut h) f args m x ?_
 unfold D1 at h
 cases hx:C.ext f with
 |some gx=>rw[hx] at h;exact h
 |none=>
 simp only[hx] at h⊢
 cases hf:C.P.funcs[f]? with
 |none=>simp only[hf] at h;cases h
 |some fn=>
 simp only[hf] at h⊢
 cases hb:fn.body with
 |none=>simp only[hb] at h;cases h
 |some c=>
 simp only[hb] at h⊢
 split at h
 ·cases h
 ·rename_i hn
  rw[if_neg hn]
  obtain⟨⟨e,s'⟩,h1,h2⟩:=Option.bind_eq_some_iff.1 h
  refine Option.bind_eq_some_iff.2 ⟨(e,s'),h1, ?_⟩
  cases e with
  |exit i=>cases h2
  |pan a=>exact h2
  |normal=>
   obtain⟨a,h3,h4⟩:=Option.bind_eq_some_iff.1 h2
   exact Option.bind_eq_some_iff.2 ⟨a,h3,h4⟩
  |ret=>
   obtain⟨a,h3,h4⟩:=Option.bind_eq_some_iff.1 h2
   exact Option.bind_eq_some_iff.2 ⟨a,h3,h4⟩
theorem Dx(hC:CfgOk C){r:EvR}(hr:RecsOk C r)(f:FuncId)(nt:Nat)(c:Code)(s:St)(x:Ex×St)(h:D8 C r f nt c s=some x):iP C f nt c s x:=by
 refine nC hC hr.code hr.ops hr.draw f nt c s x ?_
 unfold D8 at h
 cases c with
 |region id ops draw=>
  cases draw with
  |true=>
   simp only[if_true] at h⊢
   obtain⟨y,h1,h2⟩:=Option.bind_eq_some_iff.1 h
   exact Option.bind_eq_some_iff.2 ⟨y,h1,yD h2⟩
  |false=>exact h
 |loop b=>
  obtain⟨⟨e,s'⟩,h1,h2⟩:=Option.bind_eq_some_iff.1 h
  refine Option.bind_eq_some_iff.2 ⟨(e,s'),h1, ?_⟩
  cases e with
  |normal=>
   obtain⟨s1,h3,h4⟩:=Option.bind_eq_some_iff.1 h2
   exact Option.bind_eq_some_iff.2 ⟨s1,vP h3,h4⟩
  |exit i=>exact h2
  |ret=>exact h2
  |pan a=>exact h2
 |_=>exact h
theorem nA(hC:CfgOk C):∀n,RecsOk C (evR C n)
 |0=>⟨fun _ _ _ _ h=>(nomatch h),fun _ _ _ _ _ h=>(nomatch h),fun _ _ _ _ _ h=>(nomatch h),fun _ _ _ _ _ _ h=>(nomatch h),fun _ _ _ _ _ _ h=>(nomatch h)⟩
 |n+1=>
  have hr:=nA hC n
  ⟨D9 hC hr,fun f nt c s x h=>oU hC hr.rcv hr.code f nt c s x h,Dx hC hr,fun f nt all l s x h=>pt hr.call hr.ops f nt all l s x h,fun f nt all l s x h=>nq hr.call hr.draw f nt all l s x h⟩
end
def sx(x:Option (Res×Mem)):Bool:=match x with|some (.ret (.bool b),_)=>b|_=>false
theorem xK{x:Option (Res×Mem)}(h:sx x=true):∃m,x=some (.ret (.bool true),m):=by
 unfold sx at h
 split at h
 ·rename_i b m;exact⟨m,by rw[h]⟩
 ·cases h
end AE
end Go.Proofs.YtmfdpijmholedaaGreatDoor
/- What a call answers on an empty store it answers on any: with arguments, with whatever result that holds nothing of the store. -/
set_option linter.unusedVariables false
set_option linter.unusedSimpArgs false
set_option linter.unusedSectionVars false
namespace Go.Proofs.YtmfdpijmholedaaGreatDoor
namespace AE
open Go Go.RowKit
section
variable {w:World} {g g':Gh}
mutual
theorem VR.swap(hF:∀b o,g.F b o→g'.F b o):∀(a:A) (v:Value),closed 0 0 a=true→VR w g a v→VR w g' a v
 | .undef,_,_,_=>by rw[VR];trivial
 | .int _ _,_,_,k=>by rw[VR] at k⊢;exact k
 | .bool _,_,_,k=>by rw[VR] at k⊢;exact k
 | .str _,_,_,k=>by rw[VR] at k⊢;exact k
 | .nilp,_,_,k=>by rw[VR] at k⊢;exact k
 | .nili,_,_,k=>by rw[VR] at k⊢;exact k
 | .nilf,_,_,k=>by rw[VR] at k⊢;exact k
 | .yld _,_,_,k=>by rw[VR] at k⊢;exact k
 | .nils,_,_,k=>by rw[VR] at k⊢;exact k
 | .ifc t x,_,c,k=>by
   rw[VR] at k⊢
   obtain⟨u,e,k⟩:=k
   exact⟨u,e,VR.swap hF x u (by simpa [closed] using c) k⟩
 | .agg cs,_,c,k=>by
   rw[VR] at k⊢
   obtain⟨us,e,k⟩:=k
   exact⟨us,e,VRs.swap hF cs us (by simpa [closed] using c) k⟩
 | .tup cs,_,c,k=>by
   rw[VR] at k⊢
   obtain⟨us,e,k⟩:=k
   exact⟨us,e,VRs.swap hF cs us (by simpa [closed] using c) k⟩
 | .isl full n cs,_,c,k=>by
   rw[VR] at k⊢
   obtain⟨a,cc,us,e,k1,k2,k3,k4⟩:=k
   refine⟨a,cc,us,e,k1,k2,VRs.swap hF cs us (by simpa [closed] using c) k3,fun hn=> ?_⟩
   obtain⟨b,o,e,l⟩:=k4 hn
   exact⟨b,o,e,fun j u hj=>⟨hF _ _ (l j u hj).1,(l j u hj).2⟩⟩
 | .rp cs,_,c,k=>by
   rw[VR] at k⊢
   obtain⟨b,o,us,e,k1,k2⟩:=k
   exact⟨b,o,us,e,VRs.swap hF cs us (by simpa [closed] using c) k1,fun j u hj=>⟨hF _ _ (k2 j u hj).1,(k2 j u hj).2⟩⟩
 | .ptr id off,_,c,k=>by simp[closed] at c
 | .sl id ver off n,_,c,k=>by simp[closed] at c
 | .rptr id ver off,_,c,k=>by simp[closed] at c
 | .fn f cs,_,c,k=>by
   rw[VR] at k⊢
   obtain⟨us,e,k⟩:=k
   exact⟨us,e,VRs.swap hF cs us (by simpa [closed] using c) k⟩
theorem VRs.swap(hF:∀b o,g.F b o→g'.F b o):∀(cs:List A) (us:List Value),closed.closedL 0 0 cs=true→VRs w g cs us→VRs w g' cs us
 |[],_,_,k=>by rw[VRs] at k⊢;exact k
 |a::r,_,c,k=>by
  rw[closed.closedL,Bool.and_eq_true] at c
  rw[VRs] at k⊢
  obtain⟨u,t,e,k1,k2⟩:=k
  exact⟨u,t,e,VR.swap hF a u c.1 k1,VRs.swap hF r t c.2 k2⟩
end
end
section
variable {C:Cfg}
theorem eO(hgl:∀n,closed 0 0 (C.gl n)=true){f:FuncId}{args:List A}{a:A}{m1:Mem}(hargs:closed.closedL 0 0 args=true)(ha:closed 0 0 a=true)(h:aV C f args ⟨[],[]⟩ (.ret a,m1))(m:Mem):aV C f args m (.ret a,m):=by
 refine⟨h.1,fun w0 g w vals hs hv=> ?_⟩
 have hs0:SR C.P C.gl w {g with nb:=0,rl:=[]} ⟨[],[]⟩ w:={
  below:=Below.refl _ _
  nb:=rfl
  rl:=rfl
  es:=fun i r h=>by simp at h
  bx:=fun i r h=>by simp at h
  rw:=fun i r h=>by simp at h
  ownb:=fun i h=>by simp at h
  ownr:=fun i h=>by simp at h
  injb:=fun i j h=>by simp at h
  injr:=fun i j h=>by simp at h
  dis:=fun i j h=>by simp at h
  lim:=hs.lim
  gl:=fun n=>VR.swap (g:=g) (g':={g with nb:=0,rl:=[]}) (fun _ _ h=>h) _ _ (hgl n) (hs.gl n)
  dr:=fun _=>Nat.le_refl _
  tb:=fun hf=>(hs.tb hf).up hs.below}
 refine(h.2 w _ w vals hs0 (VRs.swap (g:=g) (g':={g with nb:=0,rl:=[]}) (fun _ _ h=>h) _ _ hargs hv)).mono fun e w' hR=> ?_
 obtain⟨g',hs',hx,hres⟩:=hR
 have hbel:=hs'.below
 have hno:∀b,b<w.heap.size→(∀o,¬g.F b o)→∀o,¬g'.F b o:=fun b hb hF=>(hx.fr b hb ⟨fun i hi=>absurd hi (Nat.not_lt_zero _),fun i hi=>by simp at hi,hF⟩).2.2.2
 have hcell:∀k o,k<w.heap.size→w'.cell? ⟨k,o,none⟩=w.cell? ⟨k,o,none⟩:=fun k o hk=>hbel.cell (p:=⟨k,o,none⟩) hk
 have hext:Ext w g w' {g with F:=fun b o=>g.F b o∨g'.F b o}:=⟨⟨fun k o hF=>⟨.inl hF,hcell k o (hs.lim k o hF)⟩,Nat.le_refl _,fun _ _=>rfl,fun i L h=>⟨L,h,Nat.le_refl _,fun _=>⟨rfl,rfl,rfl⟩,rfl⟩⟩,fun b hb hl=>⟨hbel.block b hb,hl.1,hl.2.1,fun o hF=>by
  rcases hF with hF|hF
  ·exact hl.2.2 o hF
  ·exact hno b hb hl.2.2 o hF⟩,hbel.size⟩
 refine⟨{g with F:=fun b o=>g.F b o∨g'.F b o}, ?_,hext, ?_⟩
 ·exact {
   below:=hs.below.trans (hbel.mono hs.szB)
   nb:=hs.nb
   rl:=hs.rl
   es:=hs.es
   bx:=fun i cs hi=>by
    obtain⟨us,t,h1,h2⟩:=hs.bx i cs hi
    refine⟨us,t, ?_,h2.mono hext⟩
    rw[hbel.block _ (Array.getElem?_eq_some_iff.1 h1).1]
    exact h1
   rw:=fun i r hi=>by
    obtain⟨us,ss,rest,h1,h2,h3,h4⟩:=hs.rw i r hi
    refine⟨us,ss,rest, ?_,h2,h3,h4.mono hext⟩
    rw[hbel.block _ (Array.getElem?_eq_some_iff.1 h1).1]
    exact h1
   ownb:=fun i hi=>⟨(hs.ownb i hi).1,fun o hF=>by
    rcases hF with hF|hF
    ·exact(hs.ownb i hi).2 o hF
    ·exact hno _ (hs.bb_lt hi) (hs.ownb i hi).2 o hF⟩
   ownr:=fun i hi=>⟨(hs.ownr i hi).1,fun o hF=>by
    rcases hF with hF|hF
    ·exact(hs.ownr i hi).2 o hF
    ·exact hno _ (hs.br_lt hi) (hs.ownr i hi).2 o hF⟩
   injb:=hs.injb
   injr:=hs.injr
   dis:=hs.dis
   lim:=fun b o hF=>by
    rcases hF with hF|hF
    ·exact Nat.lt_of_lt_of_le (hs.lim b o hF) hbel.size
    ·exact hs'.lim b o hF
   gl:=fun n=>(hs.gl n).mono hext
   dr:=fun hf=>Nat.le_trans (hs.dr hf) (hs'.dr hf)
   tb:=hs.tb}
 ·cases e with
  |returned v=>exact VR.swap (g:=g') (fun _ _ h=>Or.inr h) _ _ ha hres
  |panicked ch=>exact hres.elim
  |outgrown=>exact hres.elim
end
end AE
end Go.Proofs.YtmfdpijmholedaaGreatDoor
/- The shelf's contracts for strconv.Atoi and slices.SortFunc at this dump: their numbers. Printed by lay-plain.mjs. -/
namespace Go.Proofs
open Go.Shelf
def Tryz.laysC172_ren:Go.Shelf.Ren:=⟨fun|172=>182|244=>208|245=>209|247=>226|279=>227|280=>228|281=>229|282=>230|287=>236|316=>237|171=>49|205=>238|321=>240|322=>241|243=>95|246=>136|283=>171|284=>172|285=>173|286=>174|129=>196|317=>195|318=>197|319=>198|320=>199|337=>220|338=>221|n=>n,fun|9=>9|3=>3|75=>80|76=>81|4=>4|5=>5|167=>249|37=>40|0=>0|85=>250|2=>2|168=>252|53=>204|175=>262|46=>222|210=>265|127=>126|145=>272|143=>270|21=>21|171=>203|173=>207|212=>225|51=>226|20=>20|213=>227|232=>260|233=>261|80=>86|n=>n,fun|15=>7|16=>8|17=>1|18=>5|19=>6|n=>n⟩
theorem Tryz.laysC172:Go.Proofs.LaysC.n172 Tryz.prog Tryz.laysC172_ren:={
 mixed:=by kernel_rfl
 f129:=Tryz.func196.trans (congrArg some (by kernel_rfl))
 f171:=Tryz.func49.trans (congrArg some (by kernel_rfl))
 f172:=Tryz.func182.trans (congrArg some (by kernel_rfl))
 f205:=Tryz.func238.trans (congrArg some (by kernel_rfl))
 f243:=Tryz.func95.trans (congrArg some (by kernel_rfl))
 f244:=Tryz.func208.trans (congrArg some (by kernel_rfl))
 f245:=Tryz.func209.trans (congrArg some (by kernel_rfl))
 f246:=Tryz.func136.trans (congrArg some (by kernel_rfl))
 f247:=Tryz.func226.trans (congrArg some (by kernel_rfl))
 f279:=Tryz.func227.trans (congrArg some (by kernel_rfl))
 f280:=Tryz.func228.trans (congrArg some (by kernel_rfl))
 f281:=Tryz.func229.trans (congrArg some (by kernel_rfl))
 f282:=Tryz.func230.trans (congrArg some (by kernel_rfl))
 f283:=Tryz.func171.trans (congrArg some (by kernel_rfl))
 f284:=Tryz.func172.trans (congrArg some (by kernel_rfl))
 f285:=Tryz.func173.trans (congrArg some (by kernel_rfl))
 f286:=Tryz.func174.trans (congrArg some (by kernel_rfl))
 f287:=Tryz.func236.trans (congrArg some (by kernel_rfl))
 f316:=Tryz.func237.trans (congrArg some (by kernel_rfl))
 f317:=Tryz.func195.trans (congrArg some (by kernel_rfl))
 f318:=Tryz.func197.trans (congrArg some (by kernel_rfl))
 f319:=Tryz.func198.trans (congrArg some (by kernel_rfl))
 f320:=Tryz.func199.trans (congrArg some (by kernel_rfl))
 f321:=Tryz.func240.trans (congrArg some (by kernel_rfl))
 f322:=Tryz.func241.trans (congrArg some (by kernel_rfl))
 f337:=Tryz.func220.trans (congrArg some (by kernel_rfl))
 f338:=Tryz.func221.trans (congrArg some (by kernel_rfl))
 t0:=Tryz.underlying0
 a0:=Tryz.isAgg0
 z0:=Tryz.sizeOf0
 v0:=Tryz.zeroValue0
 t2:=Tryz.underlying2
 a2:=Tryz.isAgg2
 z2:=Tryz.sizeOf2
 v2:=Tryz.zeroValue2
 t3:=Tryz.underlying3
 a3:=Tryz.isAgg3
 z3:=Tryz.sizeOf3
 v3:=Tryz.zeroValue3
 t4:=Tryz.underlying4
 a4:=Tryz.isAgg4
 z4:=Tryz.sizeOf4
 v4:=Tryz.zeroValue4
 t5:=Tryz.underlying5
 a5:=Tryz.isAgg5
 z5:=Tryz.sizeOf5
 v5:=Tryz.zeroValue5
 t9:=Tryz.underlying9
 a9:=Tryz.isAgg9
 z9:=Tryz.sizeOf9
 v9:=Tryz.zeroValue9
 t20:=Tryz.underlying20
 a20:=Tryz.isAgg20
 z20:=Tryz.sizeOf20
 v20:=Tryz.zeroValue20
 t21:=Tryz.underlying21
 a21:=Tryz.isAgg21
 z21:=Tryz.sizeOf21
 v21:=Tryz.zeroValue21
 t37:=Tryz.underlying40
 a37:=Tryz.isAgg40
 z37:=Tryz.sizeOf40
 v37:=Tryz.zeroValue40
 t46:=Tryz.underlying222
 a46:=Tryz.isAgg222
 z46:=Tryz.sizeOf222
 v46:=Tryz.zeroValue222
 t51:=Tryz.underlying226
 a51:=Tryz.isAgg226
 z51:=Tryz.sizeOf226
 v51:=Tryz.zeroValue226
 t53:=Tryz.underlying204
 a53:=Tryz.isAgg204
 z53:=Tryz.sizeOf204
 v53:=Tryz.zeroValue204
 t75:=Tryz.underlying80
 a75:=Tryz.isAgg80
 z75:=Tryz.sizeOf80
 v75:=Tryz.zeroValue80
 t76:=Tryz.underlying81
 a76:=Tryz.isAgg81
 z76:=Tryz.sizeOf81
 v76:=Tryz.zeroValue81
 t85:=Tryz.underlying250
 a85:=Tryz.isAgg250
 z85:=Tryz.sizeOf250
 v85:=Tryz.zeroValue250
 t127:=Tryz.underlying126
 a127:=Tryz.isAgg126
 z127:=Tryz.sizeOf126
 v127:=Tryz.zeroValue126
 t143:=Tryz.underlying270
 a143:=Tryz.isAgg270
 z143:=Tryz.sizeOf270
 v143:=Tryz.zeroValue270
 t145:=Tryz.underlying272
 a145:=Tryz.isAgg272
 z145:=Tryz.sizeOf272
 v145:=Tryz.zeroValue272
 t167:=Tryz.underlying249
 a167:=Tryz.isAgg249
 z167:=Tryz.sizeOf249
 v167:=Tryz.zeroValue249
 t168:=Tryz.underlying252
 a168:=Tryz.isAgg252
 z168:=Tryz.sizeOf252
 v168:=Tryz.zeroValue252
 t171:=Tryz.underlying203
 a171:=Tryz.isAgg203
 z171:=Tryz.sizeOf203
 v171:=Tryz.zeroValue203
 t173:=Tryz.underlying207
 a173:=Tryz.isAgg207
 z173:=Tryz.sizeOf207
 v173:=Tryz.zeroValue207
 t175:=Tryz.underlying262
 a175:=Tryz.isAgg262
 z175:=Tryz.sizeOf262
 v175:=Tryz.zeroValue262
 t210:=Tryz.underlying265
 a210:=Tryz.isAgg265
 z210:=Tryz.sizeOf265
 v210:=Tryz.zeroValue265
 t212:=Tryz.underlying225
 a212:=Tryz.isAgg225
 z212:=Tryz.sizeOf225
 v212:=Tryz.zeroValue225
 t213:=Tryz.underlying227
 a213:=Tryz.isAgg227
 z213:=Tryz.sizeOf227
 t232:=Tryz.underlying260
 a232:=Tryz.isAgg260
 z232:=Tryz.sizeOf260
 v232:=Tryz.zeroValue260
 t233:=Tryz.underlying261
 a233:=Tryz.isAgg261
 z233:=Tryz.sizeOf261
 v233:=Tryz.zeroValue261
 g15:=by kernel_rfl
 g16:=by kernel_rfl
 g17:=by kernel_rfl
 g18:=by kernel_rfl
 g19:=by kernel_rfl
 t80:=Tryz.underlying86
 a80:=Tryz.isAgg86
 z80:=Tryz.sizeOf86
 v80:=Tryz.zeroValue86
 i0:=by kernel_rfl
 i2:=by kernel_rfl
 i3:=by kernel_rfl
 i4:=by kernel_rfl
 i5:=by kernel_rfl
 i9:=by kernel_rfl
 i20:=by kernel_rfl
 i21:=by kernel_rfl
 i37:=by kernel_rfl
 i46:=by kernel_rfl
 i51:=by kernel_rfl
 i53:=by kernel_rfl
 i75:=by kernel_rfl
 i76:=by kernel_rfl
 i80:=by kernel_rfl
 i85:=by kernel_rfl
 i127:=by kernel_rfl
 i143:=by kernel_rfl
 i145:=by kernel_rfl
 i167:=by kernel_rfl
 i168:=by kernel_rfl
 i171:=by kernel_rfl
 i173:=by kernel_rfl
 i175:=by kernel_rfl
 i210:=by kernel_rfl
 i212:=by kernel_rfl
 i232:=by kernel_rfl
 i233:=by kernel_rfl
 m15:=by kernel_rfl
 m16:=by kernel_rfl
 m17:=by kernel_rfl
 m18:=by kernel_rfl
 m19:=by kernel_rfl
 c0:=by kernel_rfl
 c2:=by kernel_rfl
 c3:=by kernel_rfl
 c4:=by kernel_rfl
 c5:=by kernel_rfl
 c9:=by kernel_rfl
 c20:=by kernel_rfl
 c21:=by kernel_rfl
 c37:=by kernel_rfl
 c46:=by kernel_rfl
 c51:=by kernel_rfl
 c53:=by kernel_rfl
 c75:=by kernel_rfl
 c76:=by kernel_rfl
 c80:=by kernel_rfl
 c85:=by kernel_rfl
 c127:=by kernel_rfl
 c143:=by kernel_rfl
 c145:=by kernel_rfl
 c167:=by kernel_rfl
 c168:=by kernel_rfl
 c171:=by kernel_rfl
 c173:=by kernel_rfl
 c175:=by kernel_rfl
 c210:=by kernel_rfl
 c212:=by kernel_rfl
 c213:=by kernel_rfl
 c232:=by kernel_rfl
 c233:=by kernel_rfl}
def Tryz.laysSortF_ren:Go.Shelf.Ren:=⟨fun|6=>167|15=>193|14=>192|28=>219|29=>196|20=>211|21=>212|22=>213|23=>214|24=>215|25=>216|26=>217|27=>218|46=>231|47=>232|48=>233|49=>234|50=>235|57=>239|n=>n,fun|22=>194|24=>196|25=>198|3=>3|39=>222|0=>0|53=>226|55=>204|4=>4|46=>235|45=>234|50=>239|5=>5|9=>9|66=>255|70=>166|76=>267|77=>152|n=>n,fun|n=>n⟩
theorem Tryz.laysSortF:Go.Proofs.SlLaysF0.n6 Tryz.prog Tryz.laysSortF_ren:={
 mixed:=by kernel_rfl
 f6:=⟨Tryz.f167.name,by decide,Tryz.func167.trans (congrArg some (by kernel_rfl))⟩
 f14:=⟨Tryz.f192.name,by decide,Tryz.func192.trans (congrArg some (by kernel_rfl))⟩
 f15:=Tryz.func193.trans (congrArg some (by kernel_rfl))
 f20:=⟨Tryz.f211.name,by decide,Tryz.func211.trans (congrArg some (by kernel_rfl))⟩
 f21:=⟨Tryz.f212.name,by decide,Tryz.func212.trans (congrArg some (by kernel_rfl))⟩
 f22:=⟨Tryz.f213.name,by decide,Tryz.func213.trans (congrArg some (by kernel_rfl))⟩
 f23:=⟨Tryz.f214.name,by decide,Tryz.func214.trans (congrArg some (by kernel_rfl))⟩
 f24:=⟨Tryz.f215.name,by decide,Tryz.func215.trans (congrArg some (by kernel_rfl))⟩
 f25:=⟨Tryz.f216.name,by decide,Tryz.func216.trans (congrArg some (by kernel_rfl))⟩
 f26:=⟨Tryz.f217.name,by decide,Tryz.func217.trans (congrArg some (by kernel_rfl))⟩
 f27:=⟨Tryz.f218.name,by decide,Tryz.func218.trans (congrArg some (by kernel_rfl))⟩
 f28:=Tryz.func219.trans (congrArg some (by kernel_rfl))
 f29:=Tryz.func196.trans (congrArg some (by kernel_rfl))
 f46:=⟨Tryz.f231.name,by decide,Tryz.func231.trans (congrArg some (by kernel_rfl))⟩
 f47:=Tryz.func232.trans (congrArg some (by kernel_rfl))
 f48:=Tryz.func233.trans (congrArg some (by kernel_rfl))
 f49:=⟨Tryz.f234.name,by decide,Tryz.func234.trans (congrArg some (by kernel_rfl))⟩
 f50:=⟨Tryz.f235.name,by decide,Tryz.func235.trans (congrArg some (by kernel_rfl))⟩
 f57:=⟨Tryz.f239.name,by decide,Tryz.func239.trans (congrArg some (by kernel_rfl))⟩
 t0:=Tryz.underlying0
 a0:=Tryz.isAgg0
 z0:=Tryz.sizeOf0
 v0:=Tryz.zeroValue0
 t3:=Tryz.underlying3
 a3:=Tryz.isAgg3
 z3:=Tryz.sizeOf3
 v3:=Tryz.zeroValue3
 t4:=Tryz.underlying4
 a4:=Tryz.isAgg4
 z4:=Tryz.sizeOf4
 v4:=Tryz.zeroValue4
 t5:=Tryz.underlying5
 a5:=Tryz.isAgg5
 z5:=Tryz.sizeOf5
 v5:=Tryz.zeroValue5
 t9:=Tryz.underlying9
 a9:=Tryz.isAgg9
 z9:=Tryz.sizeOf9
 v9:=Tryz.zeroValue9
 t22:=Tryz.underlying194
 a22:=Tryz.isAgg194
 z22:=Tryz.sizeOf194
 v22:=Tryz.zeroValue194
 t25:=Tryz.underlying198
 a25:=Tryz.isAgg198
 z25:=Tryz.sizeOf198
 v25:=Tryz.zeroValue198
 t39:=Tryz.underlying222
 a39:=Tryz.isAgg222
 z39:=Tryz.sizeOf222
 v39:=Tryz.zeroValue222
 t45:=Tryz.underlying234
 a45:=Tryz.isAgg234
 z45:=Tryz.sizeOf234
 v45:=Tryz.zeroValue234
 t46:=Tryz.underlying235
 a46:=Tryz.isAgg235
 z46:=Tryz.sizeOf235
 v46:=Tryz.zeroValue235
 t50:=Tryz.underlying239
 a50:=Tryz.isAgg239
 z50:=Tryz.sizeOf239
 v50:=Tryz.zeroValue239
 t53:=Tryz.underlying226
 a53:=Tryz.isAgg226
 z53:=Tryz.sizeOf226
 v53:=Tryz.zeroValue226
 t55:=Tryz.underlying204
 a55:=Tryz.isAgg204
 z55:=Tryz.sizeOf204
 v55:=Tryz.zeroValue204
 t66:=Tryz.underlying255
 a66:=Tryz.isAgg255
 z66:=Tryz.sizeOf255
 v66:=Tryz.zeroValue255
 t70:=Tryz.underlying166
 a70:=Tryz.isAgg166
 z70:=Tryz.sizeOf166
 v70:=Tryz.zeroValue166
 t76:=Tryz.underlying267
 a76:=Tryz.isAgg267
 z76:=Tryz.sizeOf267
 v76:=Tryz.zeroValue267
 t77:=Tryz.underlying152
 a77:=Tryz.isAgg152
 z77:=Tryz.sizeOf152
 v77:=Tryz.zeroValue152}
end Go.Proofs
/- The shelf's contract for strconv.Itoa at this dump: its numbers. Printed by lay-plain.mjs. -/
namespace Go.Proofs
open Go.Shelf
def Tryz.laysM171_ren:Go.Shelf.Ren:=⟨fun|171=>49|243=>95|246=>136|283=>171|284=>172|285=>173|286=>174|129=>196|317=>195|318=>197|319=>198|320=>199|337=>220|338=>221|n=>n,fun|3=>3|9=>9|2=>2|4=>4|171=>203|0=>0|53=>204|37=>40|5=>5|173=>207|212=>225|51=>226|20=>20|213=>227|46=>222|232=>260|233=>261|n=>n,fun|17=>1|18=>5|19=>6|n=>n⟩
theorem Tryz.laysM171:Go.Proofs.LaysM.n171 Tryz.prog Tryz.laysM171_ren:={
 mixed:=by kernel_rfl
 f129:=Tryz.func196.trans (congrArg some (by kernel_rfl))
 f171:=Tryz.func49.trans (congrArg some (by kernel_rfl))
 f243:=Tryz.func95.trans (congrArg some (by kernel_rfl))
 f246:=Tryz.func136.trans (congrArg some (by kernel_rfl))
 f283:=Tryz.func171.trans (congrArg some (by kernel_rfl))
 f284:=Tryz.func172.trans (congrArg some (by kernel_rfl))
 f285:=Tryz.func173.trans (congrArg some (by kernel_rfl))
 f286:=Tryz.func174.trans (congrArg some (by kernel_rfl))
 f317:=Tryz.func195.trans (congrArg some (by kernel_rfl))
 f318:=Tryz.func197.trans (congrArg some (by kernel_rfl))
 f319:=Tryz.func198.trans (congrArg some (by kernel_rfl))
 f320:=Tryz.func199.trans (congrArg some (by kernel_rfl))
 f337:=Tryz.func220.trans (congrArg some (by kernel_rfl))
 f338:=Tryz.func221.trans (congrArg some (by kernel_rfl))
 t0:=Tryz.underlying0
 a0:=Tryz.isAgg0
 z0:=Tryz.sizeOf0
 v0:=Tryz.zeroValue0
 t2:=Tryz.underlying2
 a2:=Tryz.isAgg2
 z2:=Tryz.sizeOf2
 v2:=Tryz.zeroValue2
 t3:=Tryz.underlying3
 a3:=Tryz.isAgg3
 z3:=Tryz.sizeOf3
 v3:=Tryz.zeroValue3
 t4:=Tryz.underlying4
 a4:=Tryz.isAgg4
 z4:=Tryz.sizeOf4
 v4:=Tryz.zeroValue4
 t5:=Tryz.underlying5
 a5:=Tryz.isAgg5
 z5:=Tryz.sizeOf5
 v5:=Tryz.zeroValue5
 t9:=Tryz.underlying9
 a9:=Tryz.isAgg9
 z9:=Tryz.sizeOf9
 v9:=Tryz.zeroValue9
 t20:=Tryz.underlying20
 a20:=Tryz.isAgg20
 z20:=Tryz.sizeOf20
 v20:=Tryz.zeroValue20
 t37:=Tryz.underlying40
 a37:=Tryz.isAgg40
 z37:=Tryz.sizeOf40
 v37:=Tryz.zeroValue40
 t46:=Tryz.underlying222
 a46:=Tryz.isAgg222
 z46:=Tryz.sizeOf222
 v46:=Tryz.zeroValue222
 t51:=Tryz.underlying226
 a51:=Tryz.isAgg226
 z51:=Tryz.sizeOf226
 v51:=Tryz.zeroValue226
 t53:=Tryz.underlying204
 a53:=Tryz.isAgg204
 z53:=Tryz.sizeOf204
 v53:=Tryz.zeroValue204
 t171:=Tryz.underlying203
 a171:=Tryz.isAgg203
 z171:=Tryz.sizeOf203
 v171:=Tryz.zeroValue203
 t173:=Tryz.underlying207
 a173:=Tryz.isAgg207
 z173:=Tryz.sizeOf207
 v173:=Tryz.zeroValue207
 t212:=Tryz.underlying225
 a212:=Tryz.isAgg225
 z212:=Tryz.sizeOf225
 v212:=Tryz.zeroValue225
 t213:=Tryz.underlying227
 a213:=Tryz.isAgg227
 z213:=Tryz.sizeOf227
 t232:=Tryz.underlying260
 a232:=Tryz.isAgg260
 z232:=Tryz.sizeOf260
 v232:=Tryz.zeroValue260
 t233:=Tryz.underlying261
 a233:=Tryz.isAgg261
 z233:=Tryz.sizeOf261
 v233:=Tryz.zeroValue261
 g17:=by kernel_rfl
 g18:=by kernel_rfl
 g19:=by kernel_rfl
 i0:=by kernel_rfl
 i2:=by kernel_rfl
 i3:=by kernel_rfl
 i4:=by kernel_rfl
 i5:=by kernel_rfl
 i9:=by kernel_rfl
 i20:=by kernel_rfl
 i37:=by kernel_rfl
 i46:=by kernel_rfl
 i51:=by kernel_rfl
 i53:=by kernel_rfl
 i171:=by kernel_rfl
 i173:=by kernel_rfl
 i212:=by kernel_rfl
 i232:=by kernel_rfl
 i233:=by kernel_rfl
 m17:=by kernel_rfl
 m18:=by kernel_rfl
 m19:=by kernel_rfl}
end Go.Proofs
/- The evaluator is monotone in what it is told of calls. -/
set_option linter.unusedVariables false
set_option linter.unusedSimpArgs false
namespace Go.Proofs.YtmfdpijmholedaaGreatDoor
namespace AE
open Go
structure ExtLe (C D:Cfg):Prop where
 none:∀f,C.ext f=none→D.ext f=none
 some:∀f g,C.ext f=some g→∀args m r,g args m=some r→ai D f args m=some r
set_option maxHeartbeats 1000000 in
theorem qg(C D:Cfg)(hP:D.P=C.P)(hg:D.gl=C.gl)(ha:D.ann=C.ann)(hE:ExtLe C D):
  (∀f args m r,ai C f args m=some r→ai D f args m=some r)∧(∀f nt c s x,ak C f nt c s=some x→ak D f nt c s=some x):=by
 have h:=ai.mutual_partial_correctness C (fun f args m r=>ai D f args m=some r) (fun f nt c s x=>ak D f nt c s=some x) (fun f nt all l s x=>dD D f nt all l s=some x) (fun f nt all l s x=>dw D f nt all l s=some x) (fun f nt c s x=>lf D f nt c s=some x)
  ?_ ?_ ?_ ?_ ?_
 exact⟨h.1,h.2.1⟩
 ·intro evK evR hk hr f args m r h
  cases he:C.ext f with
  |some g=>
   simp only[he] at h
   exact hE.some f g he _ _ _ h
  |none=>
   rw[ai]
   simp only[he] at h
   simp only[hE.none f he,hP,ha]
   cases hf:C.P.funcs[f]? with
   |none=>simp[hf] at h
   |some fn=>
    simp only[hf] at h⊢
    cases hb:fn.body with
    |none=>simp[hb] at h
    |some c=>
     simp only[hb] at h⊢
     by_cases hn:fn.name= "runtime.NumGoroutine" ∨fn.ntmps<args.length
     ·rw[if_pos hn] at h;cases h
     ·rw[if_neg hn] at h
      rw[if_neg hn]
      obtain⟨⟨e,s1⟩,h1,h2⟩:=Option.bind_eq_some_iff.1 h
      have h3:(if C.ann.recov f=true then lf D f fn.ntmps c ⟨bi 0 args,m⟩ else ak D f fn.ntmps c ⟨bi 0 args,m⟩)=some (e,s1):=by
       by_cases h4:C.ann.recov f=true
       ·rw[if_pos h4] at h1⊢;exact hr _ _ _ _ _ h1
       ·rw[if_neg h4] at h1⊢;exact hk _ _ _ _ _ h1
      rw[h3]
      cases e<;>simpa only [Option.bind_eq_bind,Option.bind_some,jE,hP,ha] using h2
 ·intro evK evO evD hk hoo hdd f nt c s x h
  cases c<;>simp only[reduceCtorEq] at h
  all_goals rw[ak]
  case region id ops draw=>
   cases draw with
   |true=>
    simp only[if_true] at h⊢
    obtain⟨y,h1,h2⟩:=Option.bind_eq_some_iff.1 h
    simp only[hdd _ _ _ _ _ _ h1,Option.bind_eq_bind,Option.bind_some,hP,hg,ha]
    exact h2
   |false=>
    simp only[Bool.false_eq_true,if_false] at h⊢
    obtain⟨⟨e,s1⟩,h1,h2⟩:=Option.bind_eq_some_iff.1 h
    simp only[hoo _ _ _ _ _ _ h1,Option.bind_eq_bind,Option.bind_some,ha]
    cases e<;>exact h2
  case seq a b=>
   obtain⟨⟨e,s1⟩,h1,h2⟩:=Option.bind_eq_some_iff.1 h
   simp only[hk _ _ _ _ _ h1,Option.bind_eq_bind,Option.bind_some]
   cases e<;>first|exact hk _ _ _ _ _ h2|exact h2
  case cond c a b=>
   rw[hg]
   cases ho:opd C.gl s.tm c<;>simp only[ho,reduceCtorEq] at h⊢
   rename_i t
   cases t
   ·simp only[Bool.false_eq_true,if_false] at h⊢;exact hk _ _ _ _ _ h
   ·simp only[if_true] at h⊢;exact hk _ _ _ _ _ h
  case block id b=>
   obtain⟨⟨e,s1⟩,h1,h2⟩:=Option.bind_eq_some_iff.1 h
   simp only[hk _ _ _ _ _ h1,Option.bind_eq_bind,Option.bind_some]
   cases e<;>exact h2
  case loop b=>
   obtain⟨⟨e,s1⟩,h1,h2⟩:=Option.bind_eq_some_iff.1 h
   rw[ha]
   simp only[hk _ _ _ _ _ h1,Option.bind_eq_bind,Option.bind_some]
   cases e
   case normal=>
    obtain⟨s2,h3,h4⟩:=Option.bind_eq_some_iff.1 h2
    simp only[h3,Option.bind_some]
    exact hk _ _ _ _ _ h4
   all_goals exact h2
  case scope b=>exact hk _ _ _ _ _ h
  all_goals exact h
 ·intro evC evO hc hoo f nt all l s x h
  cases l with
  |nil=>rw[dD];exact h
  |cons o rest=>
   rw[dD]
   simp only[hP,hg] at h⊢
   cases hd:o.dst.all (· <nt) with
   |false=>simp only[hd,reduceCtorEq] at h
   |true=>
    simp only[hd] at h⊢
    cases hw:cW o all s.tm with
    |none=>simp only[hw,reduceCtorEq] at h
    |some wb=>
     cases wb with
     |false=>
      simp only[hw] at h⊢
      exact hoo _ _ _ _ _ _ h
     |true=>
      simp only[hw] at h⊢
      cases hop:o.op
      case panic y=>simp only[hop] at h⊢;exact h
      case call c=>
       obtain⟨cal,args,tys⟩:=c
       cases cal with
       |value g=>
        simp only[hop] at h⊢
        cases hq:opd C.gl s.tm g<;>simp only[hq,reduceCtorEq] at h⊢
        obtain⟨⟨e,m1⟩,h1,h2⟩:=Option.bind_eq_some_iff.1 h
        simp only[hc _ _ _ _ h1,Option.bind_eq_bind,Option.bind_some]
        cases e<;>first|exact hoo _ _ _ _ _ _ h2|exact h2
       |_=>
        simp only[hop] at h⊢
        obtain⟨y,h1,h2⟩:=Option.bind_eq_some_iff.1 h
        simp only[h1,Option.bind_eq_bind,Option.bind_some]
        exact hoo _ _ _ _ _ _ h2
      case convert t u y=>
       simp only[hop] at h⊢
       cases hs:pG C.P t u (opd C.gl s.tm y) s.m with
       |some a=>simp only[hs] at h⊢;exact hoo _ _ _ _ _ _ h
       |none=>
        simp only[hs] at h⊢
        obtain⟨y,h1,h2⟩:=Option.bind_eq_some_iff.1 h
        simp only[h1,Option.bind_eq_bind,Option.bind_some]
        exact hoo _ _ _ _ _ _ h2
      all_goals
       simp only[hop] at h⊢
       obtain⟨y,h1,h2⟩:=Option.bind_eq_some_iff.1 h
       simp only[h1,Option.bind_eq_bind,Option.bind_some]
       exact hoo _ _ _ _ _ _ h2
 ·intro evC evD hc hdd f nt all l s x h
  cases l with
  |nil=>rw[dw];exact h
  |cons o rest=>
   rw[dw]
   simp only[hP,hg] at h⊢
   cases hd:o.dst.all (· <nt) with
   |false=>simp only[hd,reduceCtorEq] at h
   |true=>
    simp only[hd] at h⊢
    cases hw:cW o all s.tm with
    |none=>simp only[hw,reduceCtorEq] at h
    |some wb=>
     cases wb with
     |false=>
      simp only[hw] at h⊢
      obtain⟨y,h1,h2⟩:=Option.bind_eq_some_iff.1 h
      simp only[hdd _ _ _ _ _ _ h1,Option.bind_eq_bind,Option.bind_some]
      exact h2
     |true=>
      simp only[hw] at h⊢
      cases hop:o.op
      case call c=>
       obtain⟨cal,args,tys⟩:=c
       cases cal with
       |value g=>
        simp only[hop] at h⊢
        cases hq:opd C.gl s.tm g<;>simp only[hq,reduceCtorEq] at h⊢
        obtain⟨⟨e,m1⟩,h1,h2⟩:=Option.bind_eq_some_iff.1 h
        simp only[hc _ _ _ _ h1,Option.bind_eq_bind,Option.bind_some]
        cases e
        ·obtain⟨y,h3,h4⟩:=Option.bind_eq_some_iff.1 h2
         simp only[hdd _ _ _ _ _ _ h3,Option.bind_some]
         exact h4
        ·exact h2
       |_=>
        simp only[hop] at h⊢
        obtain⟨y,h1,h2⟩:=Option.bind_eq_some_iff.1 h
        simp only[h1,Option.bind_eq_bind,Option.bind_some]
        obtain⟨z,h3,h4⟩:=Option.bind_eq_some_iff.1 h2
        simp only[hdd _ _ _ _ _ _ h3,Option.bind_some]
        exact h4
      all_goals
       simp only[hop] at h⊢
       obtain⟨y,h1,h2⟩:=Option.bind_eq_some_iff.1 h
       simp only[h1,Option.bind_eq_bind,Option.bind_some]
       obtain⟨z,h3,h4⟩:=Option.bind_eq_some_iff.1 h2
       simp only[hdd _ _ _ _ _ _ h3,Option.bind_some]
       exact h4
 ·intro evK evR hk hr f nt c s x h
  cases c
  case seq a b=>
   rw[lf]
   simp only[hP,hg] at h⊢
   cases hd:iI a with
   |some d=>
    simp only[hd] at h⊢
    by_cases hn:d.1<nt
    ·rw[if_pos hn] at h⊢
     obtain⟨y,h1,h2⟩:=Option.bind_eq_some_iff.1 h
     simp only[hk _ _ _ _ _ h1,Option.bind_eq_bind,Option.bind_some]
     cases he:iT y.1 with
     |none=>simp only[he,reduceCtorEq] at h2
     |some v=>
      cases hb:d9 C.P d.2.1 with
      |none=>simp only[he,hb,reduceCtorEq] at h2
      |some r=>
       simp only[he,hb] at h2⊢
       by_cases hl:d.2.2.length≤r.1
       ·rw[if_pos hl] at h2⊢
        obtain⟨⟨e,z⟩,h3,h4⟩:=Option.bind_eq_some_iff.1 h2
        simp only[hk _ _ _ _ _ h3,Option.bind_some]
        cases e<;>exact h4
       ·rw[if_neg hl] at h2;cases h2
    ·rw[if_neg hn] at h;cases h
   |none=>
    simp only[hd] at h⊢
    obtain⟨⟨e,y⟩,h1,h2⟩:=Option.bind_eq_some_iff.1 h
    simp only[hk _ _ _ _ _ h1,Option.bind_eq_bind,Option.bind_some]
    cases e<;>first|exact hr _ _ _ _ _ h2|exact h2
  all_goals (rw[lf]<;>first|exact hk _ _ _ _ _ h|(intro a b e;cases e))
end AE
end Go.Proofs.YtmfdpijmholedaaGreatDoor
