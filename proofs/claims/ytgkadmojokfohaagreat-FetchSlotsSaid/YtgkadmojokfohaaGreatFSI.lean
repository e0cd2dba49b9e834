/- Parts of a proof, joined in build order: a calculus of contracts, contracts of functions. -/
import Derived.Test.YtgkadmojokfohaaGreatFSH
import Derived.Test.YtgkadmojokfohaaGreatFSG
set_option linter.unusedVariables false
set_option linter.unusedSimpArgs false
namespace Go.Vc
open Go.Proofs Classical
def dotS:ByteArray:=⟨#[46]⟩
def dotsS:ByteArray:=⟨#[46,46]⟩
noncomputable def enS (l:List (Int × Blk)) (x:Fl) (i:Nat):Ent:=slotE (rawS l x i)
def badEn (l:List (Int × Blk)) (fs:List Fl) (x:Fl) (i:Nat):Prop:=(enS l x i).1≠0∧(¬ usedP fs (enS l x i).1∨(1<i∧((enS l x i).2=dotS∨(enS l x i).2=dotsS))∨∃ k,k<i∧(enS l x k).2=(enS l x i).2)
def Z3 (l:List (Int × Blk)) (fs:List Fl) (x:Fl):Prop:=¬ YC l x (x.f 2 / 16)∨(x.f 1≠0∧(enS l x 0≠(x.i,dotS)∨(enS l x 1).2≠dotsS∨∃ i,i<x.f 2 / 16∧badEn l fs x i))
theorem buildEnt2 (a:Nat):zu Tryz.prog 61 [(0,.int .u16 (a:Int)),(1,.string ⟨#[46]⟩)]=some (.agg (ZP (a,dotS))):=by kernel_rfl
def NdOk (fs:List Fl):Prop:=∀ x∈fs,x.f 2≤67381248∧(x.f 0=2→x.f 1≠0→32≤x.f 2)
abbrev Nm:=Nat × Nat
def nmC (x:Nm):Array Value:=#[zm x.1,zm x.2]
theorem nmC_ok (x:Nm):zF (nmC x):=by unfold zF; rw [← Array.all_toList]; rfl
noncomputable def eNm:ZT:=orE (zI Tryz.prog 225)
set_option maxRecDepth 100000 in
theorem elNm:zI Tryz.prog 225=some eNm:=by kernel_rfl
set_option maxRecDepth 100000 in
theorem eNm_f:eNm.type=266∧eNm.size=2∧eNm.zero.size=2∧eNm.bytes=16:=⟨by kernel_rfl,by kernel_rfl,by kernel_rfl,by kernel_rfl⟩
theorem undNms:Tryz.prog.underlying 225=some (.slice 266):=by kernel_rfl
theorem buildNm (a b:Nat):zu Tryz.prog 266 [(0,zm a),(1,zm b)]=some (.agg (nmC (a,b))):=by kernel_rfl
def isTree (x:Fl):Prop:=x.f 0=2∧x.f 1≠0
noncomputable def nmD (l:List (Int × Blk)) (x:Fl):Nat→List Nm
 | 0=>[]
 | n+1=>nmD l x n++(if 2≤n∧(enS l x n).1≠0 then [(x.i,(enS l x n).1)] else [])
theorem nmD_succ (l:List (Int × Blk)) (x:Fl) (n:Nat):nmD l x (n+1)=nmD l x n++(if 2≤n∧(enS l x n).1≠0 then [(x.i,(enS l x n).1)] else []):=rfl
theorem nmD_two (l:List (Int × Blk)) (x:Fl):∀ n,n≤2→nmD l x n=[]
 | 0,_=>rfl
 | n+1,h=>by rw [nmD_succ,nmD_two l x n (by omega),if_neg (fun e=>by omega)]; rfl
theorem nmD_len (l:List (Int × Blk)) (x:Fl):∀ n,(nmD l x n).length≤n
 | 0=>by simp [nmD]
 | n+1=>by
   have:=nmD_len l x n
   rw [nmD_succ,List.length_append]
   split <;> simp <;> omega
noncomputable def nmX (l:List (Int × Blk)) (x:Fl):List Nm:=if isTree x then nmD l x (x.f 2 / 16) else []
noncomputable def ym (l:List (Int × Blk)) (fs:List Fl):List Nm:=fs.flatMap (nmX l)
theorem namesP_app (l:List (Int × Blk)) (a b:List Fl):ym l (a++b)=ym l a++ym l b:=List.flatMap_append ..
theorem namesP_one (l:List (Int × Blk)) (x:Fl):ym l [x]=nmX l x:=by simp [ym]
theorem nmX_len (l:List (Int × Blk)) {x:Fl} (h:x.f 2≤67381248):(nmX l x).length≤4211328:=by
 unfold nmX
 split
 · have:=nmD_len l x (x.f 2 / 16); omega
 · simp
theorem namesP_len (l:List (Int × Blk)):∀ {fs:List Fl},NdOk fs→(ym l fs).length≤4211328*fs.length
 | [],_=>by simp [ym]
 | x :: r,h=>by
   have h1:=namesP_len l (fs:=r) fun y hy=>h y (List.mem_cons_of_mem _ hy)
   have h2:=nmX_len l (h x (List.mem_cons_self ..)).1
   have e:ym l (x :: r)=nmX l x++ym l r:=by simp [ym]
   rw [e,List.length_append,List.length_cons]; omega
section
variable {H:Hp} {R:Value→Hp→Prop} {d:Nat} {dv:Value} {B L I:Int} {l:List (Int × Blk)} {s:Value} {fs:List Fl}
set_option maxHeartbeats 1000000 in
theorem badSlots29 (h:Lk H d dv B L I l) (hf:Fls H s fs) {x:Fl} (hx:x∈fs) (hlk:x.f 1≠0→32≤x.f 2) (k:∀ H',Ext H H'→R (.bool (decide (Z3 l fs x))) H'):Fc Tryz.prog 153 #[z6 d,s,.agg (flC x)] H R:=by
 have hnum:=hf.num x hx
 have hok:=hf.ok x hx
 have h2:=hok 2 (by omega)
 simp only [fw,Nat.reduceLT,if_false,Nat.reducePow,Nat.lt_irrefl] at h2
 have f0:(flC x)[0]?=some (zm x.i):=rfl
 have f2:(flC x)[2]?=some (.int .u16 (x.f 1)):=rfl
 refine fn153 ?_
 simp only [sh153,zt]
 refine (Lo.start _ H:Lx H H []).boxA fun b1 H1 _ l1=>?_
 have l1:Lx H H1 [.box b1 (flC x) 177]:=l1
 have fin:∀ {H'} (b:Bool),Ext H H'→(b=true↔Z3 l fs x)→R (.bool b) H':=fun {H'} b e hb=>by
   have:=k H' e
   rw [show decide (Z3 l fs x)=b from by rw [Bool.eq_iff_iff,decide_eq_true_eq,hb]] at this
   exact this
 rw [l1.ldAll (i:=0) (n:=18) rfl rfl,za]
 refine slots29 (h.ext l1.ext0) ((hf.sub x hx).ext l1.ext0) (hf.few x hx) hok fun H2 sv e2 n2=>?_
 have l2:Lx H H2 [.box b1 (flC x) 177,.sl 61 2 sv ((ZE l x (x.f 2 / 16)).map ZP)]:=l1.new e2 n2
 have hgt:∀ i,i<x.f 2 / 16→((ZE l x (x.f 2 / 16)).map ZP)[i]?=some (ZP (enS l x i)):=fun i hi=>by rw [List.getElem?_map,Yw l x hi]; rfl
 have hlt16:∀ i,(enS l x i).1<65536:=fun i=>slotE_lt (rawS_is h.is x i)
 have hlen:((ZE l x (x.f 2 / 16)).map ZP).length=x.f 2 / 16:=by rw [List.length_map,yS]
 rw [show ze (.tuple #[sv,.bool (decide (YC l x (x.f 2 / 16)))]) 0=some sv from rfl,za,show ze (.tuple #[sv,.bool (decide (YC l x (x.f 2 / 16)))]) 1=some (.bool (decide (YC l x (x.f 2 / 16)))) from rfl,za,zT,za,yy]
 refine ⟨fun hnf=>?_,fun hfi=>?_⟩
 · rw [decide_eq_false_iff_not] at hnf
   exact fin true l2.ext0 ⟨fun _=>.inl hnf,fun _=>rfl⟩
 · rw [decide_eq_true_eq] at hfi
   rw [zi,za,zi,za,l2.ld (i:=0) rfl,f2,za,zy,za,zf]
   refine ⟨fun h0=>fin false l2.ext0 ⟨fun e=>(by cases e),fun e=>?_⟩,fun h0=>?_⟩
   · rcases e with e | e
     · exact absurd hfi e
     · omega
   · have h0:x.f 1≠0:=by omega
     have h32:=hlk h0
     have hbad:Z3 l fs x↔(enS l x 0≠(x.i,dotS)∨(enS l x 1).2≠dotsS)∨∃ i,i<x.f 2 / 16∧badEn l fs x i:=by
       unfold Z3
       constructor
       · rintro (e | ⟨_,e | e | e⟩)
         · exact absurd hfi e
         · exact .inl (.inl e)
         · exact .inl (.inr e)
         · exact .inr e
       · rintro ((e | e) | e)
         · exact .inr ⟨h0,.inl e⟩
         · exact .inr ⟨h0,.inr (.inl e)⟩
         · exact .inr ⟨h0,.inr (.inr e)⟩
     have sv2:=(l2.sv (i:=1) rfl).sr
     refine zS.mk (fun t H'=>H'=H2∧t.1=.bool (decide (enS l x 0≠(x.i,dotS)∨(enS l x 1).2≠dotsS))) ?_ ?_
     · rintro ⟨t,u⟩ H3 ⟨rfl,ht⟩
       simp only at ht
       subst ht
       rw [zf]
       refine ⟨fun hb=>fin true l2.ext0 ⟨fun _=>hbad.2 (.inl hb),fun _=>rfl⟩,fun hb=>?_⟩
       refine zx.mk (fun t H'=>Ext H3 H'∧∃ i:Nat,i≤x.f 2 / 16∧t=(zm i,())∧∀ j,j<i→¬ badEn l fs x j) (fun t _=>mi t.1 fun i=>(((x.f 2 / 16:Nat):Int) - i).toNat) ⟨Ext.refl _,0,by omega,rfl,fun j hj=>by omega⟩ ?_
       rintro _ H4 ⟨x4,i,hi,rfl,hno⟩
       have sv4:=sv2.ext x4
       rw [sv4.lenE undEnts,za,hlen,zr,za,zf]
       refine ⟨fun hlt=>?_,fun hge=>?_⟩
       · have hst:∀ j,j<i+1↔j<i∨j=i:=fun j=>by omega
         obtain ⟨b,o,ha,hcl,_⟩:=sv4.el (hgt i (by omega))
         have c0:=hcl 0 (by omega)
         have c1:=hcl 1 (by omega)
         rw [Nat.add_zero,show (ZP (enS l x i))[0]?=some (.int .u16 (enS l x i).1) from rfl] at c0
         rw [show (ZP (enS l x i))[1]?=some (.string (enS l x i).2) from rfl] at c1
         have hl16:=hlt16 i
         rw [ha,za,zi,za,Nat.add_zero,c0,za,zy,za,zf]
         refine ⟨fun hz=>?_,fun hz=>?_⟩
         · rw [zk,za,zK,zv (by omega)]
           refine ⟨⟨x4,i+1,by omega,rfl,fun j hj=>?_⟩,by simp only [zC]; omega⟩
           rcases (hst j).1 hj with e | e
           · exact hno j e
           · rw [e]; exact fun e2=>e2.1 (by omega)
         · have hz:(enS l x i).1≠0:=by omega
           rw [za,zi,za,Nat.add_zero,c0,za,zE,za,zv (by omega)]
           refine used29 (hf.ext (l2.ext0.trans x4)) ?_
           refine zS.mk (fun t H'=>H'=H4∧t.1=.bool (decide (¬ usedP fs (enS l x i).1∨(1<i∧((enS l x i).2=dotS∨(enS l x i).2=dotsS))))) ?_ ?_
           · rintro ⟨t,u⟩ H5 ⟨rfl,ht⟩
             simp only at ht
             subst ht
             rw [zf]
             refine ⟨fun hb1=>fin true (l2.ext0.trans x4) ⟨fun _=>hbad.2 (.inr ⟨i,by omega,hz,?_⟩),fun _=>rfl⟩,fun hb1=>?_⟩
             · rcases hb1 with e | e
               · exact .inl e
               · exact .inr (.inl e)
             · refine zx.mk (fun t H'=>H'=H5∧∃ j:Nat,j≤i∧t=(zm j,())∧∀ z,z<j→(enS l x z).2≠(enS l x i).2) (fun t _=>mi t.1 fun j=>(i - j).toNat) ⟨rfl,0,by omega,rfl,fun z hz=>by omega⟩ ?_
               rintro _ H6 ⟨rfl,j,hj,rfl,hnz⟩
               rw [zr,za,zf]
               refine ⟨fun hlt2=>?_,fun hge2=>?_⟩
               · obtain ⟨b',o',ha',hcl',_⟩:=sv4.el (hgt j (by omega))
                 have c1':=hcl' 1 (by omega)
                 rw [show (ZP (enS l x j))[1]?=some (.string (enS l x j).2) from rfl] at c1'
                 rw [ha',za,zi,za,c1',za,za,zi,za,c1,za,str_cmp,za,zf]
                 refine ⟨fun he=>fin true (l2.ext0.trans x4) ⟨fun _=>hbad.2 (.inr ⟨i,by omega,hz,.inr (.inr ⟨j,by omega,he⟩)⟩),fun _=>rfl⟩,fun hne=>?_⟩
                 rw [zk,za,zK,zv (by omega)]
                 refine ⟨⟨rfl,j+1,by omega,rfl,fun z hz=>?_⟩,by simp only [zC]; omega⟩
                 by_cases e:z=j
                 · rw [e]; exact hne
                 · exact hnz z (by omega)
               · rw [zk,za,zK,zv (by omega)]
                 refine ⟨⟨x4,i+1,by omega,rfl,fun z hz2=>?_⟩,by simp only [zC]; omega⟩
                 rcases (hst z).1 hz2 with e | e
                 · exact hno z e
                 · rw [e]
                   rintro ⟨_,e2 | e2 | ⟨q,e3,e4⟩⟩
                   · exact hb1 (.inl e2)
                   · exact hb1 (.inr e2)
                   · exact hnz q (by omega) e4
           · rw [zT,za,yy]
             refine ⟨fun hu=>⟨rfl,?_⟩,fun hu=>?_⟩
             · rw [decide_eq_false_iff_not] at hu
               exact yf (.inl hu)
             · rw [decide_eq_true_eq] at hu
               rw [zL,za,zf]
               refine ⟨fun h1=>?_,fun h1=>⟨rfl,YK fun e=>?_⟩⟩
               · rw [za,zi,za,c1,za,str_cmp,za,zf]
                 refine ⟨fun hd=>⟨rfl,yf (.inr ⟨by omega,.inl hd⟩)⟩,fun hd=>?_⟩
                 rw [za,zi,za,c1,za,str_cmp,za]
                 refine ⟨rfl,Yh ⟨fun e=>.inr ⟨by omega,.inr e⟩,fun e=>?_⟩⟩
                 rcases e with e | ⟨_,e | e⟩
                 · exact absurd hu e
                 · exact absurd e hd
                 · exact e
               · rcases e with e | e
                 · exact e hu
                 · omega
       · refine fin false (l2.ext0.trans x4) ⟨fun e=>(by cases e),fun e=>?_⟩
         rcases hbad.1 e with e | ⟨j,hj,e⟩
         · exact absurd e hb
         · exact absurd e (hno j (by omega))
     · obtain ⟨b,o,ha,hcl,hrow⟩:=sv2.el (hgt 0 (by omega))
       have hr:=hrow 0 2 (by omega)
       rw [Nat.add_zero,ext_all (c:=ZP (enS l x 0)) (n:=2) rfl] at hr
       rw [show (Value.int .i64 0)=(.int .i64 ((0:Nat):Int)) from rfl,ha,za,hr,za,zi,za,l2.ld (i:=0) rfl,f0,za,zE,za,Zv (by omega) (by omega),buildEnt2,za,Ym,eqEnt,Option.map_some,za]
       rw [show (!decide (enS l x 0=(x.i,dotS)))=decide (enS l x 0≠(x.i,dotS)) from by rw [Bool.eq_iff_iff]; simp,zf]
       refine ⟨fun hb=>⟨rfl,yf (.inl hb)⟩,fun hb=>?_⟩
       obtain ⟨b',o',ha',hcl',hrow'⟩:=sv2.el (hgt 1 (by omega))
       have c1:=hcl' 1 (by omega)
       rw [show (Value.int .i64 1)=(.int .i64 ((1:Nat):Int)) from rfl,ha',za,zi,za,c1,show (ZP (enS l x 1))[1]?=some (.string (enS l x 1).2) from rfl,za,str_ncmp,za]
       refine ⟨rfl,Yh ⟨fun e=>.inr e,fun e=>?_⟩⟩
       rcases e with e | e
       · exact absurd e hb
       · exact e
theorem slotsC29 (h:Lk H d dv B L I l) (hf:Fls H s fs) (hnd:NdOk fs) (k:∀ H' s' ps,Ext H H'→New H H' (.sl 254 2 s' (ps.map (fC 13)))→(ps=[]↔∀ x∈fs,¬ (x.f 0=2∧Z3 l fs x))→R s' H'):Fc Tryz.prog 120 #[z6 d,s] H R:=by
 have hfl:=hf.len
 refine fn120 ?_
 simp only [sh120,Ye,zt,za]
 refine (Lo.start _ H:Lx H H []).flts fun p H1 e1 l1=>?_
 have l1:Lx H H1 [yb p 13 []]:=l1
 simp only [zc,zi,Nat.zero_add,Nat.add_zero,Nat.reduceAdd,za]
 refine zx.mk (fun t H'=>∃ (i:Nat) (ps:List Int),i≤fs.length∧t=(zm i,())∧ps.length≤i∧(ps=[]↔∀ y∈fs.take i,¬ (y.f 0=2∧Z3 l fs y))∧Lx H H' [yb p 13 ps])
   (fun t _=>mi t.1 fun i=>(fs.length - i).toNat) ⟨0,[],by omega,rfl,by simp,by simp,l1⟩ ?_
 rintro _ H2 ⟨i,ps,hi,rfl,hpl,hps,l2⟩
 rw [hf.row.lenE yz,za,List.length_map,zr,za,zf]
 refine ⟨fun hlt=>?_,fun hge=>?_⟩
 · have hil:i<fs.length:=by omega
   have hei:(fs.map flC)[i]?=some (flC fs[i]):=by rw [List.getElem?_map,List.getElem?_eq_getElem hil]; rfl
   have htk:fs.take (i+1)=fs.take i++[fs[i]]:=List.take_succ_eq_append_getElem hil
   have hmem:fs[i]∈fs:=List.getElem_mem hil
   generalize fs[i]=x at hei htk hmem
   have hst:=ids_step (y:=x) (ys:=[]) hps
   rw [← htk] at hst
   obtain ⟨b,o,ha,hcl,hrow⟩:=(hf.ext l2.ext0).row.el hei
   have hr:=hrow 0 18 (by omega)
   rw [Nat.add_zero,ext_all (c:=flC x) (n:=18) rfl] at hr
   rw [ha,za,zi,za,zi,za,Nat.add_zero,hcl 1 (by omega),show (flC x)[1]?=some (.int .u16 (x.f 0)) from rfl,za,zy,za,zf]
   refine ⟨fun hk=>?_,fun hk=>?_⟩
   · have hk:x.f 0=2:=by omega
     rw [za,hr,za]
     refine badSlots29 (h.ext l2.ext0) (hf.ext l2.ext0) hmem ((hnd x hmem).2 hk) fun H3 e3=>?_
     have l3:=l2.ext e3
     rw [zf]
     refine ⟨fun hb=>?_,fun hb=>?_⟩
     · obtain ⟨b,o,ha',hcl,hrow⟩:=(hf.ext l3.ext0).row.el hei
       have h0:=hcl 0 (by omega)
       rw [Nat.add_zero] at h0
       rw [← ha .i64,ha' .i64,za,zi,za,Nat.add_zero,h0,show (flC x)[0]?=some (zm x.i) from rfl,za]
       obtain ⟨O,ho,st⟩:=l3.call (i:=0) rfl
       refine flt_add ho (by omega) fun H11 O11 ps' hne hle s11 h11=>?_
       have l11:=st H11 _ O11 s11 h11
       rw [zk,za,zK,zv (by omega)]
       refine ⟨⟨i+1,ps',by omega,rfl,by omega,?_,l11⟩,by simp only [zC]; omega⟩
       rw [← hst]
       exact ⟨fun e=>absurd e hne,fun e=>absurd ⟨hk,hb⟩ e.2⟩
     · rw [zk,za,zK,zv (by omega)]
       refine ⟨⟨i+1,ps,by omega,rfl,by omega,?_,l3⟩,by simp only [zC]; omega⟩
       rw [← hst]
       exact ⟨fun e=>⟨e,fun e2=>hb e2.2⟩,fun e=>e.1⟩
   · rw [zk,za,zK,zv (by omega)]
     refine ⟨⟨i+1,ps,by omega,rfl,by omega,?_,l2⟩,by simp only [zC]; omega⟩
     rw [← hst]
     exact ⟨fun e=>⟨e,fun e2=>hk (by omega)⟩,fun e=>e.1⟩
 · have ei:i=fs.length:=by omega
   subst ei
   rw [List.take_length] at hps
   obtain ⟨s',hg,l15⟩:=l2.fltEnd (i:=0) rfl
   rw [zq hg]
   show Pu (some s') _
   rw [za]
   exact k H2 s' ps l2.ext0 (l15.outN (i:=0) rfl) hps
theorem names29 (h:Lk H d dv B L I l) (hf:Fls H s fs) (hnd:NdOk fs) (k:∀ H' s',Ext H H'→New H H' (.sl 266 2 s' ((ym l fs).map nmC))→R s' H'):Fc Tryz.prog 121 #[z6 d,s] H R:=by
 have hfl:=hf.len
 refine fn121 ?_
 simp only [sh121,zt]
 have l1:=(Lo.start _ H:Lx H H []).nilS 266 2
 refine zx.mk (fun t H'=>∃ (i:Nat) (v:Value),i≤fs.length∧t=(v,zm i,())∧Lx H H' [.sl 266 2 v ((ym l (fs.take i)).map nmC)])
   (fun t _=>mi t.2.1 fun i=>(fs.length - i).toNat) ⟨0,.slice none 0 0,by omega,rfl,l1⟩ ?_
 rintro _ H2 ⟨i,v,hi,rfl,l2⟩
 rw [hf.row.lenE yz,za,List.length_map,zr,za,zf]
 refine ⟨fun hlt=>?_,fun hge=>?_⟩
 · have hil:i<fs.length:=by omega
   have hei:(fs.map flC)[i]?=some (flC fs[i]):=by rw [List.getElem?_map,List.getElem?_eq_getElem hil]; rfl
   have htk:fs.take (i+1)=fs.take i++[fs[i]]:=List.take_succ_eq_append_getElem hil
   have hmem:fs[i]∈fs:=List.getElem_mem hil
   have hpl:=namesP_len l (fs:=fs.take i) fun y hy=>hnd y (List.mem_of_mem_take hy)
   rw [List.length_take] at hpl
   generalize fs[i]=x at hei htk hmem
   have hok:=hf.ok x hmem
   have hnx:=hnd x hmem
   have hsz:=hnx.1
   have hnext:ym l (fs.take (i+1))=ym l (fs.take i)++nmX l x:=by rw [htk,namesP_app,namesP_one]
   obtain ⟨b,o,ha,hcl,hrow⟩:=(hf.ext l2.ext0).row.el hei
   have hr:=hrow 0 18 (by omega)
   rw [Nat.add_zero,ext_all (c:=flC x) (n:=18) rfl] at hr
   refine zS.mk (fun t H'=>H'=H2∧t.1=.bool (decide (¬ isTree x))) ?_ ?_
   · rintro ⟨t,u⟩ H3 ⟨rfl,ht⟩
     simp only at ht
     subst ht
     rw [zf]
     refine ⟨fun hb=>?_,fun hb=>?_⟩
     · rw [zk,za,zK,zv (by omega)]
       refine ⟨⟨i+1,v,by omega,rfl,?_⟩,by simp only [zC]; omega⟩
       rw [hnext]
       unfold nmX
       rw [if_neg hb,List.append_nil]; exact l2
     · have hb:=Classical.not_not.1 hb
       have hxx:nmX l x=nmD l x (x.f 2 / 16):=by unfold nmX; rw [if_pos hb]
       have h32:=hnx.2 hb.1 hb.2
       rw [ha,za,hr,za]
       refine slots29 (h.ext l2.ext0) ((hf.sub x hmem).ext l2.ext0) (hf.few x hmem) hok fun H4 sv e4 n4=>?_
       have l4:=l2.new e4 n4
       have hlen:((ZE l x (x.f 2 / 16)).map ZP).length=x.f 2 / 16:=by rw [List.length_map,yS]
       have hgt:∀ i,i<x.f 2 / 16→((ZE l x (x.f 2 / 16)).map ZP)[i]?=some (ZP (enS l x i)):=fun i hi=>by rw [List.getElem?_map,Yw l x hi]; rfl
       have hlt16:∀ i,(enS l x i).1<65536:=fun i=>slotE_lt (rawS_is h.is x i)
       rw [show ze (.tuple #[sv,.bool (decide (YC l x (x.f 2 / 16)))]) 0=some sv from rfl,za,show ze (.tuple #[sv,.bool (decide (YC l x (x.f 2 / 16)))]) 1=some (.bool (decide (YC l x (x.f 2 / 16)))) from rfl,za]
       refine zx.mk (fun t H'=>∃ (j:Nat) (v:Value),2≤j∧j≤x.f 2 / 16∧t=(v,zm j,())∧Lx H H' [.sl 266 2 v ((ym l (fs.take i)++nmD l x j).map nmC),.sl 61 2 sv ((ZE l x (x.f 2 / 16)).map ZP)])
         (fun t _=>mi t.2.1 fun j=>(((x.f 2 / 16:Nat):Int) - j).toNat) ⟨2,v,by omega,by omega,rfl,by rw [nmD_two l x 2 (by omega),List.append_nil]; exact l4⟩ ?_
       rintro _ H5 ⟨j,v5,hj1,hj2,rfl,l5⟩
       have sv5:=(l5.sv (i:=1) rfl).sr
       rw [sv5.lenE undEnts,za,hlen,zr,za,zf]
       refine ⟨fun hlt2=>?_,fun hge2=>?_⟩
       · obtain ⟨b2,o2,ha2,hcl2,_⟩:=sv5.el (hgt j (by omega))
         have c0:=hcl2 0 (by omega)
         rw [Nat.add_zero,show (ZP (enS l x j))[0]?=some (.int .u16 (enS l x j).1) from rfl] at c0
         have hl16:=hlt16 j
         have hsu:=nmD_succ l x j
         have hle:=nmD_len l x j
         rw [ha2,za,zi,za,Nat.add_zero,c0,za,zw,za,zf]
         refine ⟨fun hne=>?_,fun he=>?_⟩
         · rw [if_pos ⟨hj1,by omega⟩] at hsu
           obtain ⟨b3,o3,ha3,hcl3,_⟩:=(hf.ext l5.ext0).row.el hei
           have q0:=hcl3 0 (by omega)
           rw [Nat.add_zero] at q0
           rw [← ha .i64,ha3 .i64,za,zi,za,Nat.add_zero,q0,show (flC x)[0]?=some (zm x.i) from rfl,za,za,zi,za,Nat.add_zero,c0,za,zE,za,zv (by omega),buildNm,za]
           refine l5.appO elNm eNm_f (i:=0) rfl (by rfl) (by omega) (by omega) rfl (nmC_ok _) (by rw [List.length_map,List.length_append]; omega) fun s' H6 l6=>?_
           rw [zk,za,zK,zv (by omega)]
           refine ⟨⟨j+1,s',by omega,by omega,rfl,?_⟩,by simp only [zC]; omega⟩
           rw [hsu,← List.append_assoc,List.map_append]
           exact l6
         · rw [if_neg (fun e=>by omega),List.append_nil] at hsu
           rw [zk,za,zK,zv (by omega)]
           refine ⟨⟨j+1,v5,by omega,by omega,rfl,?_⟩,by simp only [zC]; omega⟩
           rw [hsu]; exact l5
       · have ej:j=x.f 2 / 16:=by omega
         subst ej
         rw [zk,za,zK,zv (by omega)]
         refine ⟨⟨i+1,v5,by omega,rfl,?_⟩,by simp only [zC]; omega⟩
         rw [hnext,hxx]
         exact l5.takeN 1
   · rw [ha,za,zi,za,zi,za,Nat.add_zero,hcl 1 (by omega),show (flC x)[1]?=some (.int .u16 (x.f 0)) from rfl,za,zw,za,zf]
     refine ⟨fun hk=>⟨rfl,yf fun e=>hk (by have:=e.1; omega)⟩,fun hk=>?_⟩
     rw [za,zi,za,zi,za,hcl 2 (by omega),show (flC x)[2]?=some (.int .u16 (x.f 1)) from rfl,za,zy,za]
     refine ⟨rfl,Yh ⟨fun e e2=>e2.2 (by omega),fun e=>?_⟩⟩
     by_cases e2:x.f 1=0
     · omega
     · exact absurd ⟨by omega,e2⟩ e
 · have ei:i=fs.length:=by omega
   subst ei
   rw [List.take_length] at l2
   exact k H2 v l2.ext0 (l2.outN (i:=0) rfl)
end
theorem exists_least {Q:Nat→Prop} (h:∃ m,Q m):∃ m,Q m∧∀ k,Q k→m≤k:=by
 obtain ⟨m,hm⟩:=h
 induction m using Nat.strongRecOn with
 | _ m ih=>
   by_cases h2:∃ k,k<m∧Q k
   · obtain ⟨k,hk,hq⟩:=h2
     exact ih k hk hq
   · exact ⟨m,hm,fun k hk=>Nat.le_of_not_lt fun hlt=>h2 ⟨k,hlt,hk⟩⟩
noncomputable def leastM (Q:Nat→Prop):Nat:=if h:∃ m,Q m then Classical.choose (exists_least h) else 0
theorem leastM_is {Q:Nat→Prop} {m:Nat} (h:Q m):Q (leastM Q)∧leastM Q≤m:=by
 have h0:∃ m,Q m:=⟨m,h⟩
 unfold leastM
 rw [dif_pos h0]
 obtain ⟨h1,h2⟩:=Classical.choose_spec (exists_least h0)
 exact ⟨h1,h2 m h⟩
def parP (ns:List Nm) (a:Nat):Nat × Nat:=ns.foldl (fun p x=>if x.2=a then (x.1,p.2+1) else p) (0,0)
theorem parP_snoc (ns:List Nm) (x:Nm) (a:Nat):parP (ns++[x]) a=if x.2=a then (x.1,(parP ns a).2+1) else parP ns a:=by
 unfold parP; rw [List.foldl_append]; rfl
theorem parP_take (ns:List Nm) (a:Nat):∀ n,n≤ns.length→(parP (ns.take n) a).2≤n
 | 0,_=>by simp [parP]
 | n+1,h=>by
   have ih:=parP_take ns a n (by omega)
   rw [List.take_succ_eq_append_getElem (by omega),parP_snoc]
   split
   · show (parP (ns.take n) a).2+1≤n+1; omega
   · omega
noncomputable def kindP (fs:List Fl) (a:Nat):Nat:=((fs.find? fun x=>decide (x.i=a)).map (·.f 0)).getD 0
inductive Rch (ns:List Nm):Nat→Prop where
 | root:Rch ns 1
 | step {y:Nm}:y∈ns→Rch ns y.1→Rch ns y.2
def bC (b:Bool):Array Value:=#[.bool b]
def bN (c:Nat→Bool) (n:Nat):List (Array Value):=(List.range n).map fun b=>bC (c b)
theorem bN_len (c:Nat→Bool) (n:Nat):(bN c n).length=n:=by simp [bN]
theorem bN_get {c:Nat→Bool} {n b:Nat} (h:b<n):(bN c n)[b]?=some (bC (c b)):=by
 unfold bN; rw [List.getElem?_map,List.getElem?_range h]; rfl
theorem bN_set (c:Nat→Bool) (n y:Nat):(bN c n).set y (bC true)=bN (fun b=>if b=y then true else c b) n:=by
 apply List.ext_getElem?
 intro b
 by_cases hb:b<n
 · rw [bN_get hb]
   by_cases e:y=b
   · subst e
     rw [List.getElem?_set_self (by rw [bN_len]; exact hb),if_pos rfl]
   · rw [List.getElem?_set_ne e,bN_get hb,if_neg (Ne.symm e)]
 · rw [List.getElem?_eq_none (by rw [List.length_set,bN_len]; omega),List.getElem?_eq_none (by rw [bN_len]; omega)]
theorem bN_false (n:Nat):bN (fun _=>false) n=List.replicate n #[.bool false]:=by
 unfold bN; apply List.ext_getElem? ; intro b; by_cases hb:b<n
 · rw [List.getElem?_map,List.getElem?_range hb,List.getElem?_replicate,if_pos hb]; rfl
 · rw [List.getElem?_eq_none (by simp; omega),List.getElem?_eq_none (by simp; omega)]
def leftC (c:Nat→Bool):Nat→Nat
 | 0=>0
 | n+1=>leftC c n+if c n then 0 else 1
theorem leftC_set (c:Nat→Bool) {y:Nat} (hy:c y=false):∀ n,y<n→leftC (fun b=>if b=y then true else c b) n+1=leftC c n
 | 0,h=>by omega
 | n+1,h=>by
   have e1:leftC (fun b=>if b=y then true else c b) (n+1)=leftC (fun b=>if b=y then true else c b) n+if (if n=y then true else c n) then 0 else 1:=rfl
   have e2:leftC c (n+1)=leftC c n+if c n then 0 else 1:=rfl
   rw [e1,e2]
   by_cases hn:n=y
   · subst hn
     rw [if_pos rfl,if_pos rfl,hy]
     have key:∀ m,m≤n→leftC (fun b=>if b=n then true else c b) m=leftC c m:=by
       intro m
       induction m with
       | zero=>intro _; rfl
       | succ m ih=>
         intro hm
         show leftC (fun b=>if b=n then true else c b) m+(if (if m=n then true else c m) then 0 else 1)=leftC c m+if c m then 0 else 1
         rw [ih (by omega),show (if m=n then true else c m)=c m from if_neg (by omega)]
     rw [key n (Nat.le_refl _)]
     simp
   · rw [if_neg hn]
     have:=leftC_set c hy n (by omega)
     omega
section
variable {H:Hp} {R:Value→Hp→Prop} {d:Nat} {dv:Value} {B L I:Int} {l:List (Int × Blk)} {s nv:Value} {fs:List Fl} {ns:List Nm}
theorem parent29 (hn:Sr 2 H nv (ns.map nmC)) (hlen:ns.length<1099511627776) {a:Nat} (k:R (.tuple #[zm (parP ns a).1,zm (parP ns a).2]) H):Fc Tryz.prog 155 #[nv,zm a] H R:=by
 refine fn155 ?_
 simp only [sh155,zt]
 refine zx.mk (fun t H'=>H'=H∧∃ i:Nat,i≤ns.length∧t=(zm (parP (ns.take i) a).1,zm (parP (ns.take i) a).2,zm i,())) (fun t _=>mi t.2.2.1 fun i=>(ns.length - i).toNat) ⟨rfl,0,by omega,rfl⟩ ?_
 rintro _ H3 ⟨rfl,i,hi,rfl⟩
 rw [hn.lenE undNms,za,List.length_map,zr,za,zf]
 refine ⟨fun hlt=>?_,fun hge=>?_⟩
 · have hil:i<ns.length:=by omega
   have hei:(ns.map nmC)[i]?=some (nmC ns[i]):=by rw [List.getElem?_map,List.getElem?_eq_getElem hil]; rfl
   have htk:ns.take (i+1)=ns.take i++[ns[i]]:=List.take_succ_eq_append_getElem hil
   have hle:=parP_take ns a i (by omega)
   generalize ns[i]=x at hei htk
   have hsn:=parP_snoc (ns.take i) x a
   rw [← htk] at hsn
   obtain ⟨b,o,ha,hcl,_⟩:=hn.el hei
   have c0:=hcl 0 (by omega)
   rw [Nat.add_zero] at c0
   rw [ha,za,zi,za,hcl 1 (by omega),show (nmC x)[1]?=some (zm x.2) from rfl,za,zy,za,zf]
   refine ⟨fun he=>?_,fun hne=>?_⟩
   · rw [if_pos (by omega)] at hsn
     rw [za,zi,za,Nat.add_zero,c0,show (nmC x)[0]?=some (zm x.1) from rfl,za,zk,za,zK,zv (by omega),zk,za,zK,zv (by omega)]
     refine ⟨⟨rfl,i+1,by omega,?_⟩,by simp only [zC]; omega⟩
     rw [hsn]; rfl
   · rw [if_neg (by omega)] at hsn
     rw [zk,za,zK,zv (by omega)]
     refine ⟨⟨rfl,i+1,by omega,?_⟩,by simp only [zC]; omega⟩
     rw [hsn]; rfl
 · have ei:i=ns.length:=by omega
   subst ei
   rw [List.take_length]; exact k
theorem kind29 (hf:Fls H s fs) {a:Nat} (k:R (.int .u16 (kindP fs a)) H):Fc Tryz.prog 156 #[s,zm a] H R:=by
 have hfl:=hf.len
 refine fn156 ?_
 simp only [sh156,zt]
 refine zx.mk (fun t H'=>H'=H∧∃ i:Nat,i≤fs.length∧t=(zm i,())∧∀ x∈fs.take i,x.i≠a) (fun t _=>mi t.1 fun i=>(fs.length - i).toNat) ⟨rfl,0,by omega,rfl,by simp⟩ ?_
 rintro _ H3 ⟨rfl,i,hi,rfl,hno⟩
 rw [hf.row.lenE yz,za,List.length_map,zr,za,zf]
 refine ⟨fun hlt=>?_,fun hge=>?_⟩
 · have hil:i<fs.length:=by omega
   have hei:(fs.map flC)[i]?=some (flC fs[i]):=by rw [List.getElem?_map,List.getElem?_eq_getElem hil]; rfl
   have htk:fs.take (i+1)=fs.take i++[fs[i]]:=List.take_succ_eq_append_getElem hil
   have hdr:fs.drop i=fs[i] :: fs.drop (i+1):=List.drop_eq_getElem_cons hil
   generalize fs[i]=x at hei htk hdr
   obtain ⟨b,o,ha,hcl,_⟩:=hf.row.el hei
   have h0:=hcl 0 (by omega)
   rw [Nat.add_zero] at h0
   rw [ha,za,zi,za,Nat.add_zero,h0,show (flC x)[0]?=some (zm x.i) from rfl,za,zy,za,zf]
   refine ⟨fun he=>?_,fun hne=>?_⟩
   · rw [za,zi,za,zi,za,Nat.add_zero,hcl 1 (by omega),show (flC x)[1]?=some (.int .u16 (x.f 0)) from rfl,za]
     have e:kindP fs a=x.f 0:=by
       unfold kindP
       rw [show fs=fs.take i++fs.drop i from (List.take_append_drop i fs).symm,List.find?_append,List.find?_eq_none.2 (fun y hy=>by simpa using hno y hy),hdr,List.find?_cons_of_pos (by simpa using (by omega:x.i=a))]
       rfl
     rw [← e]; exact k
   · rw [zk,za,zK,zv (by omega)]
     refine ⟨⟨rfl,i+1,by omega,rfl,fun y hy=>?_⟩,by simp only [zC]; omega⟩
     rw [htk] at hy
     rcases List.mem_append.1 hy with h1 | h1
     · exact hno y h1
     · rw [List.mem_singleton.1 h1]; omega
 · have ei:i=fs.length:=by omega
   subst ei
   rw [List.take_length] at hno
   have e:kindP fs a=0:=by
     unfold kindP
     rw [List.find?_eq_none.2 (fun y hy=>by simpa using hno y hy)]; rfl
   rw [e] at k; exact k
set_option maxHeartbeats 1000000 in
theorem reached29 (h:Lk H d dv B L I l) (hn:Sr 2 H nv (ns.map nmC)) (hlen:ns.length<1099511627776) (hin:∀ y∈ns,(y.1:Int)≤I∧(y.2:Int)≤I) (k:∀ H' s',Ext H H'→New H H' (.sl 4 1 s' (bN (fun i=>decide (Rch ns i)) (I.toNat+1)))→R s' H'):Fc Tryz.prog 154 #[z6 d,nv] H R:=by
 obtain ⟨gL1,gL2,gI1,gI2,gB1,gB2,gD⟩:=id h.ok
 have hI:(zp B L I).I=I:=rfl
 obtain ⟨In,eI⟩:∃ In:Nat,I=In:=⟨I.toNat,by omega⟩
 have eIt:I.toNat=In:=by omega
 rw [eIt] at k
 refine fn154 ?_
 simp only [sh154,zt,zc,zi,Nat.zero_add,Nat.add_zero,Nat.reduceAdd,za]
 rw [zq h.top,lkC4,za,hI,eI,zk,za,zK,zv (by omega)]
 refine (Lo.start _ H:Lx H H []).make elBo eBo_f (by omega) (by omega) (by omega) fun b0 H1 _ l1=>?_
 rw [eBo_z,← bN_false] at l1
 generalize hsv:Value.slice (some ⟨b0,0,none⟩) (In+1) (In+1)=sv at l1
 have l1:Lx H H1 [.sl 4 1 sv (bN (fun _=>false) (In+1))]:=l1
 refine l1.put1 (i:=0) (j:=1) (u:=.bool true) rfl (bN_get (by omega)) (by unfold zF; rw [← Array.all_toList]; rfl) rfl rfl fun H2 l2=>?_
 have l2:Lx H H2 [.sl 4 1 sv (bN (fun b=>if b=1 then true else false) (In+1))]:=by rw [← bN_set]; exact l2
 let Q:Tup 1→Hp→Nat→Prop:=fun t H' m=>∃ (mo:Bool) (c:Nat→Bool),t=(.bool mo,())∧m=2*leftC c (In+1)+(if mo then 1 else 0)∧c 1=true∧(∀ i,c i=true→Rch ns i)∧(mo=false→∀ y∈ns,c y.1=true→c y.2=true)∧Lx H H' [.sl 4 1 sv (bN c (In+1))]
 refine zx.mk (fun t H'=>∃ m,Q t H' m) (fun t H'=>leastM (Q t H')) ⟨_,true,(fun b=>if b=1 then true else false),rfl,rfl,rfl,fun i hi=>?_,fun e=>(by cases e),l2⟩ ?_
 · have:i=1:=by
     by_cases e:i=1
     · exact e
     · simp [e] at hi
   rw [this]; exact .root
 rintro t H3 ⟨m,hm⟩
 obtain ⟨hq,-⟩:=leastM_is hm
 generalize leastM (Q t H3)=m0 at hq
 obtain ⟨mo,c,rfl,em,h1,hc,hmo,l3⟩:=hq
 rw [Zz]
 refine ⟨fun e=>?_,fun e=>?_⟩
 · subst e
   rw [if_pos rfl] at em
   refine zx.mk (fun t H'=>∃ (j:Nat) (mo:Bool) (c':Nat→Bool),j≤ns.length∧t=(.bool mo,zm j,())∧c' 1=true∧(∀ i,c' i=true→Rch ns i)∧leftC c' (In+1)+(if mo then 1 else 0)≤leftC c (In+1)∧(mo=false→∀ y∈ns.take j,c' y.1=true→c' y.2=true)∧Lx H H' [.sl 4 1 sv (bN c' (In+1))])
     (fun t _=>mi t.2.1 fun j=>(ns.length - j).toNat) ⟨0,false,c,by omega,rfl,h1,hc,by simp,by simp,l3⟩ ?_
   rintro _ H4 ⟨j,mo,c',hj,rfl,h1',hc',hle,hst,l4⟩
   have hn4:=hn.ext l4.ext0
   rw [hn4.lenE undNms,za,List.length_map,zr,za,zf]
   refine ⟨fun hlt=>?_,fun hge=>?_⟩
   · have hil:j<ns.length:=by omega
     have hei:(ns.map nmC)[j]?=some (nmC ns[j]):=by rw [List.getElem?_map,List.getElem?_eq_getElem hil]; rfl
     have htk:ns.take (j+1)=ns.take j++[ns[j]]:=List.take_succ_eq_append_getElem hil
     have hmem:ns[j]∈ns:=List.getElem_mem hil
     generalize ns[j]=y at hei htk hmem
     have hy:=hin y hmem
     obtain ⟨b,o,ha,hcl,_⟩:=hn4.el hei
     have c0:=hcl 0 (by omega)
     rw [Nat.add_zero,show (nmC y)[0]?=some (zm y.1) from rfl] at c0
     have c1:=hcl 1 (by omega)
     rw [show (nmC y)[1]?=some (zm y.2) from rfl] at c1
     have hg1:=bN_get (c:=c') (n:=In+1) (b:=y.1) (by omega)
     have hg2:=bN_get (c:=c') (n:=In+1) (b:=y.2) (by omega)
     refine zS.mk (fun t H'=>H'=H4∧t.1=.bool (c' y.1 && !c' y.2)) ?_ ?_
     · rintro ⟨t,u⟩ H5 ⟨rfl,ht⟩
       simp only at ht
       subst ht
       rw [Zz]
       refine ⟨fun hb=>?_,fun hb=>?_⟩
       · rw [Bool.and_eq_true,Bool.not_eq_true'] at hb
         rw [ha,za,zi,za,c1,za]
         refine l4.put1 (i:=0) (u:=.bool true) rfl hg2 (by unfold zF; rw [← Array.all_toList]; rfl) rfl rfl fun H6 l6=>?_
         have l6:Lx H H6 [.sl 4 1 sv (bN (fun b=>if b=y.2 then true else c' b) (In+1))]:=by rw [← bN_set]; exact l6
         have hlf:=leftC_set c' hb.2 (In+1) (by omega)
         rw [zk,za,zK,zv (by omega)]
         refine ⟨⟨j+1,true,_,by omega,rfl,?_,fun i hi=>?_,?_,fun e=>(by cases e),l6⟩,by simp only [zC]; omega⟩
         · by_cases e:1=y.2
           · rw [if_pos e]
           · rw [if_neg e]; exact h1'
         · by_cases e:i=y.2
           · rw [e]; exact .step hmem (hc' _ hb.1)
           · rw [if_neg e] at hi; exact hc' i hi
         · simp only [if_true]
           split at hle <;> omega
       · rw [zk,za,zK,zv (by omega)]
         refine ⟨⟨j+1,mo,c',by omega,rfl,h1',hc',hle,fun e z hz hz1=>?_,l4⟩,by simp only [zC]; omega⟩
         rw [htk] at hz
         rcases List.mem_append.1 hz with h3 | h3
         · exact hst e z h3 hz1
         · rw [List.mem_singleton.1 h3] at hz1 ⊢
           rw [hz1] at hb
           simpa using hb
     · have svr:=(l4.sv (i:=0) rfl).sr
       obtain ⟨b1,o1,ha1,hcl1,_⟩:=svr.el hg1
       have d0:=hcl1 0 (by omega)
       rw [Nat.add_zero,show (bC (c' y.1))[0]?=some (.bool (c' y.1)) from rfl] at d0
       rw [ha,za,zi,za,Nat.add_zero,c0,za,ha1,za,d0,za,Zz]
       refine ⟨fun hb=>?_,fun hb=>⟨rfl,by rw [hb]; rfl⟩⟩
       obtain ⟨b2,o2,ha2,hcl2,_⟩:=svr.el hg2
       have d1:=hcl2 0 (by omega)
       rw [Nat.add_zero,show (bC (c' y.2))[0]?=some (.bool (c' y.2)) from rfl] at d1
       rw [za,zi,za,c1,za,ha2,za,d1,za,zT,za]
       exact ⟨rfl,by rw [hb]; rfl⟩
   · have ej:j=ns.length:=by omega
     subst ej
     rw [List.take_length] at hst
     have hq:Q (.bool mo,()) H4 (2*leftC c' (In+1)+(if mo then 1 else 0)):=⟨mo,c',rfl,rfl,h1',hc',hst,l4⟩
     refine ⟨⟨_,hq⟩,Nat.lt_of_le_of_lt (leastM_is hq).2 ?_⟩
     rw [em]
     split at hle <;> simp_all <;> omega
 · have e2:bN c (In+1)=bN (fun i=>decide (Rch ns i)) (In+1):=by
     have:c=fun i=>decide (Rch ns i):=by
       funext i
       rw [Bool.eq_iff_iff,decide_eq_true_eq]
       refine ⟨hc i,fun hr=>?_⟩
       induction hr with
       | root=>exact h1
       | step hy _ ih=>exact hmo e _ hy ih
     rw [this]
   rw [e2] at l3
   exact k H3 sv l3.ext0 (l3.outN (i:=0) rfl)
end
def yx (l:List (Int × Blk)) (ns:List Nm) (x:Fl):Prop:=
 isTree x∧if x.i=1 then (parP ns 1).2≠0∨(enS l x 1).1≠1 else (parP ns x.i).2≠1∨(enS l x 1).1≠(parP ns x.i).1∨¬ Rch ns x.i
noncomputable def subsP (fs:List Fl) (a:Nat) (ns:List Nm):Nat:=ns.countP fun y=>decide (y.1=a∧kindP fs y.2=2)
theorem subsP_snoc (fs:List Fl) (a:Nat) (ns:List Nm) (y:Nm):subsP fs a (ns++[y])=subsP fs a ns+if y.1=a∧kindP fs y.2=2 then 1 else 0:=by
 unfold subsP
 rw [List.countP_append,List.countP_singleton]
 simp only [decide_eq_true_eq]
theorem subsP_le (fs:List Fl) (a:Nat) (ns:List Nm):subsP fs a ns≤ns.length:=List.countP_le_length
noncomputable def linksP (fs:List Fl) (ns:List Nm) (x:Fl):Nat:=if isTree x then 2+subsP fs x.i ns else (parP ns x.i).2
theorem zeroFile:zD Tryz.prog 177=some (.agg (flC ⟨0,fun _=>0,.slice none 0 0,[]⟩)):=by kernel_rfl
section
variable {H:Hp} {R:Value→Hp→Prop} {d:Nat} {dv:Value} {B L I:Int} {l:List (Int × Blk)} {s nv:Value} {fs:List Fl} {ns:List Nm}
theorem Fls.okC (hf:Fls H s fs) {x:Fl} (hx:x∈fs):zF (flC x):=by
 obtain ⟨b,c,e⟩:=(hf.sub x hx).len
 exact flC_ok e
set_option maxHeartbeats 1000000 in
theorem tree29 (h:Lk H d dv B L I l) (hf:Fls H s fs) (hnd:NdOk fs) (hI:∀ x∈fs,(x.i:Int)≤I) (hn:Sr 2 H nv (ns.map nmC)) (hlen:ns.length<1099511627776) (hin:∀ y∈ns,(y.1:Int)≤I∧(y.2:Int)≤I) (k:∀ H' s' ps,Ext H H'→New H H' (.sl 254 2 s' (ps.map (fC 14)))→(ps=[]↔∀ x∈fs,¬ yx l ns x)→R s' H'):Fc Tryz.prog 122 #[z6 d,s,nv] H R:=by
 have hfl:=hf.len
 obtain ⟨gL1,gL2,gI1,gI2,gB1,gB2,gD⟩:=id h.ok
 refine fn122 ?_
 simp only [sh122,Ye,zeroFile,zt,za]
 refine (Lo.start _ H:Lx H H []).flts fun p H1 e1 l1=>?_
 refine reached29 (h.ext l1.ext0) (hn.ext l1.ext0) hlen hin fun H2 rv e2 n2=>?_
 have l2:Lx H H2 [yb p 14 [],.sl 4 1 rv (bN (fun i=>decide (Rch ns i)) (I.toNat+1))]:=l1.new e2 n2
 refine zx.mk (fun t H'=>∃ (i:Nat) (ps:List Int),i≤fs.length∧t=(zm i,())∧ps.length≤i∧(ps=[]↔∀ y∈fs.take i,¬ yx l ns y)∧Lx H H' [yb p 14 ps,.sl 4 1 rv (bN (fun i=>decide (Rch ns i)) (I.toNat+1))])
   (fun t _=>mi t.1 fun i=>(fs.length - i).toNat) ⟨0,[],by omega,rfl,by simp,by simp,l2⟩ ?_
 rintro _ H3 ⟨i,ps,hi,rfl,hpl,hps,l3⟩
 rw [hf.row.lenE yz,za,List.length_map,zr,za,zf]
 refine ⟨fun hlt=>?_,fun hge=>?_⟩
 · have hil:i<fs.length:=by omega
   have hei:(fs.map flC)[i]?=some (flC fs[i]):=by rw [List.getElem?_map,List.getElem?_eq_getElem hil]; rfl
   have htk:fs.take (i+1)=fs.take i++[fs[i]]:=List.take_succ_eq_append_getElem hil
   have hmem:fs[i]∈fs:=List.getElem_mem hil
   generalize fs[i]=x at hei htk hmem
   have hst:=ids_step (y:=x) (ys:=[]) hps
   rw [← htk] at hst
   have hxI:=hI x hmem
   have hnx:=hnd x hmem
   obtain ⟨b,o,ha,hcl,hrow⟩:=(hf.ext l3.ext0).row.el hei
   have hr:=hrow 0 18 (by omega)
   rw [Nat.add_zero,ext_all (c:=flC x) (n:=18) rfl] at hr
   have f0:(flC x)[0]?=some (zm x.i):=rfl
   have f1:(flC x)[1]?=some (.int .u16 (x.f 0)):=rfl
   have f2:(flC x)[2]?=some (.int .u16 (x.f 1)):=rfl
   rw [ha,za,hr,za]
   refine l3.boxA fun b1 H4 _ l4=>?_
   refine l4.stAll (i:=2) (vs:=flC x) rfl rfl rfl (hf.okC hmem) fun H5 l5=>?_
   have l5:Lx H H5 [yb p 14 ps,.sl 4 1 rv (bN (fun i=>decide (Rch ns i)) (I.toNat+1)),.box b1 (flC x) 177]:=l5
   simp only [zc,zi,Nat.zero_add,Nat.add_zero,Nat.reduceAdd,za]
   have keep:∀ {H':Hp} {l':List Ob},¬ yx l ns x→Lx H H' ([yb p 14 ps,.sl 4 1 rv (bN (fun i=>decide (Rch ns i)) (I.toNat+1))]++l')→Pu (zo (some (.int .i64)) .add (zm i) (.int .i64 1)) fun x14=>(fun (t:Tup 1) H'=>(∃ (i:Nat) (ps:List Int),i≤fs.length∧t=(zm i,())∧ps.length≤i∧(ps=[]↔∀ y∈fs.take i,¬ yx l ns y)∧Lx H H' [yb p 14 ps,.sl 4 1 rv (bN (fun i=>decide (Rch ns i)) (I.toNat+1))])∧mi t.1 (fun i=>(fs.length - i).toNat)<mi (zm i) (fun i=>(fs.length - i).toNat)) (x14,()) H':=by
     intro H' l' hb l6
     rw [zk,za,zK i,zv (v:=i+1) (by omega)]
     refine ⟨⟨i+1,ps,by omega,rfl,by omega,?_,l6.take⟩,by simp only [zC]; omega⟩
     rw [← hst]
     exact ⟨fun e=>⟨e,hb⟩,fun e=>e.1⟩
   have more:∀ {H':Hp} {l':List Ob} {n:Int},yx l ns x→Lx H H' ([yb p 14 ps,.sl 4 1 rv (bN (fun i=>decide (Rch ns i)) (I.toNat+1))]++l')→Fc Tryz.prog 149 #[z6 p,zm n] H' fun _ H''=>Pu (zo (some (.int .i64)) .add (zm i) (.int .i64 1)) fun x14=>(fun (t:Tup 1) H'=>(∃ (i:Nat) (ps:List Int),i≤fs.length∧t=(zm i,())∧ps.length≤i∧(ps=[]↔∀ y∈fs.take i,¬ yx l ns y)∧Lx H H' [yb p 14 ps,.sl 4 1 rv (bN (fun i=>decide (Rch ns i)) (I.toNat+1))])∧mi t.1 (fun i=>(fs.length - i).toNat)<mi (zm i) (fun i=>(fs.length - i).toNat)) (x14,()) H'':=by
     intro H' l' n hb l6
     obtain ⟨O,ho,st⟩:=(l6.take).call (i:=0) rfl
     refine flt_add ho (by omega) fun H11 O11 ps' hne hle s11 h11=>?_
     have l11:=st H11 _ O11 s11 h11
     rw [zk,za,zK i,zv (v:=i+1) (by omega)]
     refine ⟨⟨i+1,ps',by omega,rfl,by omega,?_,l11⟩,by simp only [zC]; omega⟩
     rw [← hst]
     exact ⟨fun e=>absurd e hne,fun e=>absurd hb e.2⟩
   refine zS.mk (fun t H'=>H'=H5∧t.1=.bool (decide (¬ isTree x))) ?_ ?_
   · rintro ⟨t,u⟩ H6 ⟨rfl,ht⟩
     simp only at ht
     subst ht
     rw [zf]
     refine ⟨fun hb=>keep (l':=[_]) (fun e=>hb e.1) l5,fun hb=>?_⟩
     have hb:=Classical.not_not.1 hb
     have h32:=hnx.2 hb.1 hb.2
     rw [l5.ldAll (i:=2) (n:=18) rfl rfl,za]
     refine slots29 (h.ext l5.ext0) ((hf.sub x hmem).ext l5.ext0) (hf.few x hmem) (hf.ok x hmem) fun H7 sv e7 n7=>?_
     have l7:=l5.new e7 n7
     have l7:Lx H H7 [yb p 14 ps,.sl 4 1 rv (bN (fun i=>decide (Rch ns i)) (I.toNat+1)),.box b1 (flC x) 177,.sl 61 2 sv ((ZE l x (x.f 2 / 16)).map ZP)]:=l7
     have hgt:((ZE l x (x.f 2 / 16)).map ZP)[1]?=some (ZP (enS l x 1)):=by rw [List.getElem?_map,Yw l x (by omega)]; rfl
     have hl16:(enS l x 1).1<65536:=slotE_lt (rawS_is h.is x 1)
     obtain ⟨b2,o2,ha2,hcl2,_⟩:=(l7.sv (i:=3) rfl).sr.el hgt
     have c0:=hcl2 0 (by omega)
     rw [Nat.add_zero,show (ZP (enS l x 1))[0]?=some (.int .u16 (enS l x 1).1) from rfl] at c0
     rw [show ze (.tuple #[sv,.bool (decide (YC l x (x.f 2 / 16)))]) 0=some sv from rfl,za,show ze (.tuple #[sv,.bool (decide (YC l x (x.f 2 / 16)))]) 1=some (.bool (decide (YC l x (x.f 2 / 16)))) from rfl,za]
     rw [l7.ld (i:=2) rfl,f0,za]
     refine parent29 (hn.ext l7.ext0) hlen ?_
     have hpt:=parP_take ns x.i ns.length (Nat.le_refl _)
     rw [List.take_length] at hpt
     rw [show ze (.tuple #[zm (parP ns x.i).1,zm (parP ns x.i).2]) 0=some (zm (parP ns x.i).1) from rfl,za,show ze (.tuple #[zm (parP ns x.i).1,zm (parP ns x.i).2]) 1=some (zm (parP ns x.i).2) from rfl,za,l7.ld (i:=2) rfl,f0,za,zy,za,zf]
     refine ⟨fun hx1=>?_,fun hx1=>?_⟩
     · have hx1:x.i=1:=by omega
       have hbt:yx l ns x↔(parP ns x.i).2≠0∨(enS l x 1).1≠1:=by
         unfold yx; rw [if_pos hx1,hx1]; exact ⟨fun e=>e.2,fun e=>⟨hb,e⟩⟩
       refine zS.mk (fun t H'=>H'=H7∧t.1=.bool (decide (yx l ns x))) ?_ ?_
       · rintro ⟨t,u⟩ H8 ⟨rfl,ht⟩
         simp only at ht
         subst ht
         rw [zf]
         exact ⟨fun hbd=>more (l':=[_,_]) (n:=1) hbd l7,fun hbd=>keep (l':=[_,_]) hbd l7⟩
       · rw [zw,za,zf]
         refine ⟨fun h0=>⟨rfl,yf (hbt.2 (.inl (by omega)))⟩,fun h0=>?_⟩
         have ha1:zh (some (none,2)) sv (.int .i64 1)=some (.pointer (some ⟨b2,o2,none⟩)):=ha2 .i64
         rw [ha1,za,zi,za,Nat.add_zero,c0,za,zw,za]
         refine ⟨rfl,Yh ⟨fun e=>hbt.2 (.inr (by omega)),fun e=>?_⟩⟩
         rcases hbt.1 e with e | e <;> omega
     · have hx1:x.i≠1:=by omega
       have hbt:yx l ns x↔(parP ns x.i).2≠1∨(enS l x 1).1≠(parP ns x.i).1∨¬ Rch ns x.i:=by
         unfold yx; rw [if_neg hx1]; exact ⟨fun e=>e.2,fun e=>⟨hb,e⟩⟩
       refine zS.mk (fun t H'=>H'=H7∧t.1=.bool (decide (yx l ns x))) ?_ ?_
       · rintro ⟨t,u⟩ H8 ⟨rfl,ht⟩
         simp only at ht
         subst ht
         rw [zf]
         refine ⟨fun hbd=>?_,fun hbd=>keep (l':=[_,_]) hbd l7⟩
         rw [l7.ld (i:=2) rfl,f0,za]
         exact more (l':=[_,_]) (n:=x.i) hbd l7
       · rw [zw,za,zf]
         refine ⟨fun h0=>⟨rfl,yf (hbt.2 (.inl (by omega)))⟩,fun h0=>?_⟩
         have ha1:zh (some (none,2)) sv (.int .i64 1)=some (.pointer (some ⟨b2,o2,none⟩)):=ha2 .i64
         rw [ha1,za,zi,za,Nat.add_zero,c0,za,zE,za,zv (by omega),zw,za,zf]
         refine ⟨fun h3=>⟨rfl,yf (hbt.2 (.inr (.inl (by omega))))⟩,fun h3=>?_⟩
         have hgr:=bN_get (c:=fun i=>decide (Rch ns i)) (n:=I.toNat+1) (b:=x.i) (by omega)
         obtain ⟨b4,o4,ha4,hcl4,_⟩:=(l7.sv (i:=1) rfl).sr.el hgr
         have d0:=hcl4 0 (by omega)
         rw [Nat.add_zero,show (bC (decide (Rch ns x.i)))[0]?=some (.bool (decide (Rch ns x.i))) from rfl] at d0
         rw [za,ha4,za,d0,za,zT,za]
         refine ⟨rfl,?_⟩
         show Value.bool (!decide (Rch ns x.i))=_
         congr 1
         rw [Bool.eq_iff_iff,decide_eq_true_eq,hbt]
         constructor
         · intro e; exact .inr (.inr (by simpa using e))
         · rintro (e | e | e)
           · omega
           · omega
           · simpa using e
   · rw [l5.ld (i:=2) rfl,f1,za,zw,za,zf]
     refine ⟨fun hk=>⟨rfl,yf fun e=>hk (by have:=e.1; omega)⟩,fun hk=>?_⟩
     rw [l5.ld (i:=2) rfl,f2,za,zy,za]
     refine ⟨rfl,Yh ⟨fun e e2=>e2.2 (by omega),fun e=>?_⟩⟩
     by_cases e2:x.f 1=0
     · omega
     · exact absurd ⟨by omega,e2⟩ e
 · have ei:i=fs.length:=by omega
   subst ei
   rw [List.take_length] at hps
   obtain ⟨s',hg,l15⟩:=l3.fltEnd (i:=0) rfl
   simp only [zc,zi,Nat.zero_add,Nat.add_zero,Nat.reduceAdd,za]
   rw [zq hg]
   show Pu (some s') _
   rw [za]
   exact k H3 s' ps l3.ext0 (l15.outN (i:=0) rfl) hps
set_option maxHeartbeats 1000000 in
theorem links29 (hf:Fls H s fs) (hn:Sr 2 H nv (ns.map nmC)) (hlen:ns.length<1099511627776) (k:∀ H' s' ps,Ext H H'→New H H' (.sl 254 2 s' (ps.map (fC 15)))→(ps=[]↔∀ x∈fs,¬ x.f 1≠linksP fs ns x)→R s' H'):Fc Tryz.prog 123 #[z6 d,s,nv] H R:=by
 have hfl:=hf.len
 refine fn123 ?_
 simp only [sh123,Ye,zeroFile,zt,za]
 refine (Lo.start _ H:Lx H H []).flts fun p H1 e1 l1=>?_
 have l1:Lx H H1 [yb p 15 []]:=l1
 refine zx.mk (fun t H'=>∃ (i:Nat) (ps:List Int),i≤fs.length∧t=(zm i,())∧ps.length≤i∧(ps=[]↔∀ y∈fs.take i,¬ y.f 1≠linksP fs ns y)∧Lx H H' [yb p 15 ps])
   (fun t _=>mi t.1 fun i=>(fs.length - i).toNat) ⟨0,[],by omega,rfl,by simp,by simp,l1⟩ ?_
 rintro _ H3 ⟨i,ps,hi,rfl,hpl,hps,l3⟩
 rw [hf.row.lenE yz,za,List.length_map,zr,za,zf]
 refine ⟨fun hlt=>?_,fun hge=>?_⟩
 · have hil:i<fs.length:=by omega
   have hei:(fs.map flC)[i]?=some (flC fs[i]):=by rw [List.getElem?_map,List.getElem?_eq_getElem hil]; rfl
   have htk:fs.take (i+1)=fs.take i++[fs[i]]:=List.take_succ_eq_append_getElem hil
   have hmem:fs[i]∈fs:=List.getElem_mem hil
   generalize fs[i]=x at hei htk hmem
   have hst:=ids_step (y:=x) (ys:=[]) hps
   rw [← htk] at hst
   obtain ⟨b,o,ha,hcl,hrow⟩:=(hf.ext l3.ext0).row.el hei
   have hr:=hrow 0 18 (by omega)
   rw [Nat.add_zero,ext_all (c:=flC x) (n:=18) rfl] at hr
   have f0:(flC x)[0]?=some (zm x.i):=rfl
   have f1:(flC x)[1]?=some (.int .u16 (x.f 0)):=rfl
   have f2:(flC x)[2]?=some (.int .u16 (x.f 1)):=rfl
   have hok:=(hf.ok x hmem) 1 (by omega)
   simp only [fw,Nat.reduceLT,if_true,Nat.reducePow] at hok
   rw [ha,za,hr,za]
   refine l3.boxA fun b1 H4 _ l4=>?_
   refine l4.stAll (i:=1) (vs:=flC x) rfl rfl rfl (hf.okC hmem) fun H5 l5=>?_
   have l5:Lx H H5 [yb p 15 ps,.box b1 (flC x) 177]:=l5
   simp only [zc,zi,Nat.zero_add,Nat.add_zero,Nat.reduceAdd,za]
   rw [l5.ld (i:=1) rfl,f0,za]
   refine parent29 (hn.ext l5.ext0) hlen ?_
   have hpt:=parP_take ns x.i ns.length (Nat.le_refl _)
   rw [List.take_length] at hpt
   rw [show ze (.tuple #[zm (parP ns x.i).1,zm (parP ns x.i).2]) 0=some (zm (parP ns x.i).1) from rfl,za,show ze (.tuple #[zm (parP ns x.i).1,zm (parP ns x.i).2]) 1=some (zm (parP ns x.i).2) from rfl,za]
   refine zS.mk (fun t H'=>t.1=zm (linksP fs ns x)∧Lx H H' [yb p 15 ps,.box b1 (flC x) 177]) ?_ ?_
   · rintro ⟨t,u⟩ H6 ⟨ht,l6⟩
     simp only at ht
     subst ht
     rw [l6.ld (i:=1) rfl,f2,za,zE,za,zv (by omega),zw,za,zf]
     refine ⟨fun hb=>?_,fun hb=>?_⟩
     · rw [l6.ld (i:=1) rfl,f0,za]
       obtain ⟨O,ho,st⟩:=(l6.takeN 1).call (i:=0) rfl
       refine flt_add ho (by omega) fun H11 O11 ps' hne hle s11 h11=>?_
       have l11:=st H11 _ O11 s11 h11
       rw [zk,za,zK,zv (by omega)]
       refine ⟨⟨i+1,ps',by omega,rfl,by omega,?_,l11⟩,by simp only [zC]; omega⟩
       rw [← hst]
       exact ⟨fun e=>absurd e hne,fun e=>absurd (by omega) e.2⟩
     · rw [zk,za,zK,zv (by omega)]
       refine ⟨⟨i+1,ps,by omega,rfl,by omega,?_,l6.takeN 1⟩,by simp only [zC]; omega⟩
       rw [← hst]
       exact ⟨fun e=>⟨e,by omega⟩,fun e=>e.1⟩
   · refine zS.mk (fun t H'=>H'=H5∧t.1=.bool (decide (isTree x))) ?_ ?_
     · rintro ⟨t,u⟩ H6 ⟨rfl,ht⟩
       simp only at ht
       subst ht
       rw [zf]
       refine ⟨fun hb=>?_,fun hb=>?_⟩
       · have hlk:linksP fs ns x=2+subsP fs x.i ns:=by unfold linksP; rw [if_pos hb]
         refine zx.mk (fun t H'=>H'=H6∧∃ j:Nat,j≤ns.length∧t=(zm ((2+subsP fs x.i (ns.take j):Nat):Int),zm j,())) (fun t _=>mi t.2.1 fun j=>(ns.length - j).toNat) ⟨rfl,0,by omega,rfl⟩ ?_
         rintro _ H7 ⟨rfl,j,hj,rfl⟩
         have hn7:=hn.ext l5.ext0
         rw [hn7.lenE undNms,za,List.length_map,zr,za,zf]
         refine ⟨fun hlt2=>?_,fun hge2=>?_⟩
         · have hjl:j<ns.length:=by omega
           have hej:(ns.map nmC)[j]?=some (nmC ns[j]):=by rw [List.getElem?_map,List.getElem?_eq_getElem hjl]; rfl
           have htj:ns.take (j+1)=ns.take j++[ns[j]]:=List.take_succ_eq_append_getElem hjl
           generalize ns[j]=y at hej htj
           have hsn:=subsP_snoc fs x.i (ns.take j) y
           rw [← htj] at hsn
           have hsl:=subsP_le fs x.i (ns.take j)
           rw [List.length_take] at hsl
           obtain ⟨b2,o2,ha2,hcl2,_⟩:=hn7.el hej
           have c0:=hcl2 0 (by omega)
           rw [Nat.add_zero,show (nmC y)[0]?=some (zm y.1) from rfl] at c0
           have c1:=hcl2 1 (by omega)
           rw [show (nmC y)[1]?=some (zm y.2) from rfl] at c1
           refine zS.mk (fun t H'=>H'=H7∧t.1=.bool (decide (y.1=x.i∧kindP fs y.2=2))) ?_ ?_
           · rintro ⟨t,u⟩ H8 ⟨rfl,ht⟩
             simp only at ht
             subst ht
             rw [zf]
             refine ⟨fun hc=>?_,fun hc=>?_⟩
             · rw [if_pos hc] at hsn
               rw [zk,za,zK,zv (by omega),zk,za,zK,zv (by omega)]
               refine ⟨⟨rfl,j+1,by omega,?_⟩,by simp only [zC]; omega⟩
               rw [hsn]; rfl
             · rw [if_neg hc] at hsn
               rw [zk,za,zK j,zv (v:=j+1) (by omega)]
               refine ⟨⟨rfl,j+1,by omega,?_⟩,by simp only [zC]; omega⟩
               rw [hsn]; rfl
           · rw [ha2,za,zi,za,Nat.add_zero,c0,za,l5.ld (i:=1) rfl,f0,za,zy,za,zf]
             refine ⟨fun he=>?_,fun he=>⟨rfl,YK fun e=>he (by omega)⟩⟩
             rw [za,zi,za,c1,za]
             refine kind29 (hf.ext l5.ext0) ?_
             rw [zy,za]
             exact ⟨rfl,Yh (by omega)⟩
         · have ej:j=ns.length:=by omega
           subst ej
           rw [List.take_length]
           exact ⟨by rw [hlk],l5⟩
       · refine ⟨?_,l5⟩
         unfold linksP
         rw [if_neg hb]
     · rw [l5.ld (i:=1) rfl,f1,za,zy,za,zf]
       refine ⟨fun hk=>?_,fun hk=>⟨rfl,YK fun e=>hk (by have:=e.1; omega)⟩⟩
       rw [l5.ld (i:=1) rfl,f2,za,zw,za]
       refine ⟨rfl,Yh ⟨fun e=>⟨by omega,by omega⟩,fun e=>?_⟩⟩
       have:=e.2; omega
 · have ei:i=fs.length:=by omega
   subst ei
   rw [List.take_length] at hps
   obtain ⟨s',hg,l15⟩:=l3.fltEnd (i:=0) rfl
   simp only [zc,zi,Nat.zero_add,Nat.add_zero,Nat.reduceAdd,za]
   rw [zq hg]
   show Pu (some s') _
   rw [za]
   exact k H3 s' ps l3.ext0 (l15.outN (i:=0) rfl) hps
end
section
variable {P:Program} {S:Nat→Prop} {H0 H:Hp} {l:List Ob}
theorem Lo.appOX {e:ZT} {ty T n by':Nat} {K:Value→Hp→Prop} (h:Lo S H0 H l) (he:zI P ty=some e) (hf:e.type=T∧e.size=n∧e.zero.size=n∧e.bytes=by') {i:Nat} {s v:Value} {c:Array Value} {vs:List (Array Value)} (hi:l[i]?=some (.sl T n s vs)) (hv:v.cells=c) (hn:0<n∧n≤2 ^ 24) (hby:0<by') (hc:c.size=n) (hok:zF c)
   (hlim:(vs.length+1)*by'≤2 ^ 47) (k:∀ s' H',Lo S H0 H' (l.set i (.sl T n s' (vs++[c])))→K s' H'):Pu (zI P ty) fun x=>Pu (zH (some x) 1 [(0,v)]) fun cs=>NewS x.type 1 cs H fun x2 H2=>ForX true H2 fun H3=>Y2 (zI P ty) s x2 H3 K:=by
 obtain ⟨f1,f2,f3,f4⟩:=hf
 rw [he,za,newS_one (by omega) (by omega) (by rw [hv,hc,f2]),za,hv]
 refine newS_i fun b H2 hb e2 hs2 g=>?_
 rw [zl]
 intro H3 e3
 exact ((h.ext e2).ext e3).app hi f1 f2 f3 (by omega) ((Sv.single g hc).ext e3) (by simpa using hok) (by rw [f4]; simpa using hlim) k
end
theorem New.subs2 {H H':Hp} {T n T' n':Nat} {s:Value} {vs:List (Array Value)} (h:New H H' (.sl T n s vs)):New H H' (.subs [⟨.slice none 0 0,T',n',[]⟩,⟨s,T,n,vs⟩]):=by
 obtain ⟨O,ho,hn⟩:=h
 refine ⟨O,⟨fun x hx=>?_,ho.2⟩,hn⟩
 rcases List.mem_cons.1 hx with e | e
 · rw [e]; exact ⟨Sv.nil T' n' H',fun b hb=>by cases hb⟩
 · rw [List.mem_singleton.1 e]; exact ho.1
theorem New.subs2' {H H':Hp} {T n T' n':Nat} {s:Value} {vs:List (Array Value)} (h:New H H' (.sl T n s vs)):New H H' (.subs [⟨s,T,n,vs⟩,⟨.slice none 0 0,T',n',[]⟩]):=by
 obtain ⟨O,ho,hn⟩:=h
 refine ⟨O,⟨fun x hx=>?_,ho.2⟩,hn⟩
 rcases List.mem_cons.1 hx with e | e
 · rw [e]; exact ho.1
 · rw [List.mem_singleton.1 e]; exact ⟨Sv.nil T' n' H',fun b hb=>by cases hb⟩
theorem mlt {n j:Nat} (h:j<n):((n:Int) - ((j+1:Nat):Int)).toNat<((n:Int) - (j:Int)).toNat:=by omega
def bitP (B L I:Int) (fs:List Fl) (a:Nat):Prop:=(a:Int)<(zp B L I).dataAt∨((a:Int)<B∧0<ownC (z8 fs) a)
def bitOk (B L I:Int) (l:List (Int × Blk)) (fs:List Fl) (a:Nat):Prop:=bitB (zN l ((zp B L I).bitsAt+((a / 8192:Nat):Int))) (a % 8192)=decide (bitP B L I fs a)
noncomputable def dataP (l:List (Int × Blk)) (x:Fl) (n:Nat):List (Int × Blk):=((x.sp.take n).filter fun y=>decide (0≤y.1)).map fun y=>(y.1,zN l y.2)
theorem dataP_len (l:List (Int × Blk)) (x:Fl) (n:Nat):(dataP l x n).length≤n:=by
 unfold dataP
 rw [List.length_map]
 refine Nat.le_trans (List.length_filter_le _ _) ?_
 rw [List.length_take]; omega
noncomputable def itP (l:List (Int × Blk)) (x:Fl):Itm:=⟨x.i,x.f 0,x.f 1,x.f 2,x.f 3,if x.f 0=2 then [] else dataP l x x.sp.length,if x.f 0=2 then ZE l x (x.f 2 / 16) else []⟩
theorem zeroItm:zD Tryz.prog 40=some (.agg (yl ⟨0,0,0,0,0,[],[]⟩ (.slice none 0 0) (.slice none 0 0))):=by kernel_rfl
theorem buildItm (a b c d e:Int):zu Tryz.prog 40 [(0,zm a),(1,.int .u16 b),(2,zm c),(3,zm d),(4,zm e)]=some (.agg #[zm a,.int .u16 b,zm c,zm d,zm e,.slice none 0 0,.slice none 0 0]):=by kernel_rfl
theorem itmC_ok {t:Itm} {b b':Option Addr} {n n' c c':Nat}:zF (yl t (.slice b n c) (.slice b' n' c')):=by unfold zF; rw [← Array.all_toList]; rfl
section
variable {H:Hp} {R:Value→Hp→Prop} {d:Nat} {dv:Value} {B L I:Int} {l:List (Int × Blk)} {s nv:Value} {fs:List Fl} {ns:List Nm}
set_option maxRecDepth 100000 in
set_option maxHeartbeats 1000000 in
theorem wrongBits29 (h:Lk H d dv B L I l) (hf:Fls H s fs) (hd:∀ y∈z8 fs,yP B L I y) (k:∀ H' s' ps,Ext H H'→New H H' (.sl 254 2 s' (ps.map (fC 11)))→(ps=[]↔∀ a:Nat,(a:Int)<8192*(zp B L I).bitsBlocks→bitOk B L I l fs a)→R s' H'):Fc Tryz.prog 119 #[z6 d,s] H R:=by
 obtain ⟨gL1,gL2,gI1,gI2,gB1,gB2,gD⟩:=id h.ok
 obtain ⟨Bn,eB⟩:∃ Bn:Nat,B=Bn:=⟨B.toNat,by omega⟩
 have eBt:B.toNat=Bn:=by omega
 have hBB:(zp B L I).bitsBlocks=(B+8191) / 8192:=rfl
 have hDA:(zp B L I).dataAt=1+L+(I+16) / 16+(B+8191) / 8192:=rfl
 have hBA:(zp B L I).bitsAt=1+L+(I+16) / 16:=rfl
 obtain ⟨Kn,eK⟩:∃ Kn:Nat,(zp B L I).bitsBlocks=Kn:=⟨(zp B L I).bitsBlocks.toNat,by omega⟩
 have hKn:Kn≤129:=by omega
 refine fn119 ?_
 simp only [sh119,zt,ya,zc,zi,Nat.zero_add,Nat.add_zero,Nat.reduceAdd,za]
 refine owned29 h hf hd fun H1 ov e1 n1=>?_
 rw [eBt] at n1
 have l1:Lx H H1 [.sl 3 1 ov (cN (ownC (z8 fs)) Bn)]:=((Lo.start _ H:Lx H H []).new e1 n1)
 have l1:=l1.nilS 254 2
 refine zx.mk (fun t H'=>∃ (i:Nat) (v:Value) (ps:List Int),i≤Kn∧t=(v,zm i,())∧ps.length≤8192*i∧(ps=[]↔∀ a:Nat,a<8192*i→bitOk B L I l fs a)∧Lx H H' [.sl 3 1 ov (cN (ownC (z8 fs)) Bn),.sl 254 2 v (ps.map (fC 11))])
   (fun t _=>mi t.2.1 fun i=>(Kn - i).toNat) ⟨0,.slice none 0 0,[],by omega,rfl,by simp,by simp,l1⟩ ?_
 rintro _ H2 ⟨i,v,ps,hi,rfl,hpl,hps,l2⟩
 have h2:=h.ext l2.ext0
 rw [zq h2.top,lkC9,za,eK,zr,za,zf]
 refine ⟨fun hlt=>?_,fun hge=>?_⟩
 · rw [zq h2.top,lkC8,za,zk,za,zg (by omega) (by omega)]
   refine lk_at h2 fun H3 e3=>?_
   have hbl:=Zw h.is ((zp B L I).bitsAt+(i:Int))
   have hbo:∀ j,j<8192→(bitOk B L I l fs (8192*i+j)↔bitB (zN l ((zp B L I).bitsAt+(i:Int))) j=decide (bitP B L I fs (8192*i+j))):=fun j hj=>by
     unfold bitOk
     rw [show (8192*i+j) / 8192=i by omega,show (8192*i+j) % 8192=j by omega]
   generalize zN l ((zp B L I).bitsAt+(i:Int))=c at hbl hbo
   refine (l2.ext e3).boxA fun b2 H4 _ l4=>?_
   refine l4.stAll (i:=2) rfl zJ hbl.size hbl.ok fun H5 l5=>?_
   refine zx.mk (fun t H'=>∃ (j:Nat) (v:Value) (ps:List Int),j≤8192∧t=(v,zm j,())∧ps.length≤8192*i+j∧(ps=[]↔∀ a:Nat,a<8192*i+j→bitOk B L I l fs a)∧Lx H H' [.sl 3 1 ov (cN (ownC (z8 fs)) Bn),.sl 254 2 v (ps.map (fC 11)),.box b2 c 94])
     (fun t _=>mi t.2.1 fun j=>(((8192:Nat):Int) - j).toNat) ⟨0,v,ps,by omega,rfl,by omega,hps,l5⟩ ?_
   rintro _ H6 ⟨j,v,ps,hj,rfl,hpl,hps,l6⟩
   have hst:∀ a,a<8192*i+(j+1)↔a<8192*i+j∨a=8192*i+j:=fun a=>by omega
   rw [zr,za,zf]
   refine ⟨fun hlt2=>?_,fun hge2=>?_⟩
   · rw [zX,za,zg (by omega) (by omega),zk,za,zg (by omega) (by omega),show (8192*(i:Int)+(j:Int))=((8192*i+j:Nat):Int) by omega]
     have hbo:=hbo j (by omega)
     have hpd:bitP B L I fs (8192*i+j)↔((8192*i+j:Nat):Int)<(zp B L I).dataAt∨(((8192*i+j:Nat):Int)<B∧0<ownC (z8 fs) (8192*i+j)):=Iff.rfl
     generalize hat:8192*i+j=at' at hbo hpd hst hpl hps
     have hjn:j<8192:=by omega
     refine zS.mk (fun t H'=>H'=H6∧t.1=.bool (decide (bitP B L I fs at'))) ?_ ?_
     · rintro ⟨t,u⟩ H7 ⟨rfl,ht⟩
       simp only at ht
       subst ht
       rw [l6.ldAll (i:=2) (n:=1024) rfl hbl.size,za]
       refine has_ok hbl (by omega) fun H8 e8=>?_
       have l8:=l6.ext e8
       rw [binE_neb,za,Zz]
       refine ⟨fun hb=>?_,fun hb=>?_⟩
       · have hb:¬ bitOk B L I l fs at':=fun e=>by rw [hbo.1 e] at hb; simp at hb
         rw [buildFlt,za]
         refine l8.appO elFlt eFlt_f (i:=1) rfl (by rfl) (by omega) (by omega) rfl (fC_ok _ _) (by rw [List.length_map]; omega) fun v3 H9 l9=>?_
         rw [zk,za,zK,zv (by omega)]
         refine ⟨⟨j+1,v3,ps++[(at':Int)],by omega,rfl,by rw [List.length_append]; simp only [List.length_cons,List.length_nil]; omega,⟨fun e=>absurd (List.append_eq_nil_iff.1 e).2 (List.cons_ne_nil _ _),fun hh=>absurd (hh at' ((hst at').2 (.inr rfl))) hb⟩,?_⟩,by simp only [zC]; exact mlt (n:=8192) hjn⟩
         rw [List.map_append]; exact l9
       · have hb:bitOk B L I l fs at':=hbo.2 (by simpa using hb)
         rw [zk,za,zK,zv (by omega)]
         refine ⟨⟨j+1,v,ps,by omega,rfl,by omega,⟨fun e a ha=>?_,fun hh=>hps.2 fun a ha=>hh a ((hst a).2 (.inl ha))⟩,l8⟩,by simp only [zC]; exact mlt (n:=8192) hjn⟩
         rcases (hst a).1 ha with e2 | e2
         · exact hps.1 e a e2
         · rw [e2]; exact hb
     · have h6:=h.ext l6.ext0
       rw [zq h6.top,lkC10,za,zr,za,zf]
       refine ⟨fun h1=>⟨rfl,yf (hpd.2 (.inl h1))⟩,fun h1=>?_⟩
       rw [(l6.sv (i:=0) rfl).lenE undIn,za,cN_len,zr,za,zf]
       refine ⟨fun h3=>?_,fun h3=>⟨rfl,YK fun e=>?_⟩⟩
       · have hg:=cN_get (c:=ownC (z8 fs)) (n:=Bn) (b:=at') (by omega)
         obtain ⟨b3,o3,ha3,hcl3,_⟩:=(l6.sv (i:=0) rfl).sr.el hg
         have hc0:=hcl3 0 (by omega)
         rw [Nat.add_zero] at hc0
         rw [ha3,za,hc0,show (nC (ownC (z8 fs) at'))[0]?=some (zm (ownC (z8 fs) at')) from rfl,za,zL,za]
         refine ⟨rfl,Yh ?_⟩
         rw [hpd]
         omega
       · rcases hpd.1 e with e | e <;> omega
   · have ej:8192*i+j=8192*(i+1):=by omega
     rw [ej] at hps hpl
     rw [zk,za,zK,zv (by omega)]
     exact ⟨⟨i+1,v,ps,by omega,rfl,hpl,hps,l6.takeN 2⟩,by simp only [zC]; omega⟩
 · have ei:i=Kn:=by omega
   subst ei
   refine k H2 v ps l2.ext0 (l2.outN (i:=1) rfl) ?_
   rw [hps,eK]
   exact ⟨fun hh a ha=>hh a (by omega),fun hh a ha=>hh a (by omega)⟩
set_option maxHeartbeats 1000000 in
theorem item29 (h:Lk H d dv B L I l) {x:Fl} (hsub:Sr 2 H x.v (x.sp.map spC)) (hfew:x.sp.length≤66100) (hok:InoOk x.f) (hokc:zF (flC x)) (k:∀ H' v1 v2,Ext H H'→New H H' (.subs [⟨v1,98,1025,(itP l x).data.map zM⟩,⟨v2,61,2,(itP l x).slots.map ZP⟩])→R (.agg (yl (itP l x) v1 v2)) H'):Fc Tryz.prog 81 #[z6 d,.agg (flC x)] H R:=by
 have h1:=hok 1 (by omega)
 have h2:=hok 2 (by omega)
 have h3:=hok 3 (by omega)
 simp only [fw,Nat.reduceLT,if_false,if_true,Nat.reducePow,Nat.lt_irrefl] at h1 h2 h3
 have f0:(flC x)[0]?=some (zm x.i):=rfl
 have f1:(flC x)[1]?=some (.int .u16 (x.f 0)):=rfl
 have f2:(flC x)[2]?=some (.int .u16 (x.f 1)):=rfl
 have f3:(flC x)[3]?=some (.int .u32 (x.f 2)):=rfl
 have f4:(flC x)[4]?=some (.int .u32 (x.f 3)):=rfl
 have f17:(flC x)[17]?=some x.v:=rfl
 refine fn81 ?_
 simp only [sh81,zt,zeroItm,za]
 refine (Lo.start _ H:Lx H H []).boxA fun b1 H1 _ l1=>?_
 refine l1.boxA fun b2 H2 _ l2=>?_
 simp only [zi,Nat.zero_add,Nat.add_zero,Nat.reduceAdd,za]
 rw [l2.ld (i:=0) rfl,f0,za,l2.ld (i:=0) rfl,f1,za,l2.ld (i:=0) rfl,f2,za,zE,za,zv (by omega),l2.ld (i:=0) rfl,f3,za,zE,za,zv (by omega),l2.ld (i:=0) rfl,f4,za,zE,za,zv (by omega),buildItm,za]
 refine l2.boxA fun b3 H3 _ l3=>?_
 refine l3.stAll (i:=2) (vs:=yl (itP l x) (.slice none 0 0) (.slice none 0 0)) rfl rfl rfl itmC_ok fun H4 l4=>?_
 have l4:Lx H H4 [.box b1 (flC x) 177,.box b2 (yl ⟨0,0,0,0,0,[],[]⟩ (.slice none 0 0) (.slice none 0 0)) 40,.box b3 (yl (itP l x) (.slice none 0 0) (.slice none 0 0)) 40]:=l4
 have g1:∀ {v1 v2:Value},(yl (itP l x) v1 v2)[1]?=some (.int .u16 (x.f 0)):=rfl
 have g5:∀ {v1 v2:Value},(yl (itP l x) v1 v2)[5]?=some v1:=rfl
 rw [zi,za,l4.ld (i:=2) rfl,g1,za,zy,za,zf]
 refine ⟨fun hk=>?_,fun hk=>?_⟩
 · have hk:x.f 0=2:=by omega
   have hdt:(itP l x).data=[]:=by unfold itP; simp only [hk,if_true]
   have hsl:(itP l x).slots=ZE l x (x.f 2 / 16):=by unfold itP; simp only [hk,if_true]
   rw [l4.ldAll (i:=0) (n:=18) rfl rfl,za]
   refine slots29 (h.ext l4.ext0) (hsub.ext l4.ext0) hfew hok fun H5 sv e5 n5=>?_
   have l5:=l4.new e5 n5
   rw [show ze (.tuple #[sv,.bool (decide (YC l x (x.f 2 / 16)))]) 0=some sv from rfl,za,show ze (.tuple #[sv,.bool (decide (YC l x (x.f 2 / 16)))]) 1=some (.bool (decide (YC l x (x.f 2 / 16)))) from rfl,za,zi,za]
   have hone:=(l5.sv (i:=3) rfl).one
   obtain ⟨bb,cc,esv⟩:=(l5.sv (i:=3) rfl).len
   refine l5.st (i:=2) (j:=6) (v:=sv) rfl (by exact (by decide:6<7)) hone.2 hone.1 fun H6 l6=>?_
   have l6:Lx H H6 [.box b1 (flC x) 177,.box b2 (yl ⟨0,0,0,0,0,[],[]⟩ (.slice none 0 0) (.slice none 0 0)) 40,.box b3 (yl (itP l x) (.slice none 0 0) sv) 40,.sl 61 2 sv ((ZE l x (x.f 2 / 16)).map ZP)]:=l6
   rw [l6.ldAll (i:=2) (n:=7) rfl rfl,za]
   refine l6.ret (i:=1) rfl rfl rfl (by rw [esv]; exact itmC_ok) fun H' l'=>?_
   refine k H' (.slice none 0 0) sv l'.ext0 ?_
   rw [hdt,hsl]
   exact (l'.outN (i:=3) rfl).subs2
 · have hk:x.f 0≠2:=by omega
   have hdt:(itP l x).data=dataP l x x.sp.length:=by unfold itP; simp only [hk,if_false]
   have hsl:(itP l x).slots=[]:=by unfold itP; simp only [hk,if_false]
   have l4:=l4.nilS 98 1025
   refine zx.mk (fun t H'=>∃ (i:Nat) (v1:Value),i≤x.sp.length∧t=(zm i,())∧Lx H H' [.box b1 (flC x) 177,.box b2 (yl ⟨0,0,0,0,0,[],[]⟩ (.slice none 0 0) (.slice none 0 0)) 40,.box b3 (yl (itP l x) v1 (.slice none 0 0)) 40,.sl 98 1025 v1 ((dataP l x i).map zM)])
     (fun t _=>mi t.1 fun i=>(x.sp.length - i).toNat) ⟨0,.slice none 0 0,by omega,rfl,l4⟩ ?_
   rintro _ H5 ⟨i,v1,hi,rfl,l5⟩
   rw [l5.ld (i:=0) rfl,f17,za,hsub.lenE YM,za,List.length_map,zr,za,zf]
   refine ⟨fun hlt=>?_,fun hge=>?_⟩
   · have hjl:i<x.sp.length:=by omega
     have hej:(x.sp.map spC)[i]?=some (spC x.sp[i]):=by rw [List.getElem?_map,List.getElem?_eq_getElem hjl]; rfl
     have htj:x.sp.take (i+1)=x.sp.take i++[x.sp[i]]:=List.take_succ_eq_append_getElem hjl
     generalize x.sp[i]=y at hej htj
     have hds:dataP l x (i+1)=dataP l x i++(if 0≤y.1 then [(y.1,zN l y.2)] else []):=by
       unfold dataP
       rw [htj,List.filter_append,List.map_append]
       congr 1
       by_cases e:0≤y.1 <;> simp [e]
     have hdl:=dataP_len l x i
     obtain ⟨b6,o6,ha6,hcl6,_⟩:=(hsub.ext l5.ext0).el hej
     have c0:=hcl6 0 (by omega)
     rw [Nat.add_zero,show (spC y)[0]?=some (zm y.1) from rfl] at c0
     have c1:=hcl6 1 (by omega)
     rw [show (spC y)[1]?=some (zm y.2) from rfl] at c1
     rw [za,ha6,za,zi,za,Nat.add_zero,c0,za,zQ,za,zf]
     refine ⟨fun hp=>?_,fun hp=>?_⟩
     · rw [if_pos hp] at hds
       have hbl:=Zw h.is y.2
       rw [zi,za,l5.ld (i:=2) rfl,g5,za,za,ha6,za,zi,za,Nat.add_zero,c0,za,za,ha6,za,zi,za,c1,za]
       refine ⟨.agg (zN l y.2),fun H'' e''=>lk_at (h.ext (l5.ext0.trans e'')) fun H3 e3=>⟨rfl,e3⟩,?_⟩
       rw [build_held hbl,za,zl]
       intro H9 e9
       refine (l5.ext e9).appOX elHeld eHeld_f (i:=3) (c:=zM (y.1,zN l y.2)) rfl rfl (by omega) (by omega) (ZA hbl) (heldC_ok hbl) (by rw [List.length_map]; omega) fun s' H12 l12=>?_
       rw [za,zl]
       intro H13 e13
       have l13:=l12.ext e13
       have hone:=(l13.sv (i:=3) rfl).one
       refine l13.st (i:=2) (j:=5) (v:=s') rfl (by exact (by decide:5<7)) hone.2 hone.1 fun H14 l14=>?_
       rw [zl]
       intro H15 e15
       rw [zk,za,zK,zv (by omega)]
       refine ⟨⟨i+1,s',by omega,rfl,?_⟩,by simp only [zC]; omega⟩
       rw [hds,List.map_append]
       exact l14.ext e15
     · rw [if_neg hp,List.append_nil] at hds
       rw [zk,za,zK,zv (by omega)]
       refine ⟨⟨i+1,v1,by omega,rfl,?_⟩,by simp only [zC]; omega⟩
       rw [hds]; exact l5
   · have ei:i=x.sp.length:=by omega
     subst ei
     obtain ⟨bb,cc,esv⟩:=(l5.sv (i:=3) rfl).len
     rw [l5.ldAll (i:=2) (n:=7) rfl rfl,za]
     refine l5.ret (i:=1) rfl rfl rfl (by rw [esv]; exact itmC_ok) fun H' l'=>?_
     refine k H' v1 (.slice none 0 0) l'.ext0 ?_
     rw [hdt,hsl]
     exact (l'.outN (i:=3) rfl).subs2'
end
structure Sound (B L I:Int) (l:List (Int × Blk)) (fs:List Fl):Prop where
 nodes:NodesOk B L I l
 ptr:∀ y∈z8 fs,yP B L I y
 twice:∀ b:Nat,(b:Int)<B→ownC (z8 fs) b≤1
 alone:∀ kd∈([7,8,9,10]:List Int),∀ x∈fs,¬ yB l kd x
 bits:∀ a:Nat,(a:Int)<8192*(zp B L I).bitsBlocks→bitOk B L I l fs a
 hole:∀ x∈fs,¬ yB l 12 x
 slots:∀ x∈fs,¬ (x.f 0=2∧Z3 l fs x)
 tree:∀ x∈fs,¬ yx l (ym l fs) x
 links:∀ x∈fs,¬ x.f 1≠linksP fs (ym l fs) x
theorem nodes_nd {B L I:Int} {l:List (Int × Blk)} {fs:List Fl} (hI:1≤I) (h:NodesOk B L I l) (hf:FlsOk B L I l I.toNat fs):NdOk fs:=by
 intro x hx
 have hm:=hf.mem hx
 have hb:=h.1 x.i (by omega)
 have e:=(hf.is x hx).1
 have hno:¬ oddP (rawP B L I l x.i) (y9 B L I l x.i):=fun ho=>hb (.inl (.inl ⟨hm.2.2,ho⟩))
 rw [← e] at hno
 unfold oddP at hno
 refine ⟨?_,fun h0 h1=>?_⟩
 · exact Nat.le_of_not_lt fun hh=>hno (.inr (.inr (.inl hh)))
 · exact Nat.le_of_not_lt fun hh=>hno (.inr (.inr (.inr (.inr ⟨h0,.inr ⟨h1,.inl hh⟩⟩))))
theorem names_in {B L I:Int} {l:List (Int × Blk)} {fs:List Fl} (hI:1≤I) (hf:FlsOk B L I l I.toNat fs) (hs:∀ x∈fs,¬ (x.f 0=2∧Z3 l fs x)):∀ y∈ym l fs,(y.1:Int)≤I∧(y.2:Int)≤I:=by
 intro y hy
 obtain ⟨x,hx,hy⟩:=List.mem_flatMap.1 hy
 have hm:=hf.mem hx
 unfold nmX at hy
 split at hy
 · rename_i ht
   have hb:=hs x hx
   have key:∀ n,n≤x.f 2 / 16→y∈nmD l x n→y.1=x.i∧∃ i,i<x.f 2 / 16∧(enS l x i).1≠0∧y.2=(enS l x i).1:=by
     intro n
     induction n with
     | zero=>intro _ h; cases h
     | succ n ih=>
       intro hn h
       rw [nmD_succ] at h
       rcases List.mem_append.1 h with h1 | h1
       · exact ih (by omega) h1
       · split at h1
         · rename_i h2
           rw [List.mem_singleton.1 h1]
           exact ⟨rfl,n,by omega,h2.2,rfl⟩
         · cases h1
   obtain ⟨e1,i,hi,hne,e2⟩:=key _ (Nat.le_refl _) hy
   have hu:usedP fs (enS l x i).1:=by
     by_cases hu:usedP fs (enS l x i).1
     · exact hu
     · exact absurd ⟨ht.1,.inr ⟨ht.2,.inr (.inr ⟨i,hi,hne,.inl hu⟩)⟩⟩ hb
   obtain ⟨z,hz,e3⟩:=hu
   have:=hf.mem hz
   rw [e1,e2]
   exact ⟨by omega,by omega⟩
 · cases hy
theorem elKd:zI Tryz.prog 223=some ⟨219,1,1,#[.int .u8 0]⟩:=by kernel_rfl
theorem undKds:Tryz.prog.underlying 223=some (.slice 219):=by kernel_rfl
theorem newKds:zH (some ⟨219,1,1,#[.int .u8 0]⟩) 4 [(0,(.int .u8 7)),(1,(.int .u8 8)),(2,(.int .u8 9)),(3,(.int .u8 10))]=some #[.int .u8 7,.int .u8 8,.int .u8 9,.int .u8 10]:=by kernel_rfl
def kdC (n:Int):Array Value:=#[.int .u8 n]
theorem kds_sr {H:Hp} {b:Nat} {T:TypeId} (g:H[b]?=some (.cells #[.int .u8 7,.int .u8 8,.int .u8 9,.int .u8 10] T)):Sr 1 H (.slice (some ⟨b,0,none⟩) 4 4) (([7,8,9,10]:List Int).map kdC):=by
 refine ⟨_,4,rfl,by decide,fun _=>⟨b,0,rfl,fun i v hi=>?_⟩⟩
 have r:∀ j,j<4→rowH H ⟨b,0+j*1,none⟩ 1=some ((#[.int .u8 7,.int .u8 8,.int .u8 9,.int .u8 10]:Array Value).extract j (j+1)):=fun j hj=>by
   unfold rowH
   simp only [g]
   rw [if_pos ⟨trivial,by show 0+j*1+1≤4; omega⟩,Nat.zero_add,Nat.mul_one]
 match i,hi with
 | 0,hi=>rw [r 0 (by omega)]; injection hi with hi; rw [← hi]; rfl
 | 1,hi=>rw [r 1 (by omega)]; injection hi with hi; rw [← hi]; rfl
 | 2,hi=>rw [r 2 (by omega)]; injection hi with hi; rw [← hi]; rfl
 | 3,hi=>rw [r 3 (by omega)]; injection hi with hi; rw [← hi]; rfl
section
variable {H:Hp} {R:Value→Hp→Prop} {d:Nat} {dv:Value} {B L I:Int} {l:List (Int × Blk)} {s nv:Value} {fs:List Fl} {ns:List Nm}
theorem Yt {H H':Hp} {s:Value} {ps:List Int} {kd:Int} (h:New H H' (.sl 254 2 s (ps.map (fC kd)))):lenE Tryz.prog 113 s=some (zm ps.length):=by
 rw [h.sv.lenE undFlts,List.length_map]
theorem yJ {ps:List Int}:(0:Int)<(ps.length:Int)↔ps≠[]:=by
 cases ps with
 | nil=>simp
 | cons a r=>simp
set_option maxHeartbeats 1000000 in
theorem wrongs29 (h:Lk H d dv B L I l) (k:∀ H' s' (ps:List Int) kd fs,Ext H H'→New H H' (.sl 254 2 s' (ps.map (fC kd)))→FlsOk B L I l I.toNat fs→(ps=[]↔Sound B L I l fs)→R s' H'):Fc Tryz.prog 79 #[z6 d] H R:=by
 obtain ⟨gL1,gL2,gI1,gI2,gB1,gB2,gD⟩:=id h.ok
 have hgo:∃ fs,FlsOk B L I l I.toNat fs:=by
   have:∀ n,∃ fs,FlsOk B L I l n fs:=fun n=>by
     induction n with
     | zero=>exact ⟨[],rfl,fun x hx=>by cases hx⟩
     | succ n ih=>
       obtain ⟨fs,hfs⟩:=ih
       by_cases e:y9 B L I l (n+1) 0=0
       · exact ⟨fs,hfs.skip e⟩
       · exact ⟨_,hfs.add (x:=⟨n+1,y9 B L I l (n+1),.bool false,Z2 B L I l (y9 B L I l (n+1))⟩) rfl rfl rfl e⟩
   exact this _
 refine fn79 ?_
 simp only [sh79,zt]
 refine lk_nodes h fun H1 s1 p1 e1 n1 q1=>?_
 rw [Yt n1,za,zL,za,zf]
 refine ⟨fun hp=>?_,fun hp=>?_⟩
 · have hp:=yJ.1 hp
   obtain ⟨fs,hfs⟩:=hgo
   exact k H1 s1 p1 4 fs e1 n1 hfs ⟨fun e=>absurd e hp,fun e=>absurd (q1.2 e.nodes) hp⟩
 have hN:NodesOk B L I l:=q1.1 (Classical.not_not.1 fun e=>hp (yJ.2 e))
 refine lk_files (h.ext e1) fun H2 fv fs e2 n2 hfs=>?_
 have hf2:Fls H2 fv fs:=files_fr (h.ext e1) (by omega) hfs n2
 have hnd:=nodes_nd gI1 hN hfs
 have x2:=e1.trans e2
 refine pointers29 (h.ext x2) hf2 fun H3 s3 p3 e3 n3 q3=>?_
 have x3:=x2.trans e3
 have stop:∀ {H':Hp} {s':Value} {ps:List Int} {kd:Int} {Hm:Hp},Ext H Hm→Ext Hm H'→New Hm H' (.sl 254 2 s' (ps.map (fC kd)))→ps≠[]→(Sound B L I l fs→ps=[])→R s' H':=fun xm em nm hp hq=>k _ _ _ _ fs (xm.trans em) (nm.old xm.le) hfs ⟨fun e=>absurd e hp,fun e=>absurd (hq e) hp⟩
 have e0:∀ {ps:List Int},¬ (0:Int)<(ps.length:Int)→ps=[]:=fun hp=>Classical.not_not.1 fun e=>hp (yJ.2 e)
 rw [Yt n3,za,zL,za,zf]
 refine ⟨fun hp=>stop x2 e3 n3 (yJ.1 hp) fun S=>q3.2 S.ptr,fun hp=>?_⟩
 have hP:=q3.1 (e0 hp)
 refine twice29 (h.ext x3) (hf2.ext e3) hP fun H4 s4 p4 e4 n4 q4=>?_
 have x4:=x3.trans e4
 have f4:=(hf2.ext e3).ext e4
 rw [Yt n4,za,zL,za,zf]
 refine ⟨fun hp=>stop x3 e4 n4 (yJ.1 hp) fun S=>q4.2 S.twice,fun hp=>?_⟩
 have hT:=q4.1 (e0 hp)
 rw [elKd,za,newKds,za]
 refine newS_i fun b H5 hb e5 hs5 g5=>?_
 have x5:=x4.trans e5
 have f5:=f4.ext e5
 have sr5:=kds_sr g5
 refine zx.mk (fun t H'=>Ext H5 H'∧∃ i:Nat,i≤4∧t=(zm i,())∧∀ kd∈([7,8,9,10]:List Int).take i,∀ x∈fs,¬ yB l kd x) (fun t _=>mi t.1 fun i=>(4 - i).toNat) ⟨Ext.refl _,0,by omega,rfl,by simp⟩ ?_
 rintro _ H6 ⟨e6,i,hi,rfl,hal⟩
 have x6:=x5.trans e6
 have f6:=f5.ext e6
 have sr6:=sr5.ext e6
 rw [sr6.lenE undKds,za,show ((([7,8,9,10]:List Int).map kdC).length:Int)=4 from rfl,zr,za,zf]
 refine ⟨fun hlt=>?_,fun hge=>?_⟩
 · have hil:i<4:=by omega
   have hei:(([7,8,9,10]:List Int).map kdC)[i]?=some (kdC ([7,8,9,10]:List Int)[i]):=by rw [List.getElem?_map,List.getElem?_eq_getElem hil]; rfl
   have htk:([7,8,9,10]:List Int).take (i+1)=([7,8,9,10]:List Int).take i++[([7,8,9,10]:List Int)[i]]:=List.take_succ_eq_append_getElem hil
   have hmem:([7,8,9,10]:List Int)[i]∈([7,8,9,10]:List Int):=List.getElem_mem hil
   generalize ([7,8,9,10]:List Int)[i]=kd at hei htk hmem
   have hkd:kd≠1000:=by
     rintro rfl
     simp at hmem
   obtain ⟨b2,o2,ha2,hcl2,_⟩:=sr6.el hei
   have c0:=hcl2 0 (by omega)
   rw [Nat.add_zero,show (kdC kd)[0]?=some (.int .u8 kd) from rfl] at c0
   rw [ha2,za,c0,za]
   refine files29 (h.ext x6) f6 hkd fun H7 s7 p7 e7 n7 q7=>?_
   rw [Yt n7,za,zL,za,zf]
   refine ⟨fun hp=>stop x6 e7 n7 (yJ.1 hp) fun S=>q7.2 (S.alone kd hmem),fun hp=>?_⟩
   rw [zk,za,zK,zv (by omega)]
   refine ⟨⟨e6.trans e7,i+1,by omega,rfl,fun z hz=>?_⟩,by simp only [zC]; omega⟩
   rw [htk] at hz
   rcases List.mem_append.1 hz with h1 | h1
   · exact hal z h1
   · rw [List.mem_singleton.1 h1]; exact q7.1 (e0 hp)
 · have ei:i=4:=by omega
   subst ei
   have hA:∀ kd∈([7,8,9,10]:List Int),∀ x∈fs,¬ yB l kd x:=hal
   refine wrongBits29 (h.ext x6) f6 hP fun H8 s8 p8 e8 n8 q8=>?_
   have x8:=x6.trans e8
   have f8:=f6.ext e8
   rw [Yt n8,za,zL,za,zf]
   refine ⟨fun hp=>stop x6 e8 n8 (yJ.1 hp) fun S=>q8.2 S.bits,fun hp=>?_⟩
   have hB:=q8.1 (e0 hp)
   refine files29 (h.ext x8) f8 (by decide) fun H9 s9 p9 e9 n9 q9=>?_
   have x9:=x8.trans e9
   have f9:=f8.ext e9
   rw [Yt n9,za,zL,za,zf]
   refine ⟨fun hp=>stop x8 e9 n9 (yJ.1 hp) fun S=>q9.2 S.hole,fun hp=>?_⟩
   have hH:=q9.1 (e0 hp)
   refine slotsC29 (h.ext x9) f9 hnd fun H10 s10 p10 e10 n10 q10=>?_
   have x10:=x9.trans e10
   have f10:=f9.ext e10
   rw [Yt n10,za,zL,za,zf]
   refine ⟨fun hp=>stop x9 e10 n10 (yJ.1 hp) fun S=>q10.2 S.slots,fun hp=>?_⟩
   have hS:=q10.1 (e0 hp)
   refine names29 (h.ext x10) f10 hnd fun H11 nv e11 n11=>?_
   have x11:=x10.trans e11
   have f11:=f10.ext e11
   have sn:=n11.sv.sr
   have hnl:=namesP_len l hnd
   have hfl:=f11.len
   have hin:=names_in gI1 hfs hS
   refine tree29 (h.ext x11) f11 hnd (fun x hx=>by have:=hfs.mem hx; omega) sn (by omega) hin fun H12 s12 p12 e12 n12 q12=>?_
   have x12:=x11.trans e12
   rw [Yt n12,za,zL,za,zf]
   refine ⟨fun hp=>stop x11 e12 n12 (yJ.1 hp) fun S=>q12.2 S.tree,fun hp=>?_⟩
   have hTr:=q12.1 (e0 hp)
   refine links29 (f11.ext e12) (sn.ext e12) (by omega) fun H13 s13 p13 e13 n13 q13=>?_
   exact k H13 s13 p13 15 fs (x12.trans e13) (n13.old x12.le) hfs ⟨fun e=>⟨hN,hP,hT,hA,hB,hH,hS,hTr,q13.1 e⟩,fun S=>q13.2 S.links⟩
end
def a3 (f:Nat→Int):Array Value:=#[zm (f 0),zm (f 1),zm (f 2)]
theorem a3_get (f:Nat→Int) {i:Nat} (h:i<3):(a3 f)[i]?=some (zm (f i)):=by
 match i,h with
 | 0,_=>rfl
 | 1,_=>rfl
 | 2,_=>rfl
theorem a3_set (f:Nat→Int) {i:Nat} (h:i<3) (v:Int):(a3 f).setIfInBounds i (zm v)=a3 fun j=>if j=i then v else f j:=by
 match i,h with
 | 0,_=>rfl
 | 1,_=>rfl
 | 2,_=>rfl
theorem zero3:zD Tryz.prog 255=some (.agg (a3 fun _=>0)):=by kernel_rfl
theorem buildGeo (a b c:Int):zu Tryz.prog 23 [(0,zm a),(1,zm b),(2,zm c)]=some (.agg #[zm a,zm b,zm c]):=by kernel_rfl
section
variable {H:Hp} {R:Value→Hp→Prop} {d:Nat} {dv:Value} {B L I:Int} {l:List (Int × Blk)}
theorem whole05 (hB:1≤B∧B≤1048576) (hrd:Sr 1025 H dv (l.map zM)) (hl:okL B (-1) l) (hlen:l.length≤1048576) (k:∀ H',Ext H H'→R (zm 0) H'):Fc Tryz.prog 111 #[.agg #[zm B,dv]] H R:=by
 refine fn111 ?_
 simp only [sh111,ya,zeroHeld,za,zt]
 refine (Lo.start _ H:Lx H H []).boxA fun b1 H1 _ l1=>?_
 have d0:(#[zm B,dv]:Array Value)[0]?=some (zm B):=rfl
 have d1:(#[zm B,dv]:Array Value)[1]?=some dv:=rfl
 have l1:Lx H H1 [.box b1 #[zm B,dv] 71]:=l1
 simp only [zi,Nat.zero_add,Nat.add_zero,za]
 refine zS.mk (fun t H'=>H'=H1∧t.1=.bool false) ?_ ?_
 · rintro ⟨t,u⟩ H2 ⟨rfl,ht⟩
   simp only at ht
   subst ht
   rw [zn]
   refine l1.boxA fun b2 H3 _ l3=>?_
   refine zx.mk (fun t H'=>∃ (i:Nat) (p:Int),i≤l.length∧t=(zm p,zm i,())∧okL B p (l.drop i)∧Lx H H' [.box b1 #[zm B,dv] 71,.box b2 zB 94])
     (fun t _=>mi t.2.1 fun i=>(l.length - i).toNat) ⟨0,-1,by omega,rfl,hl,l3⟩ ?_
   rintro _ H4 ⟨i,p,hi,rfl,hdr,l4⟩
   have h4:=hrd.ext l4.ext0
   rw [l4.ld (i:=0) rfl,d1,za,h4.lenE yO,za,List.length_map,zr,za,zf]
   refine ⟨fun hlt=>?_,fun hge=>k H4 l4.ext0⟩
   have hil:i<l.length:=by omega
   have hei:(l.map zM)[i]?=some (zM l[i]):=by rw [List.getElem?_map,List.getElem?_eq_getElem hil]; rfl
   have hdrop:l.drop i=l[i] :: l.drop (i+1):=List.drop_eq_getElem_cons hil
   generalize l[i]=x at hei hdrop
   rw [hdrop] at hdr
   obtain ⟨q1,q2,q3,q4,q5⟩:=hdr
   obtain ⟨b,o,ha,hcl,hrow⟩:=h4.el hei
   have hr:=hrow 0 1025 (by omega)
   rw [Nat.add_zero,ext_all (c:=zM x) (n:=1025) (ZA q4)] at hr
   rw [za,ha,za,hr,za]
   refine l4.boxA fun b3 H5 _ l5=>?_
   refine l5.stAll (i:=2) rfl ZU (ZA q4) (heldC_ok q4) fun H6 l6=>?_
   have l6:Lx H H6 [.box b1 #[zm B,dv] 71,.box b2 zB 94,.box b3 (zM x) 98]:=l6
   simp only [zi,Nat.zero_add,Nat.add_zero,za]
   refine zS.mk (fun t H'=>H'=H6∧t.1=.bool false) ?_ ?_
   · rintro ⟨t,u⟩ H7 ⟨rfl,ht⟩
     simp only at ht
     subst ht
     rw [zn,l6.ld (i:=2) rfl,Ys,za,zk,za,zK,zv (by omega)]
     exact ⟨⟨i+1,x.1,by omega,rfl,q5,l6.takeN 2⟩,by simp only [zC]; omega⟩
   · rw [l6.ld (i:=2) rfl,Ys,za,Yp,za,decide_eq_false (by omega),zn,za,l6.ld (i:=0) rfl,d0,za,zQ,za,decide_eq_false (by omega),zn]
     rw [Zp (l6.at (i:=2) rfl) (by rw [ZA q4]; omega),za,heldC_1 q4,l6.ldAll (i:=1) (n:=1024) rfl zJ,za,eqXE_eql,eqB rowB q4 Zn,Option.map_some,za,decide_eq_false q3]
     exact ⟨rfl,rfl⟩
 · rw [l1.ld (i:=0) rfl,d0,za,zr,za,decide_eq_false (by omega),zn,za,zL,za,decide_eq_false (by omega)]
   exact ⟨rfl,rfl⟩
theorem dec3 (hg:Zd B L I) (k:∀ H',Ext H H'→R (.tuple #[.agg (zp B L I).cells,zm 0]) H'):Fc Tryz.prog 113 #[.agg (ZN (zp B L I)),zm B] H R:=by
 obtain ⟨gL1,gL2,gI1,gI2,gB1,gB2,gD⟩:=id hg
 have hnum:∀ i,i<3→(leB (ZN (zp B L I)) (8+4*i) 4:Int)=numI (zp B L I) i:=fun i hi=>by
   have h1:=supN_num (zp B L I) 9 (by omega) i (by omega)
   have h2:=numI_ok hg i
   show ((leB (supN (zp B L I) 9) (8+4*i) 4:Nat):Int)=_
   rw [h1]; omega
 have hb:IsB (ZN (zp B L I)):=YO _ 9
 refine fn113 ?_
 simp only [sh113,yp,buildLay,zero3,ya,za,zt]
 generalize hc:ZN (zp B L I)=c at hnum hb
 refine (Lo.start _ H:Lx H H []).boxA fun b1 H1 _ l1=>?_
 refine l1.boxA fun b2 H2 _ l2=>?_
 refine l2.boxA fun b3 H3 _ l3=>?_
 refine zx.mk (fun t H'=>∃ (i:Nat) (f:Nat→Int),i≤3∧t=(zm i,())∧(∀ j,j<i→f j=numI (zp B L I) j)∧(∀ j,i≤j→f j=0)∧Lx H H' [.box b1 c 94,.box b2 zLay 74,.box b3 (a3 f) 255])
   (fun t _=>mi t.1 fun i=>(3 - i).toNat) ⟨0,fun _=>0,by omega,rfl,fun j hj=>by omega,fun j _=>rfl,l3⟩ ?_
 rintro _ H4 ⟨i,f,hi,rfl,hf1,hf2,l4⟩
 rw [zr,za,zf]
 refine ⟨fun hlt=>?_,fun hge=>?_⟩
 · refine zx.mk (fun t H'=>∃ (j:Nat),j≤4∧t=(zm (3 - (j:Int)),())∧Lx H H' [.box b1 c 94,.box b2 zLay 74,.box b3 (a3 fun z=>if z=i then (leB c (8+4*i+(4 - j)) j:Nat) else f z) 255])
     (fun t _=>mi t.1 fun x=>(x+1).toNat) ⟨0,by omega,rfl,by
       have e:(fun z=>if z=i then ((leB c (8+4*i+(4 - 0)) 0:Nat):Int) else f z)=f:=by
         funext z
         by_cases hz:z=i
         · rw [if_pos hz,hf2 z (by omega)]; rfl
         · rw [if_neg hz]
       rw [e]; exact l4⟩ ?_
   rintro _ H5 ⟨j,hj,rfl,l5⟩
   have hv:=leB_lt (c:=c) hb.lt j (8+4*i+(4 - j))
   have hv2:256 ^ j≤256 ^ 4:=Nat.pow_le_pow_right (by omega) hj
   generalize hv3:leB c (8+4*i+(4 - j)) j=v at hv l5
   rw [zQ,za,zf]
   refine ⟨fun hge=>?_,fun hlt2=>?_⟩
   · have hv4:256 ^ j≤256 ^ 3:=Nat.pow_le_pow_right (by omega) (by omega)
     rw [zG (by omega),za,Nat.zero_add,Nat.mul_one,l5.ld (i:=2) rfl,a3_get _ (by omega),if_pos rfl,za,zX,za,zg (x:=256*(v:Int)) (by omega) (by omega),zX,za,zg (x:=4*(i:Int)) (by omega) (by omega),zk,za,zg (by omega) (by omega),zk,za,zg (by omega) (by omega),show ((8:Int)+4*(i:Int)+(3 - (j:Int)))=((8+4*i+(3 - j):Nat):Int) by omega,zG (by omega),za,Nat.zero_add,Nat.mul_one,l5.ld (i:=0) rfl,hb.get (by omega),za,zE,za]
     have hbl:=hb.lt (8+4*i+(3 - j))
     rw [zv (by omega),zk,za,zg (by omega) (by omega),za]
     refine l5.st (i:=2) (j:=i) (v:=zm (256*(v:Int)+(byt c (8+4*i+(3 - j)):Int))) rfl (by show i<3; omega) rfl rfl fun H6 l6=>?_
     rw [zO,za,zg (by omega) (by omega)]
     refine ⟨⟨j+1,by omega,?_,?_⟩,by simp only [zC]; omega⟩
     · rw [show (3 - (j:Int) - 1)=3 - ((j+1:Nat):Int) by omega]; rfl
     · have e1:leB c (8+4*i+(4 - (j+1))) (j+1)=byt c (8+4*i+(3 - j))+256*v:=by
         show byt c (8+4*i+(4 - (j+1)))+256*leB c (8+4*i+(4 - (j+1))+1) j=_
         rw [show 8+4*i+(4 - (j+1))+1=8+4*i+(4 - j) by omega,hv3,show 8+4*i+(4 - (j+1))=8+4*i+(3 - j) by omega]
       rw [a3_set _ (by omega)] at l6
       have e2:(fun z=>if z=i then 256*(v:Int)+(byt c (8+4*i+(3 - j)):Int) else if z=i then (v:Int) else f z)=fun z=>if z=i then ((leB c (8+4*i+(4 - (j+1))) (j+1):Nat):Int) else f z:=by
         funext z
         by_cases hz:z=i
         · rw [if_pos hz,if_pos hz,e1]; omega
         · rw [if_neg hz,if_neg hz,if_neg hz]
       rw [← e2]; exact l6
   · have ej:j=4:=by omega
     subst ej
     rw [Nat.sub_self,Nat.add_zero] at hv3
     rw [zk,za,zK,zv (by omega)]
     refine ⟨⟨i+1,_,by omega,rfl,fun z hz=>?_,fun z hz=>?_,l5⟩,by simp only [zC]; omega⟩
     · by_cases e:z=i
       · simp only [e,if_true]
         rw [← hv3]; exact hnum i (by omega)
       · simp only [e,if_false]; exact hf1 z (by omega)
     · simp only [show z≠i by omega,if_false]; exact hf2 z (by omega)
 · have ei:i=3:=by omega
   subst ei
   have e0:f 0=B:=hf1 0 (by omega)
   have e1:f 1=L:=hf1 1 (by omega)
   have e2:f 2=I:=hf1 2 (by omega)
   have a0:∀ {k:IntKind},zh (some (some 3,1)) (.pointer (some ⟨b3,0,none⟩)) (.int k 0)=some (.pointer (some ⟨b3,0,none⟩)):=fun {k}=>by
     have:=@zG 3 1 b3 0 0 k (by omega)
     simpa using this
   have a1:∀ {k:IntKind},zh (some (some 3,1)) (.pointer (some ⟨b3,0,none⟩)) (.int k 1)=some (.pointer (some ⟨b3,1,none⟩)):=fun {k}=>by
     have:=@zG 3 1 b3 0 1 k (by omega)
     simpa using this
   have a2:∀ {k:IntKind},zh (some (some 3,1)) (.pointer (some ⟨b3,0,none⟩)) (.int k 2)=some (.pointer (some ⟨b3,2,none⟩)):=fun {k}=>by
     have:=@zG 3 1 b3 0 2 k (by omega)
     simpa using this
   rw [a0,za,l4.ld (i:=2) rfl,a3_get f (by omega),za,a1,za,l4.ld (i:=2) rfl,a3_get f (by omega),za,a2,za,l4.ld (i:=2) rfl,a3_get f (by omega),za,e0,e1,e2,buildGeo,za]
   refine of3 (by omega) (fun H5 e5 _=>?_) (fun H5 e5 hno=>absurd hg hno)
   rw [show ze (.tuple #[.agg (zp B L I).cells,.int .i64 0]) 0=some (.agg (zp B L I).cells) from rfl,za,show ze (.tuple #[.agg (zp B L I).cells,.int .i64 0]) 1=some (zm 0) from rfl,za]
   refine (l4.ext e5).boxA fun b4 H6 _ l6=>?_
   refine l6.stAll (i:=3) rfl rfl (Lay.size _) (Lay.cok _) fun H7 l7=>?_
   rw [l7.ldAll (i:=3) (n:=9) rfl (Lay.size _),za]
   refine enc3 (by omega) hg fun H8 e8=>?_
   rw [hc,show ze (.tuple #[.agg c,zm 0]) 0=some (.agg c) from rfl,za,show ze (.tuple #[.agg c,zm 0]) 1=some (zm 0) from rfl,za]
   refine (l7.ext e8).boxA fun b5 H9 _ l9=>?_
   refine l9.stAll (i:=4) rfl zJ hb.size hb.ok fun H10 l10=>?_
   have l10:Lx H H10 [.box b1 c 94,.box b2 zLay 74,.box b3 (a3 f) 255,.box b4 (zp B L I).cells 74,.box b5 c 94]:=l10
   refine zS.mk (fun t H'=>H'=H10∧t.1=.bool false) ?_ ?_
   · rintro ⟨t,u⟩ H11 ⟨rfl,ht⟩
     simp only at ht
     subst ht
     rw [zn,l10.ldAll (i:=3) (n:=9) rfl (Lay.size _),za]
     exact l10.ret (i:=1) (K:=fun x H4=>R (.tuple #[x,zm 0]) H4) rfl rfl (Lay.size _) (Lay.cok _) fun H' l'=>k H' l'.ext0
   · rw [zw,za,decide_eq_false (by omega),zn,za,zn,l10.ldAll (i:=4) (n:=1024) rfl hb.size,za,l10.ldAll (i:=0) (n:=1024) rfl hb.size,za,Ym,eqB rowB hb hb,Option.map_some,za]
     simp only [decide_true,Bool.not_true,zn]
     rw [za,l10.ld (i:=2) rfl,a3_get f (by omega),za,e0,zL,za,decide_eq_false (by omega)]
     exact ⟨trivial,rfl⟩
end
theorem buildDisk (B B' L I a b c d e f:Int) (x:Option Addr) (n m:Nat):zu Tryz.prog 173 [(0,.agg #[zm B,.slice x n m]),(1,.agg (Lay.cells ⟨B',L,I,a,b,c,d,e,f⟩)),(2,.agg zHd)]=some (.agg #[zm B,.slice x n m,zm B',zm L,zm I,zm a,zm b,zm c,zm d,zm e,zm f,.slice none 0 0]):=by kernel_rfl
theorem zHd_ok:zF zHd:=by unfold zF; rw [← Array.all_toList]; rfl
section
variable {H:Hp} {R:Value→Hp→Prop} {d:Nat} {dv:Value} {B L I:Int} {l:List (Int × Blk)}
theorem inside1 {a:Int} (k:R (.bool (decide (0≤a∧a<1024))) H):Fc Tryz.prog 165 #[zm a] H R:=by
 refine fn165 ?_
 simp only [sh165]
 rw [zQ,za,zf]
 refine ⟨fun h=>?_,fun h=>?_⟩
 · rw [zr,za,show decide (a<1024)=decide (0≤a∧a<1024) from dec_dec ⟨fun e=>⟨h,e⟩,fun e=>e.2⟩]; exact k
 · rw [show decide (0≤a∧a<1024)=false from decide_eq_false fun e=>h e.1] at k; exact k
theorem u32z (k:∀ H',Ext H H'→R (.int .u32 0) H'):Fc Tryz.prog 137 #[.agg zB,zm 0] H R:=by
 refine fn137 ?_
 simp only [sh137]
 refine (Lo.start _ H:Lx H H []).boxA fun b1 H1 _ l1=>?_
 rw [l1.ldAll (i:=0) (n:=1024) rfl zJ,za]
 refine fn161 ?_
 simp only [sh161,zt]
 refine l1.boxA fun b2 H2 _ l2=>?_
 refine zS.mk (fun t H'=>H'=H2∧t.1=.bool false) ?_ ?_
 · rintro ⟨t,u⟩ H3 ⟨rfl,ht⟩
   simp only at ht
   subst ht
   rw [zn,zO,za,zg (by omega) (by omega)]
   refine zx.mk (fun t H'=>H'=H3∧∃ j:Nat,j≤4∧t=(.int .u32 0,zm (3 - (j:Int)),())) (fun t _=>mi t.2.1 fun x=>(x+1).toNat) ⟨rfl,0,by omega,rfl⟩ ?_
   rintro _ H4 ⟨rfl,j,hj,rfl⟩
   rw [zQ,za,zf]
   refine ⟨fun hge=>?_,fun hlt=>k _ l2.ext0⟩
   rw [zX,za,Zk (by omega) (by omega),zk,za,zg (by omega) (by omega),show (0:Int)+(3 - (j:Int))=((3 - j:Nat):Int) by omega,zG (by omega),za,Nat.zero_add,Nat.mul_one,l2.ld (i:=1) rfl,zB_get (by omega),za,zE,za,Zk (by omega) (by omega),zk,za,Zk (by omega) (by omega),zO,za,zg (by omega) (by omega)]
   refine ⟨⟨rfl,j+1,by omega,?_⟩,by simp only [zC]; omega⟩
   rw [show (3 - (j:Int) - 1)=3 - ((j+1:Nat):Int) by omega]; rfl
 · refine inside1 ?_
   rw [decide_eq_true (by omega),zT,za,Bool.not_true,zn,zk,za,zg (by omega) (by omega),zO,za,zg (by omega) (by omega)]
   refine inside1 ?_
   rw [decide_eq_true (by omega),zT,za,Bool.not_true]
   exact ⟨rfl,rfl⟩
theorem may7 {x:Lay} (hL:1≤x.L∧x.L≤9223372036854775807) (k:∀ H',Ext H H'→R (.bool true) H'):Fc Tryz.prog 138 #[.agg x.cells,.agg zHd] H R:=by
 refine fn138 ?_
 simp only [sh138,zt]
 refine (Lo.start _ H:Lx H H []).boxA fun b1 H1 _ l1=>?_
 refine l1.boxA fun b2 H2 _ l2=>?_
 have z0:zHd[0]?=some (.slice none 0 0):=rfl
 have x1:x.cells[1]?=some (zm x.L):=rfl
 simp only [zi,Nat.zero_add,Nat.add_zero,za]
 rw [l2.ld (i:=1) rfl,z0,za,lenNilInts,za,l2.ld (i:=0) rfl,x1,za,zO,za,zg (by omega) (by omega),zL,za,decide_eq_false (by omega),zn]
 refine zx.mk (fun t H'=>H'=H2∧t=(zm 0,())) (fun _ _=>0) ⟨rfl,rfl⟩ ?_
 rintro _ H3 ⟨rfl,rfl⟩
 rw [l2.ld (i:=1) rfl,z0,za,lenNilInts,za,zr,za,decide_eq_false (by omega),zn]
 exact k _ l2.ext0
theorem dec7 (hg:Zd B L I) (k:∀ H',Ext H H'→R (.tuple #[.agg zHd,zm 0]) H'):Fc Tryz.prog 96 #[.agg (zp B L I).cells,.agg zB] H R:=by
 obtain ⟨gL1,gL2,gI1,gI2,gB1,gB2,gD⟩:=id hg
 have c1:(zp B L I).cells[1]?=some (zm L):=rfl
 refine fn96 ?_
 simp only [sh96,zeroHd,za,zt]
 refine (Lo.start _ H:Lx H H []).boxA fun b1 H1 _ l1=>?_
 refine l1.boxA fun b2 H2 _ l2=>?_
 refine l2.boxA fun b3 H3 _ l3=>?_
 rw [l3.ldAll (i:=0) (n:=9) rfl (Lay.size _),za]
 refine fits3 (by omega) hg fun H4 e4=>?_
 have l4:=l3.ext e4
 rw [zT,za,Bool.not_true,zn,l4.ldAll (i:=1) (n:=1024) rfl zJ,za]
 refine u32z fun H5 e5=>?_
 have l5:=l4.ext e5
 rw [zE,za,zg (by omega) (by omega),zi,za,zi,za,Nat.zero_add,l5.ld (i:=0) rfl,c1,za,zO,za,zg (by omega) (by omega),zL,za,decide_eq_false (by omega),zn]
 refine l5.boxA fun b6 H6 _ l6=>?_
 refine zx.mk (fun t H'=>H'=H6∧t=(zm 0,())) (fun _ _=>0) ⟨rfl,rfl⟩ ?_
 rintro _ H7 ⟨rfl,rfl⟩
 rw [zr,za,decide_eq_false (by omega),zn,l6.ldAll (i:=0) (n:=9) rfl (Lay.size _),za,l6.ldAll (i:=3) (n:=1) rfl rfl,za]
 refine may7 (x:=zp B L I) (show 1≤L∧L≤9223372036854775807 by omega) fun H8 e8=>?_
 have l8:=l6.ext e8
 rw [zT,za,Bool.not_true,zn,l8.ldAll (i:=3) (n:=1) rfl rfl,za]
 exact l8.ret (i:=2) (K:=fun x H4=>R (.tuple #[x,zm 0]) H4) rfl rfl rfl zHd_ok fun H' l'=>k H' l'.ext0
structure ImOk (H:Hp) (dv:Value) (B L I:Int) (l:List (Int × Blk)):Prop where
 rd:Sr 1025 H dv (l.map zM)
 whole:okL B (-1) l
 is:∀ x∈l,IsB x.2
 len:l.length≤1048576
 ok:Zd B L I
 sup:zN l 0=ZN (zp B L I)
 hd:zN l 1=zB
set_option maxHeartbeats 1000000 in
theorem open29 (h:ImOk H dv B L I l) (k:∀ H' d,Ext H H'→Lk H' d dv B L I l→R (.tuple #[z6 d,.slice none 0 0]) H'):Fc Tryz.prog 78 #[.agg #[zm B,dv]] H R:=by
 obtain ⟨gL1,gL2,gI1,gI2,gB1,gB2,gD⟩:=id h.ok
 have hsup:IsB (ZN (zp B L I)):=YO _ 9
 obtain ⟨vb,vc,ev⟩:=h.rd.len
 have d0:(#[zm B,dv]:Array Value)[0]?=some (zm B):=rfl
 have c3:(zp B L I).cells[3]?=some (zm 1):=rfl
 refine fn78 ?_
 simp only [sh78,zt]
 refine (Lo.start _ H:Lx H H []).boxA fun b1 H1 _ l1=>?_
 have l1:Lx H H1 [.box b1 #[zm B,dv] 71]:=l1
 rw [l1.ldAll (i:=0) (n:=2) rfl rfl,za]
 refine whole05 ⟨gB1,gB2⟩ (h.rd.ext l1.ext0) h.whole h.len fun H2 e2=>?_
 have l2:=l1.ext e2
 rw [zw,za,decide_eq_false (by omega),zn,l2.ldAll (i:=0) (n:=2) rfl rfl,za]
 refine ⟨.agg (ZN (zp B L I)),fun H'' e''=>at05 (h.rd.ext (l2.ext0.trans e'')) h.is h.len fun H3 e3=>⟨by rw [h.sup],e3⟩,?_⟩
 rw [zi,za,Nat.zero_add,l2.ld (i:=0) rfl,d0,za]
 have x3:∀ {a b:Value},ze (.tuple #[a,b]) 0=some a:=rfl
 have x4:∀ {a b:Value},ze (.tuple #[a,b]) 1=some b:=rfl
 have fin:∀ {H':Hp} {b2 b3:Nat},Lx H H' [.box b1 #[zm B,dv] 71,.box b2 (zp B L I).cells 74,.box b3 zHd 129] →
     Pu (zb (some (some 2)) (z6 b1) H') fun x77=>Pu (zb (some (some 9)) (z6 b2) H') fun x78=>Pu (zb (some (some 1)) (z6 b3) H') fun x79=>Pu (zu Tryz.prog 173 [(0,x77),(1,x78),(2,x79)]) fun x80=>Box 173 x80 H' fun x81 H55=>R (.tuple #[x81,(.slice none 0 0)]) H55:=by
   intro H' b2 b3 l3
   rw [l3.ldAll (i:=0) (n:=2) rfl rfl,za,l3.ldAll (i:=1) (n:=9) rfl (Lay.size _),za,l3.ldAll (i:=2) (n:=1) rfl rfl,za]
   subst ev
   unfold zp
   rw [buildDisk,za]
   refine l3.boxA fun d H4 e4 l4=>?_
   exact k H4 d l4.ext0 ⟨l4.at (i:=3) rfl,h.rd.ext l4.ext0,h.is,h.len,h.ok⟩
 have qz:∀ {H':Hp},Ext H H'→QC true Tryz.prog 114 #[.agg #[zm B,dv],zm 1] H' (.agg zB):=fun e H'' e''=>at05 (h.rd.ext (e.trans e'')) h.is h.len fun H3 e3=>⟨by rw [h.hd],e3⟩
 refine ⟨?_,?_,trivial⟩
 · rw [zl]
   intro H3 e3
   refine dec3 h.ok fun H4 e4=>?_
   rw [x3,za,x4,za,zl]
   intro H5 e5
   rw [yp,za]
   refine (((l2.ext e3).ext e4).ext e5).boxA fun b2 H6 _ l6=>?_
   rw [zl]
   intro H7 e7
   refine (l6.ext e7).stAll (i:=1) (n:=9) rfl rfl (Lay.size _) (Lay.cok _) fun H8 l8=>?_
   rw [zl]
   intro H9 e9
   have l9:Lx H H9 [.box b1 #[zm B,dv] 71,.box b2 (zp B L I).cells 74]:=l8.ext e9
   rw [zw,za,decide_eq_false (by omega),zn,l9.ldAll (i:=1) (n:=9) rfl (Lay.size _),za,l9.ldAll (i:=0) (n:=2) rfl rfl,za,zi,za,Nat.zero_add,l9.ld (i:=1) rfl,c3,za]
   refine ⟨_,qz l9.ext0,?_⟩
   refine ⟨?_,?_,trivial⟩
   · rw [zl]
     intro K1 f1
     refine dec7 h.ok fun K2 f2=>?_
     rw [x3,za,x4,za,zl]
     intro K3 f3
     rw [zeroHd,za]
     refine (((l9.ext f1).ext f2).ext f3).boxA fun b3 K4 _ l10=>?_
     rw [zl]
     intro K5 f5
     refine (l10.ext f5).stAll (i:=2) (n:=1) rfl rfl rfl zHd_ok fun K6 l11=>?_
     rw [zl]
     intro K7 f7
     rw [zw,za,decide_eq_false (by omega),zn]
     exact fin (l11.ext f7)
   · rw [zl]
     intro K1 f1
     rw [zeroHd,za]
     refine (l9.ext f1).boxA fun b3 K2 _ l10=>?_
     rw [zl]
     intro K3 f3
     refine dec7 h.ok fun K4 f4=>?_
     rw [x3,za,x4,za,zl]
     intro K5 f5
     refine (((l10.ext f3).ext f4).ext f5).stAll (i:=2) (n:=1) rfl rfl rfl zHd_ok fun K6 l11=>?_
     rw [zl]
     intro K7 f7
     rw [zw,za,decide_eq_false (by omega),zn]
     exact fin (l11.ext f7)
 · rw [zl]
   intro H3 e3
   rw [yp,za]
   refine (l2.ext e3).boxA fun b2 H4 _ l4=>?_
   rw [zl]
   intro H5 e5
   refine dec3 h.ok fun H6 e6=>?_
   rw [x3,za,x4,za,zl]
   intro H7 e7
   refine (((l4.ext e5).ext e6).ext e7).stAll (i:=1) (n:=9) rfl rfl (Lay.size _) (Lay.cok _) fun H8 l8=>?_
   rw [zl]
   intro H9 e9
   have l9:Lx H H9 [.box b1 #[zm B,dv] 71,.box b2 (zp B L I).cells 74]:=l8.ext e9
   rw [zw,za,decide_eq_false (by omega),zn,l9.ldAll (i:=1) (n:=9) rfl (Lay.size _),za,l9.ldAll (i:=0) (n:=2) rfl rfl,za,zi,za,Nat.zero_add,l9.ld (i:=1) rfl,c3,za]
   refine ⟨_,qz l9.ext0,?_⟩
   refine ⟨?_,?_,trivial⟩
   · rw [zl]
     intro K1 f1
     refine dec7 h.ok fun K2 f2=>?_
     rw [x3,za,x4,za,zl]
     intro K3 f3
     rw [zeroHd,za]
     refine (((l9.ext f1).ext f2).ext f3).boxA fun b3 K4 _ l10=>?_
     rw [zl]
     intro K5 f5
     refine (l10.ext f5).stAll (i:=2) (n:=1) rfl rfl rfl zHd_ok fun K6 l11=>?_
     rw [zl]
     intro K7 f7
     rw [zw,za,decide_eq_false (by omega),zn]
     exact fin (l11.ext f7)
   · rw [zl]
     intro K1 f1
     rw [zeroHd,za]
     refine (l9.ext f1).boxA fun b3 K2 _ l10=>?_
     rw [zl]
     intro K3 f3
     refine dec7 h.ok fun K4 f4=>?_
     rw [x3,za,x4,za,zl]
     intro K5 f5
     refine (((l10.ext f3).ext f4).ext f5).stAll (i:=2) (n:=1) rfl rfl rfl zHd_ok fun K6 l11=>?_
     rw [zl]
     intro K7 f7
     rw [zw,za,decide_eq_false (by omega),zn]
     exact fin (l11.ext f7)
end
abbrev Ei:=Itm × Value × Value
def iN (e:Ei):Nel:=⟨yl e.1 e.2.1 e.2.2,[⟨e.2.1,98,1025,e.1.data.map zM⟩,⟨e.2.2,61,2,e.1.slots.map ZP⟩]⟩
def stC (iv:Value) (f s:Int):Array Value:=#[iv,zm f,zm s]
theorem zeroSt:zD Tryz.prog 26=some (.agg (stC (.slice none 0 0) 0 0)):=by kernel_rfl
theorem buildSt0:zu Tryz.prog 26 []=some (.agg (stC (.slice none 0 0) 0 0)):=by kernel_rfl
theorem buildSt (a b:Int):zu Tryz.prog 26 [(1,zm a),(2,zm b)]=some (.agg (stC (.slice none 0 0) a b)):=by kernel_rfl
theorem stC_ok {b:Option Addr} {n c:Nat} {f s:Int}:zF (stC (.slice b n c) f s):=by unfold zF; rw [← Array.all_toList]; rfl
noncomputable def eItm:ZT:=orE (zI Tryz.prog 24)
set_option maxRecDepth 100000 in
theorem elItm:zI Tryz.prog 24=some eItm:=by kernel_rfl
set_option maxRecDepth 100000 in
theorem eItm_f:eItm.type=40∧eItm.size=7∧eItm.zero.size=7∧eItm.bytes=88:=⟨by kernel_rfl,by kernel_rfl,by kernel_rfl,by kernel_rfl⟩
noncomputable def idsP (B L I:Int) (l:List (Int × Blk)) (n:Nat):List Nat:=((List.range n).map (·+1)).filter fun i=>decide (y9 B L I l i 0≠0)
noncomputable def itI (B L I:Int) (l:List (Int × Blk)) (i:Nat):Itm:=itP l ⟨i,y9 B L I l i,.bool false,Z2 B L I l (y9 B L I l i)⟩
theorem FlsOk.its {B L I:Int} {l:List (Int × Blk)} {n:Nat} {fs:List Fl} (h:FlsOk B L I l n fs):fs.map (itP l)=(idsP B L I l n).map (itI B L I l):=by
 have e:idsP B L I l n=fs.map (·.i):=h.ids.symm
 rw [e,List.map_map]
 refine List.map_congr_left fun x hx=>?_
 obtain ⟨h1,h2⟩:=h.is x hx
 obtain ⟨i,f,v,sp⟩:=x
 simp only at h1 h2
 subst h1
 subst h2
 rfl
theorem FlsOk.blks {B L I:Int} {l:List (Int × Blk)} {n:Nat} {fs:List Fl} (h:FlsOk B L I l n fs):z8 fs=(idsP B L I l n).flatMap fun i=>(Z2 B L I l (y9 B L I l i)).map (·.2):=by
 have e:idsP B L I l n=fs.map (·.i):=h.ids.symm
 have key:∀ gs:List Fl,(∀ x∈gs,x∈fs)→z8 gs=(gs.map (·.i)).flatMap fun i=>(Z2 B L I l (y9 B L I l i)).map (·.2):=by
   intro gs
   induction gs with
   | nil=>intro _; rfl
   | cons x r ih=>
     intro hg
     obtain ⟨h1,h2⟩:=h.is x (hg x (List.mem_cons_self ..))
     have e1:z8 (x :: r)=x.sp.map (·.2)++z8 r:=by simp [z8]
     rw [e1,ih fun y hy=>hg y (List.mem_cons_of_mem _ hy),List.map_cons,List.flatMap_cons,h2,h1]
 rw [e]; exact key fs fun x hx=>hx
theorem FlsOk.lenI {B L I:Int} {l:List (Int × Blk)} {n:Nat} {fs:List Fl} (h:FlsOk B L I l n fs):fs.length=(idsP B L I l n).length:=by
 have e:idsP B L I l n=fs.map (·.i):=h.ids.symm
 rw [e,List.length_map]
section
variable {H:Hp} {R:Value→Hp→Prop} {d:Nat} {dv:Value} {B L I:Int} {l:List (Int × Blk)}
theorem st_at {H H':Hp} {iv:Value} {es:List Ei} (h:New H H' (.nest 40 7 iv (es.map iN))):StAt H' iv (es.map (·.1)):=by
 refine ⟨es.map fun e=>yl e.1 e.2.1 e.2.2,?_,by simp,fun i t ht=>?_⟩
 · have:=h.nest_sv.sr
   rw [List.map_map] at this
   exact this
 · rw [List.getElem?_map] at ht
   cases he:es[i]? with
   | none=>rw [he] at ht; cases ht
   | some e=>
     rw [he] at ht
     injection ht with ht
     have hm:iN e∈es.map iN:=List.mem_map.2 ⟨e,List.mem_of_getElem? he,rfl⟩
     refine ⟨e.2.1,e.2.2,by rw [List.getElem?_map,he,← ht]; rfl,?_,?_⟩
     · rw [← ht]; exact (h.nest_sub _ hm _ (List.mem_cons_self ..)).sr
     · rw [← ht]; exact (h.nest_sub _ hm _ (List.mem_cons_of_mem _ (List.mem_cons_self ..))).sr
set_option maxHeartbeats 1000000 in
theorem look29 (h:ImOk H dv B L I l)
   (kbad:∀ H' s' (n:Nat) fs,Ext H H'→n≠0→lenE Tryz.prog 113 s'=some (zm n)→FlsOk B L I l I.toNat fs→¬ Sound B L I l fs→R (.tuple #[.agg (stC (.slice none 0 0) 0 0),s']) H')
   (k:∀ H' iv (es:List Ei) fs,Ext H H'→FlsOk B L I l I.toNat fs→Sound B L I l fs→es.map (·.1)=fs.map (itP l)→New H H' (.nest 40 7 iv (es.map iN))→R (.tuple #[.agg (stC iv (B - (zp B L I).dataAt - ((z8 fs).length:Nat)) (I - (fs.length:Nat))),.slice none 0 0]) H') :
   Fc Tryz.prog 46 #[.agg #[zm B,dv]] H R:=by
 obtain ⟨gL1,gL2,gI1,gI2,gB1,gB2,gD⟩:=id h.ok
 have hDA:(zp B L I).dataAt=1+L+(I+16) / 16+(B+8191) / 8192:=rfl
 have hBB:(zp B L I).B=B:=rfl
 have hII:(zp B L I).I=I:=rfl
 have x3:∀ {a b:Value},ze (.tuple #[a,b]) 0=some a:=rfl
 have x4:∀ {a b:Value},ze (.tuple #[a,b]) 1=some b:=rfl
 refine fn46 ?_
 simp only [sh46,zeroSt,buildSt0,za,zt]
 refine (Lo.start _ H:Lx H H []).boxA fun b1 H1 _ l1=>?_
 refine l1.boxA fun b2 H2 _ l2=>?_
 have l2:Lx H H2 [.box b1 #[zm B,dv] 71,.box b2 (stC (.slice none 0 0) 0 0) 26]:=l2
 rw [l2.ldAll (i:=0) (n:=2) rfl rfl,za]
 have hx:∀ {H'},Ext H H'→ImOk H' dv B L I l:=fun e=>⟨h.rd.ext e,h.whole,h.is,h.len,h.ok,h.sup,h.hd⟩
 refine open29 (hx l2.ext0) fun H3 d e3 lk=>?_
 have l3:=l2.ext e3
 rw [x3,za,x4,za,show yH Tryz.prog 166 true .eql (z6 d) (.pointer none) H3=some (.bool false) from Yc (e:=173) (by kernel_rfl),za,zn]
 refine wrongs29 lk fun H4 s4 ps kd fs e4 n4 hfs q4=>?_
 have l4:=l3.ext e4
 rw [Yt n4,za,zL,za,zf]
 refine ⟨fun hp=>?_,fun hp=>?_⟩
 · have hne:=yJ.1 hp
   refine l4.ret (i:=1) (K:=fun x H4=>R (.tuple #[x,s4]) H4) rfl rfl rfl stC_ok fun H' l'=>kbad H' s4 ps.length fs l'.ext0 ?_ (Yt n4) hfs fun S=>hne (q4.2 S)
   rintro e
   exact hne (List.length_eq_zero_iff.1 e)
 · have hs:=q4.1 (Classical.not_not.1 fun e=>hp (yJ.2 e))
   refine lk_files (lk.ext e4) fun H5 fv fs2 e5 n5 hfs2=>?_
   have hf5:=files_fr (lk.ext e4) (by omega) hfs2 n5
   have lk5:=(lk.ext e4).ext e5
   have l5:=l4.ext e5
   have hfl:=hf5.len
   have hbl:=blksP_len hf5.few
   simp only [zc,zi,Nat.zero_add,Nat.add_zero,Nat.reduceAdd,za]
   rw [zq lk5.top,lkC2,za,zq lk5.top,lkC10,za,zO,za,zq lk5.top,lkC4,za,hf5.row.lenE yz,za,List.length_map,zO,za,hBB,hII,zg (x:=B - (zp B L I).dataAt) (by omega) (by omega),zg (x:=I - (fs2.length:Int)) (by omega) (by omega),buildSt,za,zl]
   intro H6 e6
   refine ((Lo.start _ H5:Lx H5 H5 []).ext e6).boxA fun b3 H7 _ l7=>?_
   rw [zl]
   intro H8 e8
   refine (l7.ext e8).stAll (i:=0) (n:=3) rfl rfl rfl stC_ok fun H9 l9=>?_
   rw [zl]
   intro H10 e10
   have l10:=(l9.ext e10).new (Ext.refl _) (New.nilN H10 40 7)
   have s0:∀ {iv:Value} {f s:Int},(stC iv f s)[0]?=some iv:=rfl
   have s1:∀ {iv:Value} {f s:Int},(stC iv f s)[1]?=some (zm f):=rfl
   refine zx.mk (fun t H'=>∃ (i:Nat) (iv:Value) (es:List Ei),i≤fs2.length∧t=(zm i,())∧es.map (·.1)=(fs2.take i).map (itP l)∧Lx H5 H' [.box b3 (stC iv (B - (zp B L I).dataAt - ((z8 (fs2.take i)).length:Nat)) (I - (fs2.length:Nat))) 26,.nest 40 7 iv (es.map iN)])
     (fun t _=>mi t.1 fun i=>(fs2.length - i).toNat) ⟨0,.slice none 0 0,[],by omega,rfl,rfl,by
       have e0:B - (zp B L I).dataAt - ((z8 (fs2.take 0)).length:Nat)=B - (zp B L I).dataAt:=by simp [z8]
       rw [e0]; exact l10⟩ ?_
   rintro _ H11 ⟨i,iv,es,hi,rfl,hes,l11⟩
   have hf11:=hf5.ext l11.ext0
   have lk11:=lk5.ext l11.ext0
   rw [za,zr,za,zf]
   refine ⟨fun hlt=>?_,fun hge=>?_⟩
   · have hil:i<fs2.length:=by omega
     have hei:(fs2.map flC)[i]?=some (flC fs2[i]):=by rw [List.getElem?_map,List.getElem?_eq_getElem hil]; rfl
     have htk:fs2.take (i+1)=fs2.take i++[fs2[i]]:=List.take_succ_eq_append_getElem hil
     have hmem:fs2[i]∈fs2:=List.getElem_mem hil
     have hpl:=blksP_len (fs:=fs2.take i) fun y hy=>hf5.few y (List.mem_of_mem_take hy)
     rw [List.length_take] at hpl
     have hel:es.length≤i:=by
       have:=congrArg List.length hes
       rw [List.length_map,List.length_map,List.length_take] at this; omega
     generalize fs2[i]=x at hei htk hmem
     have hbt:(z8 (fs2.take (i+1))).length=(z8 (fs2.take i)).length+x.sp.length:=by rw [htk,blksP_app,blksP_one,List.length_append,List.length_map]
     have hfew:=hf5.few x hmem
     obtain ⟨bv,cv,exv⟩:=(hf5.sub x hmem).len
     obtain ⟨b,o,ha,hcl,hrow⟩:=hf11.row.el hei
     have hr:=hrow 0 18 (by omega)
     rw [Nat.add_zero,ext_all (c:=flC x) (n:=18) rfl] at hr
     refine zS.mk (fun _ H'=>∃ (iv':Value) (e:Ei),e.1=itP l x∧Lx H5 H' [.box b3 (stC iv' (B - (zp B L I).dataAt - ((z8 (fs2.take i)).length:Nat)) (I - (fs2.length:Nat))) 26,.nest 40 7 iv' ((es++[e]).map iN)]) ?_ ?_
     · rintro t H12 ⟨iv',e,he,l12⟩
       obtain ⟨b',o',ha',hcl',_⟩:=(hf5.ext l12.ext0).row.el hei
       simp only [zi,Nat.zero_add,Nat.add_zero,za]
       rw [l12.ld (i:=0) rfl,s1,za,ha',za,zi,za,hcl' 17 (by omega),show (flC x)[17]?=some x.v from rfl,za,(hf5.sub x hmem).lenE YM,za,List.length_map,zO,za,zg (by omega) (by omega)]
       refine l12.st (i:=0) (j:=1) (v:=zm (B - (zp B L I).dataAt - ((z8 (fs2.take i)).length:Nat) - (x.sp.length:Int))) rfl (by exact (by decide:1<3)) rfl rfl fun H13 l13=>?_
       rw [zk,za,zK,zv (by omega)]
       refine ⟨⟨i+1,iv',es++[e],by omega,rfl,?_,?_⟩,by simp only [zC]; omega⟩
       · rw [htk,List.map_append,List.map_append,hes]
         show _++[e.1]=_++[itP l x]
         rw [he]
       · have e2:B - (zp B L I).dataAt - ((z8 (fs2.take i)).length:Nat) - (x.sp.length:Int)=B - (zp B L I).dataAt - ((z8 (fs2.take (i+1))).length:Nat):=by rw [hbt]; omega
         rw [← e2]; exact l13
     · simp only [zi,Nat.zero_add,Nat.add_zero,za]
       rw [ha,za,hr,za]
       have fin:∀ {H':Hp} {v1 v2:Value} {C:Hp→Prop},Lx H5 H' [.box b3 (stC iv (B - (zp B L I).dataAt - ((z8 (fs2.take i)).length:Nat)) (I - (fs2.length:Nat))) 26,.nest 40 7 iv (es.map iN),.subs [⟨v1,98,1025,(itP l x).data.map zM⟩,⟨v2,61,2,(itP l x).slots.map ZP⟩]] →
           (∀ H'' iv' ,Lx H5 H'' [.box b3 (stC iv' (B - (zp B L I).dataAt - ((z8 (fs2.take i)).length:Nat)) (I - (fs2.length:Nat))) 26,.nest 40 7 iv' ((es++[(itP l x,v1,v2)]).map iN)]→C H'') →
           ForX true H' fun H27=>Pu (zI Tryz.prog 24) fun x64=>Pu (zH (some x64) 1 [(0,.agg (yl (itP l x) v1 v2))]) fun x65=>NewS x64.type 1 x65 H27 fun x66 H28=>ForX true H28 fun H29=>Y2 (zI Tryz.prog 24) iv x66 H29 fun x67 H30=>ForX true H30 fun H31=>Pu (zj (some 1) (z6 b3) x67 H31) fun H32=>ForX true H32 fun H33=>C H33:=by
         intro H' v1 v2 C l6 hk
         rw [zl]
         intro H27 e27
         obtain ⟨q1,w1,ew1⟩:=((l6.ssub (i:=2) rfl) _ (List.mem_cons_self ..)).len
         obtain ⟨q2,w2,ew2⟩:=((l6.ssub (i:=2) rfl) _ (List.mem_cons_of_mem _ (List.mem_cons_self ..))).len
         simp only at ew1 ew2
         subst ew1
         subst ew2
         refine (l6.ext e27).nestAppX elItm (i:=1) (j:=2) (by decide) (x:=iN (itP l x,_,_)) rfl rfl eItm_f (by omega) (by omega) rfl rfl itmC_ok (by rw [List.length_map]; omega) fun s' H30 l30=>?_
         have l30:=l30.takeN 2
         rw [zl]
         intro H31 e31
         obtain ⟨q3,w3,ew3⟩:=(l30.nsv (i:=1) rfl).len
         have hone:=(l30.nsv (i:=1) rfl).one
         refine (l30.ext e31).st (i:=0) (j:=0) (v:=s') rfl (by exact (by decide:0<3)) hone.2 hone.1 fun H32 l32=>?_
         rw [zl]
         intro H33 e33
         refine hk H33 s' ?_
         rw [List.map_append]
         exact l32.ext e33
       refine ⟨?_,?_,trivial⟩
       · rw [l11.ld (i:=0) rfl,s0,za,zl]
         intro H25 e25
         refine item29 (lk11.ext e25) ((hf11.ext e25).sub x hmem) hfew (hf5.ok x hmem) (flC_ok exv) fun H26 v1 v2 e26 n26=>?_
         refine fin ((l11.ext e25).new e26 n26) ?_
         exact fun H'' iv' l'=>⟨iv',_,rfl,l'⟩
       · rw [zl]
         intro H25 e25
         refine item29 (lk11.ext e25) ((hf11.ext e25).sub x hmem) hfew (hf5.ok x hmem) (flC_ok exv) fun H26 v1 v2 e26 n26=>?_
         have l26:=(l11.ext e25).new e26 n26
         rw [l26.ld (i:=0) rfl,s0,za]
         refine fin l26 ?_
         exact fun H'' iv' l'=>⟨iv',_,rfl,l'⟩
   · have ei:i=fs2.length:=by omega
     subst ei
     rw [List.take_length] at hes l11
     have ivs:=l11.nsv (i:=1) rfl
     obtain ⟨q3,w3,ew3⟩:=ivs.len
     have lf:=l5.new l11.ext0 (l11.outN (i:=1) rfl)
     rw [l11.ldAll (i:=0) (n:=3) rfl rfl,za]
     refine lf.ret (i:=1) (K:=fun x H4=>R (.tuple #[x,.slice none 0 0]) H4) rfl rfl rfl (by rw [ew3]; exact stC_ok) fun H' l'=>?_
     have:=k H' iv es fs l'.ext0 hfs hs (by rw [hes,hfs2.its,hfs.its]) (l'.outN (i:=2) rfl)
     rw [hfs.blks,← hfs2.blks,hfs.lenI,← hfs2.lenI] at this
     exact this
end
section
variable {P:Program} {T:TypeId} {a b x y:Array Value} {lit:Bool} {H:Hp}
theorem fldE_row {d:Nat} {f:Field} {n:Nat} {k:IntKind} (hn:f.name ≠ "_") (hr:IntRow P f.type n k) (hk:ldK P f.type=some (some n)) (ea:a.extract f.offset (f.offset+n)=x) (eb:b.extract f.offset (f.offset+n)=y) (hsx:x.size=n) (hsy:y.size=n) (hx:∀ i,i<n→∃ z,x[i]?=some (.int k z)) (hy:∀ i,i<n→∃ z,y[i]?=some (.int k z)):fldE P (d+2) a b f=some (decide (x=y)):=by
 unfold fldE
 rw [if_neg hn]
 simp only [hk,yK,ea,eb,Option.bind_some]
 rw [eqT_row hr hx hy d,Option.some.injEq]
 refine dec_dec ⟨fun h=>?_,fun h i _=>by rw [h]⟩
 apply Array.ext_getElem?
 intro i
 by_cases hi:i<n
 · exact h i (List.mem_range.2 hi)
 · rw [Array.getElem?_eq_none (by omega),Array.getElem?_eq_none (by omega)]
end
theorem heldU:Tryz.prog.underlying 98=some (.struct (fsOf 98)):=by kernel_rfl
theorem heldL2:(fsOf 98).toList=[YB 98 0,YB 98 1]:=by kernel_rfl
theorem heldN0:(YB 98 0).name = "Index" := by kernel_rfl
theorem heldN1:(YB 98 1).name = "Data" := by kernel_rfl
theorem heldO0:(YB 98 0).offset=0:=by kernel_rfl
theorem heldO1:(YB 98 1).offset=1:=by kernel_rfl
theorem heldT0:Tryz.prog.underlying (YB 98 0).type=some (.int .i64):=by kernel_rfl
theorem heldT1:(YB 98 1).type=94:=by kernel_rfl
theorem heldG:Tryz.prog.eqGuardType Tryz.prog.depth 98=false:=by kernel_rfl
theorem heldS:Tryz.prog.stoodInHeld 98=false:=by kernel_rfl
theorem blkK:ldK Tryz.prog 94=some (some 1024):=by kernel_rfl
theorem eqHeld {x y:Int × Blk} (hx:IsB x.2) (hy:IsB y.2) {lit:Bool} {H:Hp}:eqE Tryz.prog 98 lit (.agg (zM x)) (.agg (zM y)) H=some (decide (x=y)):=by
 rw [eqE_struct heldU heldL2 heldG heldS]
 have h0:fldE Tryz.prog 9999 (zM x) (zM y) (YB 98 0)=some (decide (x.1=y.1)):=fldE_int (d:=9998) (by rw [heldN0]; decide) heldT0 (by rw [heldO0]; exact Ys x) (by rw [heldO0]; exact Ys y)
 have h1:fldE Tryz.prog 9999 (zM x) (zM y) (YB 98 1)=some (decide (x.2=y.2)):=fldE_row (d:=9997) (by rw [heldN1]; decide) (by rw [heldT1]; exact rowB) (by rw [heldT1]; exact blkK) (by rw [heldO1]; exact heldC_1 hx) (by rw [heldO1]; exact heldC_1 hy) hx.size hy.size (fun i hi=>⟨_,hx.get hi⟩) (fun i hi=>⟨_,hy.get hi⟩)
 obtain ⟨x1,x2⟩:=x
 obtain ⟨y1,y2⟩:=y
 simp only at h0 h1
 unfold YE
 rw [h0]
 by_cases e1:x1=y1
 · rw [decide_eq_true e1]
   unfold YE
   rw [h1]
   by_cases e2:x2=y2
   · simp [e1,e2,YE]
   · simp [e1,e2]
 · simp [e1]
theorem list_same {α:Type} {a b:List α} (hl:a.length=b.length) {i:Nat} {x y:α} (hx:a[i]?=some x) (hy:b[i]?=some y) (h:a.take i=b.take i):(a.take (i+1)=b.take (i+1)↔x=y):=by
 have h1:i<a.length:=by
   rcases Nat.lt_or_ge i a.length with h1 | h1
   · exact h1
   · rw [List.getElem?_eq_none h1] at hx; cases hx
 have h2:i<b.length:=by omega
 rw [List.take_succ_eq_append_getElem h1,List.take_succ_eq_append_getElem h2,h]
 rw [List.getElem?_eq_getElem h1] at hx
 rw [List.getElem?_eq_getElem h2] at hy
 injection hx with hx; injection hy with hy
 rw [hx,hy]
 exact ⟨fun e=>by simpa using e,fun e=>by rw [e]⟩
section
variable {H:Hp} {R:Value→Hp→Prop}
theorem sameHeld {v w:Value} {a b:List (Int × Blk)} (hv:Sr 1025 H v (a.map zM)) (hw:Sr 1025 H w (b.map zM)) (ha:∀ x∈a,IsB x.2) (hb:∀ x∈b,IsB x.2) (hla:a.length<281474976710656) (hlb:b.length<281474976710656) (k:R (.bool (decide (a=b))) H):Fc Tryz.prog 128 #[v,w] H R:=by
 refine fn128 ?_
 simp only [sh128,zt]
 rw [hv.lenE yO,za,List.length_map,hw.lenE yO,za,List.length_map,zw,za,zf]
 have fin:∀ {c:Bool},(c=true↔a=b)→R (.bool c) H:=fun {c} hc=>by
   rw [show decide (a=b)=c from by rw [Bool.eq_iff_iff,decide_eq_true_eq,hc]] at k; exact k
 refine ⟨fun hne=>fin ⟨fun e=>(by cases e),fun e=>(by rw [e] at hne; exact absurd rfl hne)⟩,fun hl=>?_⟩
 have hl:a.length=b.length:=by omega
 refine zx.mk (fun t H'=>H'=H∧∃ i:Nat,i≤a.length∧t=(zm i,())∧a.take i=b.take i) (fun t _=>mi t.1 fun i=>(a.length - i).toNat) ⟨rfl,0,by omega,rfl,rfl⟩ ?_
 rintro _ H3 ⟨rfl,i,hi,rfl,hs⟩
 rw [za,zr,za,zf]
 refine ⟨fun hlt=>?_,fun hge=>?_⟩
 · have h1:i<a.length:=by omega
   have h2:i<b.length:=by omega
   have g1:a[i]?=some a[i]:=List.getElem?_eq_getElem h1
   have g2:b[i]?=some b[i]:=List.getElem?_eq_getElem h2
   have m1:=ha _ (List.getElem_mem h1)
   have m2:=hb _ (List.getElem_mem h2)
   generalize a[i]=x at g1 m1
   generalize b[i]=y at g2 m2
   have hst:=list_same hl g1 g2 hs
   obtain ⟨b1,o1,ha1,hr1⟩:=hv.row (i:=i) (v:=zM x) (by rw [List.getElem?_map,g1]; rfl)
   obtain ⟨b2,o2,ha2,hr2⟩:=hw.row (i:=i) (v:=zM y) (by rw [List.getElem?_map,g2]; rfl)
   rw [ha1,za,hr1,za,ha2,za,hr2,za,Ym,eqHeld m1 m2,Option.map_some,za,yy]
   refine ⟨fun e=>fin ⟨fun e=>(by cases e),fun e2=>?_⟩,fun e=>?_⟩
   · rw [decide_eq_false_iff_not] at e
     exact absurd (hst.1 (by rw [e2])) e
   · rw [decide_eq_true_eq] at e
     rw [zk,za,zK,zv (by omega)]
     exact ⟨⟨rfl,i+1,by omega,rfl,hst.2 e⟩,by simp only [zC]; omega⟩
 · have ei:i=a.length:=by omega
   subst ei
   refine fin ⟨fun _=>?_,fun _=>rfl⟩
   rw [List.take_length,hl,List.take_length] at hs
   exact hs
theorem sameEnts {v w:Value} {a b:List Ent} (hv:Sr 2 H v (a.map ZP)) (hw:Sr 2 H w (b.map ZP)) (hla:a.length<281474976710656) (hlb:b.length<281474976710656) (k:R (.bool (decide (a=b))) H):Fc Tryz.prog 129 #[v,w] H R:=by
 refine fn129 ?_
 simp only [sh129,zt]
 rw [hv.lenE undEnts,za,List.length_map,hw.lenE undEnts,za,List.length_map,zw,za,zf]
 have fin:∀ {c:Bool},(c=true↔a=b)→R (.bool c) H:=fun {c} hc=>by
   rw [show decide (a=b)=c from by rw [Bool.eq_iff_iff,decide_eq_true_eq,hc]] at k; exact k
 refine ⟨fun hne=>fin ⟨fun e=>(by cases e),fun e=>(by rw [e] at hne; exact absurd rfl hne)⟩,fun hl=>?_⟩
 have hl:a.length=b.length:=by omega
 refine zx.mk (fun t H'=>H'=H∧∃ i:Nat,i≤a.length∧t=(zm i,())∧a.take i=b.take i) (fun t _=>mi t.1 fun i=>(a.length - i).toNat) ⟨rfl,0,by omega,rfl,rfl⟩ ?_
 rintro _ H3 ⟨rfl,i,hi,rfl,hs⟩
 rw [za,zr,za,zf]
 refine ⟨fun hlt=>?_,fun hge=>?_⟩
 · have h1:i<a.length:=by omega
   have h2:i<b.length:=by omega
   have g1:a[i]?=some a[i]:=List.getElem?_eq_getElem h1
   have g2:b[i]?=some b[i]:=List.getElem?_eq_getElem h2
   generalize a[i]=x at g1
   generalize b[i]=y at g2
   have hst:=list_same hl g1 g2 hs
   obtain ⟨b1,o1,ha1,hr1⟩:=hv.row (i:=i) (v:=ZP x) (by rw [List.getElem?_map,g1]; rfl)
   obtain ⟨b2,o2,ha2,hr2⟩:=hw.row (i:=i) (v:=ZP y) (by rw [List.getElem?_map,g2]; rfl)
   rw [ha1,za,hr1,za,ha2,za,hr2,za,Ym,eqEnt,Option.map_some,za,yy]
   refine ⟨fun e=>fin ⟨fun e=>(by cases e),fun e2=>?_⟩,fun e=>?_⟩
   · rw [decide_eq_false_iff_not] at e
     exact absurd (hst.1 (by rw [e2])) e
   · rw [decide_eq_true_eq] at e
     rw [zk,za,zK,zv (by omega)]
     exact ⟨⟨rfl,i+1,by omega,rfl,hst.2 e⟩,by simp only [zC]; omega⟩
 · have ei:i=a.length:=by omega
   subst ei
   refine fin ⟨fun _=>?_,fun _=>rfl⟩
   rw [List.take_length,hl,List.take_length] at hs
   exact hs
theorem sameItem {t u:Itm} {d1 s1 d2 s2:Value} (hd1:Sr 1025 H d1 (t.data.map zM)) (hs1:Sr 2 H s1 (t.slots.map ZP)) (hd2:Sr 1025 H d2 (u.data.map zM)) (hs2:Sr 2 H s2 (u.slots.map ZP)) (ht:ZK t) (hu:ZK u) (k:∀ H',Ext H H'→R (.bool (decide (t=u))) H'):Fc Tryz.prog 82 #[.agg (yl t d1 s1),.agg (yl u d2 s2)] H R:=by
 have g0:∀ {t:Itm} {d s:Value},(yl t d s)[0]?=some (zm t.inum):=rfl
 have g1:∀ {t:Itm} {d s:Value},(yl t d s)[1]?=some (.int .u16 t.kind):=rfl
 have g2:∀ {t:Itm} {d s:Value},(yl t d s)[2]?=some (zm t.links):=rfl
 have g3:∀ {t:Itm} {d s:Value},(yl t d s)[3]?=some (zm t.size):=rfl
 have g4:∀ {t:Itm} {d s:Value},(yl t d s)[4]?=some (zm t.blocks):=rfl
 have g5:∀ {t:Itm} {d s:Value},(yl t d s)[5]?=some d:=rfl
 have g6:∀ {t:Itm} {d s:Value},(yl t d s)[6]?=some s:=rfl
 refine fn82 ?_
 simp only [sh82]
 refine (Lo.start _ H:Lx H H []).boxA fun b1 H1 _ l1=>?_
 refine l1.boxA fun b2 H2 _ l2=>?_
 have l2:Lx H H2 [.box b1 (yl t d1 s1) 40,.box b2 (yl u d2 s2) 40]:=l2
 have fin:∀ {H'} {c:Bool},Ext H H'→(c=true↔t=u)→R (.bool c) H':=fun {H' c} e hc=>by
   have:=k H' e
   rw [show decide (t=u)=c from by rw [Bool.eq_iff_iff,decide_eq_true_eq,hc]] at this; exact this
 have no:∀ {H'},Ext H H'→t≠u→R (.bool false) H':=fun e h=>fin e ⟨fun e=>(by cases e),fun e=>absurd e h⟩
 simp only [zi,Nat.zero_add,Nat.add_zero,za]
 rw [l2.ld (i:=0) rfl,g0,za,l2.ld (i:=1) rfl,g0,za,zy,za,zf]
 refine ⟨fun e0=>?_,fun e=>no l2.ext0 fun h=>e (by rw [h])⟩
 rw [l2.ld (i:=0) rfl,g1,za,l2.ld (i:=1) rfl,g1,za,zy,za,zf]
 refine ⟨fun e1=>?_,fun e=>no l2.ext0 fun h=>e (by rw [h])⟩
 rw [l2.ld (i:=0) rfl,g2,za,l2.ld (i:=1) rfl,g2,za,zy,za,zf]
 refine ⟨fun e2=>?_,fun e=>no l2.ext0 fun h=>e (by rw [h])⟩
 rw [l2.ld (i:=0) rfl,g3,za,l2.ld (i:=1) rfl,g3,za,zy,za,zf]
 refine ⟨fun e3=>?_,fun e=>no l2.ext0 fun h=>e (by rw [h])⟩
 rw [l2.ld (i:=0) rfl,g4,za,l2.ld (i:=1) rfl,g4,za,zy,za,zf]
 refine ⟨fun e4=>?_,fun e=>no l2.ext0 fun h=>e (by rw [h])⟩
 rw [l2.ld (i:=0) rfl,g5,za,l2.ld (i:=1) rfl,g5,za]
 refine sameHeld (hd1.ext l2.ext0) (hd2.ext l2.ext0) (fun x hx=>(ht.data x hx).2) (fun x hx=>(hu.data x hx).2) ht.dlen hu.dlen ?_
 rw [zf]
 refine ⟨fun e5=>?_,fun e=>no l2.ext0 fun h=>e (by rw [h])⟩
 rw [l2.ld (i:=0) rfl,g6,za,l2.ld (i:=1) rfl,g6,za]
 refine sameEnts (hs1.ext l2.ext0) (hs2.ext l2.ext0) ht.slen hu.slen ?_
 refine fin l2.ext0 ?_
 rw [decide_eq_true_eq]
 refine ⟨fun e6=>?_,fun h=>by rw [h]⟩
 obtain ⟨a0,a1,a2,a3,a4,a5,a6⟩:=t
 obtain ⟨c0,c1,c2,c3,c4,c5,c6⟩:=u
 simp only at e0 e1 e2 e3 e4 e5 e6
 have e1:a1=c1:=by omega
 subst e0 e1 e2 e3 e4 e5 e6
 rfl
theorem sameSt {iv jv:Value} {is js:List Itm} {f s f' s':Int} (hi:StAt H iv is) (hj:StAt H jv js) (hio:∀ t∈is,ZK t) (hjo:∀ t∈js,ZK t) (hli:is.length<281474976710656) (hlj:js.length<281474976710656) (k:∀ H',Ext H H'→R (.bool (decide (f=f'∧s=s'∧is=js))) H'):Fc Tryz.prog 47 #[.agg (stC iv f s),.agg (stC jv f' s')] H R:=by
 have g0:∀ {iv:Value} {f s:Int},(stC iv f s)[0]?=some iv:=rfl
 have g1:∀ {iv:Value} {f s:Int},(stC iv f s)[1]?=some (zm f):=rfl
 have g2:∀ {iv:Value} {f s:Int},(stC iv f s)[2]?=some (zm s):=rfl
 have undItms:Tryz.prog.underlying 24=some (.slice 40):=by kernel_rfl
 obtain ⟨cs,i1,i2,i3⟩:=hi
 obtain ⟨ds,j1,j2,j3⟩:=hj
 refine fn47 ?_
 simp only [sh47,zt]
 refine (Lo.start _ H:Lx H H []).boxA fun b1 H1 _ l1=>?_
 refine l1.boxA fun b2 H2 _ l2=>?_
 have l2:Lx H H2 [.box b1 (stC iv f s) 26,.box b2 (stC jv f' s') 26]:=l2
 have fin:∀ {H'} {c:Bool},Ext H H'→(c=true↔f=f'∧s=s'∧is=js)→R (.bool c) H':=fun {H' c} e hc=>by
   have:=k H' e
   rw [show decide (f=f'∧s=s'∧is=js)=c from by rw [Bool.eq_iff_iff,decide_eq_true_eq,hc]] at this; exact this
 simp only [zi,Nat.zero_add,Nat.add_zero,za]
 refine zS.mk (fun t H'=>H'=H2∧t.1=.bool (decide (¬ (f=f'∧s=s'∧is.length=js.length)))) ?_ ?_
 · rintro ⟨t,u⟩ H3 ⟨rfl,ht⟩
   simp only at ht
   subst ht
   rw [zf]
   refine ⟨fun hb=>fin l2.ext0 ⟨fun e=>(by cases e),fun e=>absurd ⟨e.1,e.2.1,by rw [e.2.2]⟩ hb⟩,fun hb=>?_⟩
   obtain ⟨hf,hs,hl⟩:=Classical.not_not.1 hb
   refine zx.mk (fun t H'=>∃ i:Nat,i≤is.length∧t=(zm i,())∧is.take i=js.take i∧Lx H H' [.box b1 (stC iv f s) 26,.box b2 (stC jv f' s') 26]) (fun t _=>mi t.1 fun i=>(is.length - i).toNat) ⟨0,by omega,rfl,rfl,l2⟩ ?_
   rintro _ H4 ⟨i,hi,rfl,hst,l4⟩
   rw [l4.ld (i:=0) rfl,g0,za,i1.lenE undItms,za,i2,zr,za,zf]
   refine ⟨fun hlt=>?_,fun hge=>?_⟩
   · have q1:i<is.length:=by omega
     have q2:i<js.length:=by omega
     have e1:is[i]?=some is[i]:=List.getElem?_eq_getElem q1
     have e2:js[i]?=some js[i]:=List.getElem?_eq_getElem q2
     have m1:=hio _ (List.getElem_mem q1)
     have m2:=hjo _ (List.getElem_mem q2)
     generalize is[i]=x at e1 m1
     generalize js[i]=y at e2 m2
     have hss:=list_same hl e1 e2 hst
     obtain ⟨d1,s1,r1,r2,r3⟩:=i3 i x e1
     obtain ⟨d2,s2,t1,t2,t3⟩:=j3 i y e2
     obtain ⟨b3,o3,ha3,hr3⟩:=(i1.ext l4.ext0).row r1
     obtain ⟨b4,o4,ha4,hr4⟩:=(j1.ext l4.ext0).row t1
     rw [za,ha3,za,hr3,za,l4.ld (i:=1) rfl,g0,za,ha4,za,hr4,za]
     refine sameItem (r2.ext l4.ext0) (r3.ext l4.ext0) (t2.ext l4.ext0) (t3.ext l4.ext0) m1 m2 fun H5 e5=>?_
     rw [zT,za,yy]
     refine ⟨fun e=>?_,fun e=>?_⟩
     · rw [decide_eq_false_iff_not] at e
       exact fin (l4.ext0.trans e5) ⟨fun e=>(by cases e),fun h=>absurd (hss.1 (by rw [h.2.2])) e⟩
     · rw [decide_eq_true_eq] at e
       rw [zk,za,zK,zv (by omega)]
       exact ⟨⟨i+1,by omega,rfl,hss.2 e,l4.ext e5⟩,by simp only [zC]; omega⟩
   · have ei:i=is.length:=by omega
     subst ei
     rw [List.take_length,hl,List.take_length] at hst
     exact fin l4.ext0 ⟨fun _=>⟨hf,hs,hst⟩,fun _=>rfl⟩
 · rw [l2.ld (i:=0) rfl,g1,za,l2.ld (i:=1) rfl,g1,za,zw,za,zf]
   refine ⟨fun e=>⟨rfl,yf fun h=>e h.1⟩,fun e=>?_⟩
   have e:=Classical.not_not.1 e
   rw [l2.ld (i:=0) rfl,g2,za,l2.ld (i:=1) rfl,g2,za,zw,za,zf]
   refine ⟨fun e=>⟨rfl,yf fun h=>e h.2.1⟩,fun e'=>?_⟩
   have e':=Classical.not_not.1 e'
   rw [l2.ld (i:=0) rfl,g0,za,i1.lenE undItms,za,l2.ld (i:=1) rfl,g0,za,j1.lenE undItms,za,i2,j2,zw,za]
   refine ⟨rfl,Yh ⟨fun h h2=>h (by rw [h2.2.2]),fun h h2=>h ⟨e,e',by omega⟩⟩⟩
end
theorem imgL_ge:∀ (L:List Blk) (k:Nat) (x:Int × Blk),x∈Yg k L→(k:Int)≤x.1
 | [],_,_,h=>by cases h
 | c :: l,k,x,h=>by
   rw [yF] at h
   split at h
   · have:=imgL_ge l (k+1) x h; omega
   · rcases List.mem_cons.1 h with e | e
     · rw [e]; show (k:Int)≤k; omega
     · have:=imgL_ge l (k+1) x e; omega
theorem imgL_is:∀ (L:List Blk) (k:Nat),(∀ c∈L,IsB c)→∀ x∈Yg k L,IsB x.2
 | [],_,_,_,h=>by cases h
 | c :: l,k,hL,x,h=>by
   rw [yF] at h
   split at h
   · exact imgL_is l (k+1) (fun z hz=>hL z (List.mem_cons_of_mem _ hz)) x h
   · rcases List.mem_cons.1 h with e | e
     · rw [e]; exact hL c (List.mem_cons_self ..)
     · exact imgL_is l (k+1) (fun z hz=>hL z (List.mem_cons_of_mem _ hz)) x e
theorem imgL_okL {n:Int}:∀ (L:List Blk) (k:Nat) (b:Int),(∀ c∈L,IsB c)→b<k→(k:Int)+L.length≤n→okL n b (Yg k L)
 | [],_,_,_,_,_=>trivial
 | c :: l,k,b,hL,hb,hn=>by
   have hn':((k+1:Nat):Int)+l.length≤n:=by simp only [List.length_cons] at hn; omega
   have hL':∀ z∈l,IsB z:=fun z hz=>hL z (List.mem_cons_of_mem _ hz)
   rw [yF]
   split
   · exact imgL_okL l (k+1) b hL' (by omega) hn'
   · rename_i hc
     exact ⟨hb,by show (k:Int)<n; omega,hc,hL c (List.mem_cons_self ..),imgL_okL l (k+1) k hL' (by omega) hn'⟩
theorem imgAt_cons (x:Int × Blk) (l:List (Int × Blk)) (a:Int):zN (x :: l) a=if x.1=a then x.2 else zN l a:=by
 unfold zN
 by_cases h:x.1=a
 · rw [List.find?_cons_of_pos (by simpa using h),if_pos h]; rfl
 · rw [List.find?_cons_of_neg (by simpa using h),if_neg h]
theorem imgAt_out {l:List (Int × Blk)} {a:Int} (h:∀ x∈l,x.1≠a):zN l a=zB:=by
 unfold zN
 rw [List.find?_eq_none.2 fun x hx=>by simpa using h x hx]; rfl
theorem yU:∀ (L:List Blk) (k j:Nat) (c:Blk),L[j]?=some c→zN (Yg k L) ((k+j:Nat):Int)=c
 | [],_,_,_,h=>by simp at h
 | z :: l,k,0,c,h=>by
   injection h with h
   subst h
   rw [yF]
   split
   · rename_i hz
     rw [imgAt_out fun x hx=>by have:=imgL_ge l (k+1) x hx; omega,hz]
   · rw [imgAt_cons,if_pos (by show (k:Int)=((k+0:Nat):Int); omega)]
 | z :: l,k,j+1,c,h=>by
   have ih:=yU l (k+1) j c h
   rw [show k+1+j=k+(j+1) by omega] at ih
   rw [yF]
   split
   · exact ih
   · rw [imgAt_cons,if_neg (by show ¬ (k:Int)=((k+(j+1):Nat):Int); omega)]; exact ih
theorem dirN_idx {f:Ino} {n:Nat} {y:Spt} (h:y∈dirN f n) : -1≤y.1∧y.1≤n:=by
 unfold dirN at h
 obtain ⟨i,hi,e⟩:=List.mem_filterMap.1 h
 rw [List.mem_range] at hi
 split at e
 · cases e
 · injection e with e; rw [← e]; show -1≤(i:Int)∧(i:Int)≤n; omega
theorem one_idx {n:Nat} {y:Spt} (h:y∈one_ n):y.1 = -1:=by
 unfold one_ at h
 split at h
 · cases h
 · rw [List.mem_singleton.1 h]
theorem unN_idx {B L I:Int} {l:List (Int × Blk)} {a:Nat} {first:Int} {y:Spt} (h:y∈unN B L I l a first):first≤y.1∧y.1≤first+256:=by
 unfold unN at h
 split at h
 · unfold underP at h
   obtain ⟨i,hi,e⟩:=List.mem_filterMap.1 h
   rw [List.mem_range] at hi
   split at e
   · cases e
   · injection e with e; rw [← e]; show first≤first+(i:Int)∧first+(i:Int)≤first+256; omega
 · cases h
theorem spotsP_idx {B L I:Int} {l:List (Int × Blk)} {f:Ino} {y:Spt} (h:y∈Z2 B L I l f) : -1≤y.1∧y.1≤70000:=by
 unfold Z2 at h
 simp only [List.mem_append] at h
 rcases h with (((h | h) | h) | h) | h
 · have:=dirN_idx h; omega
 · have:=one_idx h; omega
 · have:=unN_idx h; omega
 · have:=one_idx h; omega
 · split at h
   · unfold dblN at h
     obtain ⟨i,hi,h⟩:=List.mem_flatMap.1 h
     rw [List.mem_range] at hi
     rcases List.mem_append.1 h with h | h
     · have:=one_idx h; omega
     · have:=unN_idx h; omega
   · cases h
theorem nulS_le (c:Array Value):∀ f i,nulS c f i≤i+f
 | 0,i=>Nat.le_refl _
 | f+1,i=>by
   unfold nulS
   split
   · omega
   · have:=nulS_le c f (i+1); omega
theorem slotE_size (c:Array Value):(slotE c).2.size≤14:=by
 unfold slotE
 split
 · show (decS c (nulS c 14 0)).size≤14
   rw [decS_size]
   have:=nulS_le c 14 0; omega
 · exact Nat.zero_le _
theorem itP_ok {B L I:Int} {l:List (Int × Blk)} {n:Nat} {fs:List Fl} (his:∀ x∈l,IsB x.2) (hn:n≤65535) (hf:FlsOk B L I l n fs):∀ t∈fs.map (itP l),ZK t:=by
 intro t ht
 obtain ⟨x,hx,rfl⟩:=List.mem_map.1 ht
 have hm:=hf.mem hx
 obtain ⟨e1,e2⟩:=hf.is x hx
 have hok:InoOk x.f:=by rw [e1]; exact inoP_ok his _
 have h0:=hok 0 (by omega)
 have h1:=hok 1 (by omega)
 have h2:=hok 2 (by omega)
 have h3:=hok 3 (by omega)
 simp only [fw,Nat.reduceLT,if_false,if_true,Nat.reducePow,Nat.lt_irrefl] at h0 h1 h2 h3
 have hsp:x.sp.length≤66100:=by rw [e2]; exact spotsP_len _ _ _ _ _
 refine ⟨?_,h0,?_,?_,?_,?_,?_,fun y hy=>?_,fun e he=>?_⟩
 · show -9223372036854775808≤(x.i:Int)∧(x.i:Int)≤9223372036854775807; omega
 · show -9223372036854775808≤(x.f 1:Int)∧(x.f 1:Int)≤9223372036854775807; omega
 · show -9223372036854775808≤(x.f 2:Int)∧(x.f 2:Int)≤9223372036854775807; omega
 · show -9223372036854775808≤(x.f 3:Int)∧(x.f 3:Int)≤9223372036854775807; omega
 · unfold itP
   simp only
   split
   · simp
   · have:=dataP_len l x x.sp.length; omega
 · unfold itP
   simp only
   split
   · rw [yS]; omega
   · simp
 · unfold itP at hy
   simp only at hy
   split at hy
   · cases hy
   · unfold dataP at hy
     obtain ⟨z,hz,rfl⟩:=List.mem_map.1 hy
     have hz:=List.mem_of_mem_take (List.mem_filter.1 hz).1
     rw [e2] at hz
     have:=spotsP_idx hz
     exact ⟨by show -9223372036854775808≤z.1∧z.1≤9223372036854775807; omega,Zw his _⟩
 · unfold itP at he
   simp only at he
   split at he
   · unfold ZE at he
     obtain ⟨i,_,rfl⟩:=List.mem_map.1 he
     refine ⟨slotE_lt (rawS_is his x i),?_⟩
     have:=slotE_size (rawS l x i); omega
   · cases he
section
variable {H:Hp} {R:Value→Hp→Prop}
theorem lenNilFlts:lenE Tryz.prog 113 (.slice none 0 0)=some (zm 0):=by kernel_rfl
theorem im_ok {B L I:Int} {m:Pm} {its:List Itm} {sd:Nat} {dv:Value} (hg:Zd B L I) (hm:MOf m B L I) (hits:∀ t∈its,ZK t) (hb:(m.B:Int)=B) (hr:Sr 1025 H dv ((Yg 0 (Zq m (zA m its (pg0 m)) sd)).map zM)):ImOk H dv B L I (Yg 0 (Zq m (zA m its (pg0 m)) sd)):=by
 obtain ⟨gL1,gL2,gI1,gI2,gB1,gB2,gD⟩:=id hg
 obtain ⟨h0,h1,h2,h3⟩:=laid_low hm hg hits sd
 refine ⟨hr,imgL_okL _ 0 (-1) h3 (by omega) (by omega),imgL_is _ 0 h3,?_,hg,?_,?_⟩
 · have:=imgL_len (Zq m (zA m its (pg0 m)) sd) 0
   omega
 · exact yU _ 0 0 _ h0
 · exact yU _ 0 1 _ h1
structure MaySt (B L I:Int) (its:List Itm) (fr sp:Int) (m:Pm) (fs:List Fl):Prop where
 small:B≤4096
 ok:Zd B L I
 mof:MOf m B L I
 room:(zA m its (pg0 m)).full=false
 files:FlsOk B L I (Yg 0 (Zq m (zA m its (pg0 m)) 0)) I.toNat fs
 sound:Sound B L I (Yg 0 (Zq m (zA m its (pg0 m)) 0)) fs
 its:its=fs.map (itP (Yg 0 (Zq m (zA m its (pg0 m)) 0)))
 free:fr=B - (zp B L I).dataAt - ((z8 fs).length:Nat)
 spare:sp=I - (fs.length:Nat)
set_option maxHeartbeats 1000000 in
theorem may_kit {B L I:Int} (hB : -9223372036854775808≤B∧B≤9223372036854775807) {iv:Value} {its:List Itm} (hst:StAt H iv its) (hits:∀ t∈its,ZK t) (hlen:its.length<281474976710656) {fr sp:Int} (hiv:∃ b n c,iv=.slice b n c)
   (k0:∀ H',Ext H H'→R (.bool false) H') (k:∀ H' m fs,Ext H H'→MaySt B L I its fr sp m fs→R (.bool true) H') :
   Fc Tryz.prog 18 #[.agg #[zm B,zm L,zm I],.agg (stC iv fr sp)] H R:=by
 have x3:∀ {a b:Value},ze (.tuple #[a,b]) 0=some a:=rfl
 have x4:∀ {a b:Value},ze (.tuple #[a,b]) 1=some b:=rfl
 refine fn18 ?_
 simp only [sh18,zeroImg,zeroSt,za]
 refine (Lo.start _ H:Lx H H []).boxA fun b1 H1 _ l1=>?_
 refine l1.boxA fun b2 H2 _ l2=>?_
 have l2:Lx H H2 [.box b1 #[zm B,zm L,zm I] 23,.box b2 (stC iv fr sp) 26]:=l2
 simp only [zi,Nat.zero_add,Nat.add_zero,za]
 rw [l2.ld (i:=0) rfl,show (#[zm B,zm L,zm I]:Array Value)[0]?=some (zm B) from rfl,za,zL,za,zf]
 refine ⟨fun _=>k0 _ l2.ext0,fun hsm=>?_⟩
 rw [l2.ldAll (i:=0) (n:=3) rfl rfl,za,l2.ldAll (i:=1) (n:=3) rfl rfl,za]
 refine laid_ok hB (hst.ext l2.ext0) hits hlen (by decide) (fun H3 e3 _=>?_) (fun H3 dv m e3 hg hm hfull n3=>?_)
 · refine (l2.ext e3).boxA fun b3 H4 _ l4=>?_
   refine l4.stAll (i:=2) (n:=2) (vs:=#[zm 0,.slice none 0 0]) rfl rfl rfl (by unfold zF; rw [← Array.all_toList]; rfl) fun H5 l5=>?_
   rw [zi,za,Nat.zero_add,l5.ld (i:=2) rfl,show (#[zm 0,.slice none 0 0]:Array Value)[0]?=some (zm 0) from rfl,za,zy,za,decide_eq_true rfl,Zm]
   exact k0 _ l5.ext0
 · obtain ⟨gL1,gL2,gI1,gI2,gB1,gB2,gD⟩:=id hg
   have hsd:((0:Int) % 1000003).toNat=0:=rfl
   rw [hsd] at n3
   obtain ⟨q,r,edv⟩:=n3.sv.sr.len
   have his:∀ x∈Yg 0 (Zq m (zA m its (pg0 m)) 0),IsB x.2:=imgL_is _ 0 (laid_low hm hg hits 0).2.2.2
   have im:ImOk H3 dv B L I (Yg 0 (Zq m (zA m its (pg0 m)) 0)):=im_ok hg hm hits hm.B n3.sv.sr
   have hx:∀ {H'},Sr 1025 H' dv ((Yg 0 (Zq m (zA m its (pg0 m)) 0)).map zM)→ImOk H' dv B L I (Yg 0 (Zq m (zA m its (pg0 m)) 0)):=fun hr=>⟨hr,im.whole,im.is,im.len,im.ok,im.sup,im.hd⟩
   have hmay:∀ fs,FlsOk B L I (Yg 0 (Zq m (zA m its (pg0 m)) 0)) I.toNat fs→Sound B L I (Yg 0 (Zq m (zA m its (pg0 m)) 0)) fs→its=fs.map (itP (Yg 0 (Zq m (zA m its (pg0 m)) 0)))→fr=B - (zp B L I).dataAt - ((z8 fs).length:Nat)→sp=I - (fs.length:Nat)→MaySt B L I its fr sp m fs:=fun fs h1 h2 h3 h4 h5=>⟨by omega,hg,hm,hfull,h1,h2,h3,h4,h5⟩
   have l3:=l2.new e3 n3
   generalize Yg 0 (Zq m (zA m its (pg0 m)) 0)=l at his im hx hmay l3
   have e00:(#[zm B,dv]:Array Value)[0]?=some (zm B):=rfl
   refine l3.boxA fun b3 H4 f4 l4=>?_
   refine l4.stAll (i:=3) (n:=2) (vs:=#[zm B,dv]) rfl rfl rfl (by rw [edv]; unfold zF; rw [← Array.all_toList]; rfl) fun H5 l5=>?_
   have l5:Lx H H5 [.box b1 #[zm B,zm L,zm I] 23,.box b2 (stC iv fr sp) 26,.sl 98 1025 dv (l.map zM),.box b3 #[zm B,dv] 71]:=l5
   rw [zi,za,Nat.zero_add,l5.ld (i:=3) rfl,e00,za,zy,za,decide_eq_false (by omega),zn,l5.ldAll (i:=3) (n:=2) rfl rfl,za]
   refine look29 (hx (l5.sv (i:=2) rfl).sr) (fun H6 s' n fs e6 hn hle _ _=>?_) (fun H6 iv2 es fs e6 hfs hS hes n6=>?_)
   · rw [x3,za,x4,za]
     refine (l5.ext e6).boxA fun b4 H7 _ l7=>?_
     refine l7.stAll (i:=4) (n:=3) (vs:=stC (.slice none 0 0) 0 0) rfl rfl rfl stC_ok fun H8 l8=>?_
     rw [hle,za,zy,za,decide_eq_false (by omega),zn]
     exact k0 _ l8.ext0
   · have l6:=l5.new e6 n6
     obtain ⟨q2,r2,eiv⟩:=n6.nest_sv.len
     rw [x3,za,x4,za]
     refine l6.boxA fun b4 H7 _ l7=>?_
     refine l7.stAll (i:=5) (n:=3) (vs:=stC iv2 (B - (zp B L I).dataAt - ((z8 fs).length:Nat)) (I - (fs.length:Nat))) rfl rfl rfl (by rw [eiv]; exact stC_ok) fun H8 l8=>?_
     rw [lenNilFlts,za,zy,za,decide_eq_true rfl,Zm,l8.ldAll (i:=5) (n:=3) rfl rfl,za,l8.ldAll (i:=1) (n:=3) rfl rfl,za]
     have st2:=st_at (l8.outN (i:=4) rfl)
     have hfl:=hfs.len
     rw [hes] at st2
     refine sameSt st2 (hst.ext l8.ext0) (itP_ok his (by omega) hfs) hits (by rw [List.length_map]; omega) hlen fun H9 e9=>?_
     by_cases hc:B - (zp B L I).dataAt - ((z8 fs).length:Nat)=fr∧I - (fs.length:Nat)=sp∧fs.map (itP l)=its
     · rw [decide_eq_true hc]
       exact k H9 m fs (l8.ext0.trans e9) (hmay fs hfs hS hc.2.2.symm hc.1.symm hc.2.1.symm)
     · rw [decide_eq_false hc]
       exact k0 _ (l8.ext0.trans e9)
end
structure RDk where
 n:Int
 held:List (Int × Blk)
 wait:List (Int × Blk)
 fused:Bool
 left:Int
 dead:Bool
 ops:List (Array Value)
 count:Int
 seen:Int
 claims:Int
 owner:Int
def rdkC (D:RDk) (hv wv ov:Value):Array Value:=#[zm D.n,hv,wv,.bool D.fused,zm D.left,.bool D.dead,ov,zm D.count,zm D.seen,zm D.claims,zm D.owner]
structure RDkOk (D:RDk):Prop where
 held:∀ x∈D.held,IsB x.2
 wait:∀ x∈D.wait,IsB x.2
 hlen:D.held.length≤1048576
 wlen:D.wait.length<1099511627776
 seen:0≤D.seen∧D.seen<4611686018427387904
 claims:0≤D.claims∧D.claims<4611686018427387904
def rdkAll (r:Nat) (D:RDk) (hv wv ov:Value):List Ob:=[.box r (rdkC D hv wv ov) 143,.sl 98 1025 hv (D.held.map zM),.sl 98 1025 wv (D.wait.map zM),.sl 294 1026 ov D.ops]
def yX (r:Nat) (D:RDk):Ob:=
 ⟨fun H O=>∃ hv wv ov,(Ob.all (rdkAll r D hv wv ov)).at_ H O,
  fun ⟨_,_,_,h⟩=>Ob.own _ h,fun ⟨hv,wv,ov,h⟩ hb hs ho hl=>⟨hv,wv,ov,Ob.frame _ h hb hs ho hl⟩⟩
def RDk.load (n:Int) (l:List (Int × Blk)):RDk:=⟨n,l,[],false,0,false,[],0,0,0,0⟩
theorem RDk.load_ok {n:Int} {l:List (Int × Blk)} (h:∀ x∈l,IsB x.2) (hl:l.length≤1048576):RDkOk (RDk.load n l):=⟨h,fun x hx=>(by cases hx),hl,(by simp [RDk.load]),(by simp [RDk.load]),(by simp [RDk.load])⟩
theorem buildRdk (n:Int) (b:Option Addr) (k c:Nat):zu Tryz.prog 143 [(0,zm n),(1,.slice b k c)]=some (.agg (rdkC (RDk.load n []) (.slice b k c) (.slice none 0 0) (.slice none 0 0))):=by kernel_rfl
noncomputable def RDk.at_ (D:RDk) (a:Int):Blk:=match D.wait.reverse.find? fun x=>decide (x.1=a) with
 | some x=>x.2
 | none=>zN D.held a
section
variable {H:Hp} {R:Value→Hp→Prop} {dv:Value} {B L I:Int} {l:List (Int × Blk)}
theorem blank01 {c:Blk} (hc:IsB c) (k:∀ H',Ext H H'→R (.bool (decide (c=zB))) H'):Fc Tryz.prog 94 #[.agg c] H R:=by
 refine fn94 ?_
 simp only [sh94,zt]
 refine (Lo.start _ H:Lx H H []).boxA fun b1 H1 _ l1=>?_
 have fin:∀ {b:Bool},(b=true↔c=zB)→R (.bool b) H1:=fun {b} hb=>by
   have:=k H1 l1.ext0
   rw [show decide (c=zB)=b from by rw [Bool.eq_iff_iff,decide_eq_true_eq,hb]] at this; exact this
 refine zx.mk (fun t H'=>H'=H1∧∃ i:Nat,i≤1024∧t=(zm i,())∧∀ j,j<i→byt c j=0) (fun t _=>mi t.1 fun i=>(1024 - i).toNat) ⟨rfl,0,by omega,rfl,fun j hj=>by omega⟩ ?_
 rintro _ H2 ⟨rfl,i,hi,rfl,hz⟩
 rw [zr,za,zf]
 refine ⟨fun hlt=>?_,fun hge=>?_⟩
 · rw [zG (by omega),za,Nat.zero_add,Nat.mul_one,l1.ld (i:=0) rfl,hc.get (by omega),za,zw,za,zf]
   refine ⟨fun hne=>fin ⟨fun e=>(by cases e),fun e=>?_⟩,fun he=>?_⟩
   · exfalso
     have:byt c i=0:=by rw [e]; unfold byt; rw [zB_get (by omega)]; rfl
     omega
   · rw [zk,za,zK,zv (by omega)]
     refine ⟨⟨rfl,i+1,by omega,rfl,fun j hj=>?_⟩,by simp only [zC]; omega⟩
     by_cases e:j=i
     · subst e; omega
     · exact hz j (by omega)
 · refine fin ⟨fun _=>hc.ext Zn fun j hj=>?_,fun _=>rfl⟩
   rw [hz j (by omega)]
   unfold byt
   rw [zB_get hj]; rfl
theorem may04 (hB:1≤B∧B≤1048576) (hrd:Sr 1025 H dv (l.map zM)) (hl:okL B (-1) l) (hlen:l.length≤1048576) (k:∀ H',Ext H H'→R (.bool true) H'):Fc Tryz.prog 58 #[.agg #[zm B,dv]] H R:=by
 have d0:(#[zm B,dv]:Array Value)[0]?=some (zm B):=rfl
 have d1:(#[zm B,dv]:Array Value)[1]?=some dv:=rfl
 refine fn58 ?_
 simp only [sh58,zt]
 refine (Lo.start _ H:Lx H H []).boxA fun b1 H1 _ l1=>?_
 have l1:Lx H H1 [.box b1 #[zm B,dv] 71]:=l1
 simp only [zi,Nat.zero_add,Nat.add_zero,za]
 refine zS.mk (fun t H'=>H'=H1∧t.1=.bool false) ?_ ?_
 · rintro ⟨t,u⟩ H2 ⟨rfl,ht⟩
   simp only at ht
   subst ht
   rw [zn]
   refine zx.mk (fun t H'=>∃ (i:Nat) (p:Int),i≤l.length∧t=(zm i,())∧okL B p (l.drop i) ∧ -1≤p∧(∀ j,i=j+1→∃ x,l[j]?=some x∧x.1=p)∧Lx H H' [.box b1 #[zm B,dv] 71])
     (fun t _=>mi t.1 fun i=>(l.length - i).toNat) ⟨0,-1,by omega,rfl,hl,by omega,fun j hj=>by omega,l1⟩ ?_
   rintro _ H4 ⟨i,p,hi,rfl,hdr,hp1,hpv,l4⟩
   have h4:=hrd.ext l4.ext0
   rw [l4.ld (i:=0) rfl,d1,za,h4.lenE yO,za,List.length_map,zr,za,zf]
   refine ⟨fun hlt=>?_,fun hge=>k H4 l4.ext0⟩
   have hil:i<l.length:=by omega
   have hei:(l.map zM)[i]?=some (zM l[i]):=by rw [List.getElem?_map,List.getElem?_eq_getElem hil]; rfl
   have hel:l[i]?=some l[i]:=List.getElem?_eq_getElem hil
   have hdrop:l.drop i=l[i] :: l.drop (i+1):=List.drop_eq_getElem_cons hil
   generalize l[i]=x at hei hdrop hel
   rw [hdrop] at hdr
   obtain ⟨q1,q2,q3,q4,q5⟩:=hdr
   obtain ⟨b,o,ha,hcl,hrow⟩:=h4.el hei
   have c0:=hcl 0 (by omega)
   rw [Nat.add_zero,Ys] at c0
   rw [za,ha,za,zi,za,Nat.add_zero,c0,za]
   refine zS.mk (fun t H'=>t.1=.bool false∧Lx H H' [.box b1 #[zm B,dv] 71]) ?_ ?_
   · rintro ⟨t,u⟩ H7 ⟨ht,l7⟩
     simp only at ht
     subst ht
     rw [zn,zk,za,zK,zv (by omega)]
     refine ⟨⟨i+1,x.1,by omega,rfl,q5,by omega,fun j hj=>⟨x,?_,rfl⟩,l7⟩,by simp only [zC]; omega⟩
     rw [← show i=j by omega]; exact hel
   · rw [zr,za,decide_eq_false (by omega),zn,l4.ld (i:=0) rfl,d0,za,zQ,za,decide_eq_false (by omega),zn,zL,za,zf]
     refine ⟨fun h0=>?_,fun h0=>?_⟩
     · obtain ⟨j,ej⟩:∃ j:Nat,i=j+1:=⟨i - 1,by omega⟩
       obtain ⟨z,hz,ez⟩:=hpv j ej
       obtain ⟨b',o',ha',hcl',_⟩:=h4.el (v:=zM z) (i:=j) (by rw [List.getElem?_map,hz]; rfl)
       have c0':=hcl' 0 (by omega)
       rw [Nat.add_zero,Ys] at c0'
       rw [za,zO,za,zg (by omega) (by omega),show (i:Int) - 1=(j:Int) by omega,ha',za,zi,za,Nat.add_zero,c0',za,zQ,za,decide_eq_false (by omega),zn,za,ha,za,zi,za,hrow 1 1024 (by omega),heldC_1 q4,za]
       refine blank01 q4 fun H5 e5=>?_
       rw [decide_eq_false q3]
       exact ⟨rfl,l4.ext e5⟩
     · rw [za,ha,za,zi,za,hrow 1 1024 (by omega),heldC_1 q4,za]
       refine blank01 q4 fun H5 e5=>?_
       rw [decide_eq_false q3]
       exact ⟨rfl,l4.ext e5⟩
 · rw [l1.ld (i:=0) rfl,d0,za,zr,za,decide_eq_false (by omega),zn,za,zL,za,decide_eq_false (by omega)]
   exact ⟨rfl,rfl⟩
theorem copy04 (hrd:Sr 1025 H dv (l.map zM)) (his:∀ x∈l,IsB x.2) (hlen:l.length≤1048576) (k:∀ H' hv,Ext H H'→New H H' (.sl 98 1025 hv (l.map zM))→R hv H'):Fc Tryz.prog 59 #[dv] H R:=by
 refine fn59 ?_
 simp only [sh59,zt]
 have l1:=(Lo.start _ H:Lx H H []).nilS 98 1025
 refine zx.mk (fun t H'=>∃ (i:Nat) (v:Value),i≤l.length∧t=(v,zm i,())∧Lx H H' [.sl 98 1025 v ((l.take i).map zM)])
   (fun t _=>mi t.2.1 fun i=>(l.length - i).toNat) ⟨0,.slice none 0 0,by omega,rfl,l1⟩ ?_
 rintro _ H2 ⟨i,v,hi,rfl,l2⟩
 have h2:=hrd.ext l2.ext0
 rw [h2.lenE yO,za,List.length_map,zr,za,zf]
 refine ⟨fun hlt=>?_,fun hge=>?_⟩
 · have hil:i<l.length:=by omega
   have hei:(l.map zM)[i]?=some (zM l[i]):=by rw [List.getElem?_map,List.getElem?_eq_getElem hil]; rfl
   have htk:l.take (i+1)=l.take i++[l[i]]:=List.take_succ_eq_append_getElem hil
   have hm:=his _ (List.getElem_mem hil)
   generalize l[i]=x at hei htk hm
   obtain ⟨b,o,ha,hr⟩:=h2.row hei
   rw [ha,za,hr,za]
   refine l2.appO elHeld eHeld_f (i:=0) (c:=zM x) rfl rfl (by omega) (by omega) (ZA hm) (heldC_ok hm) (by rw [List.length_map,List.length_take]; omega) fun s' H3 l3=>?_
   rw [zk,za,zK,zv (by omega)]
   refine ⟨⟨i+1,s',by omega,rfl,?_⟩,by simp only [zC]; omega⟩
   rw [htk,List.map_append]; exact l3
 · have ei:i=l.length:=by omega
   subst ei
   rw [List.take_length] at l2
   exact k H2 v l2.ext0 (l2.outN (i:=0) rfl)
theorem load04 (hB:1≤B∧B≤1048576) (hrd:Sr 1025 H dv (l.map zM)) (hl:okL B (-1) l) (his:∀ x∈l,IsB x.2) (hlen:l.length≤1048576) (k:∀ H' r,Ext H H'→New H H' (yX r (RDk.load B l))→R (.tuple #[z6 r,zm 0]) H'):Fc Tryz.prog 23 #[.agg #[zm B,dv]] H R:=by
 have d0:(#[zm B,dv]:Array Value)[0]?=some (zm B):=rfl
 have d1:(#[zm B,dv]:Array Value)[1]?=some dv:=rfl
 refine fn23 ?_
 simp only [sh23]
 refine (Lo.start _ H:Lx H H []).boxA fun b1 H1 _ l1=>?_
 have l1:Lx H H1 [.box b1 #[zm B,dv] 71]:=l1
 rw [l1.ldAll (i:=0) (n:=2) rfl rfl,za]
 refine may04 hB (hrd.ext l1.ext0) hl hlen fun H2 e2=>?_
 have l2:=l1.ext e2
 rw [zT,za,Bool.not_true,zn]
 simp only [zi,Nat.zero_add,Nat.add_zero,za]
 rw [l2.ld (i:=0) rfl,d1,za]
 have fin:∀ {H':Hp} {hv:Value},Lx H H' [.box b1 #[zm B,dv] 71,.sl 98 1025 hv (l.map zM)] →
     Pu (zu Tryz.prog 143 [(0,zm B),(1,hv)]) fun x14=>ForX true H' fun H10=>Box 143 x14 H10 fun x15 H11=>ForX true H11 fun H12=>R (.tuple #[x15,zm 0]) H12:=by
   intro H' hv l3
   obtain ⟨q,w,e⟩:=(l3.sv (i:=1) rfl).len
   subst e
   rw [buildRdk,za,zl]
   intro H10 e10
   refine (l3.ext e10).boxA fun r H11 _ l4=>?_
   rw [zl]
   intro H12 e12
   have l5:=((l4.ext e12).nilS 98 1025).nilS 294 1026
   have l6:=l5.pick [2,1,3,4] (by decide) (by simp)
   have l7:=Lo.pack (l:=[]) l6
   have n7:=l7.outN (i:=0) rfl
   obtain ⟨O,ho,hO⟩:=n7
   exact k H12 r l7.ext0 ⟨O,⟨_,_,_,ho⟩,hO⟩
 refine ⟨?_,?_,trivial⟩
 · rw [l2.ld (i:=0) rfl,d0,za,zl]
   intro H8 e8
   refine copy04 (hrd.ext (l2.ext0.trans e8)) his hlen fun H9 hv e9 n9=>?_
   exact fin ((l2.ext e8).new e9 n9)
 · rw [zl]
   intro H8 e8
   refine copy04 (hrd.ext (l2.ext0.trans e8)) his hlen fun H9 hv e9 n9=>?_
   have l9:=(l2.ext e8).new e9 n9
   rw [l9.ld (i:=0) rfl,d0,za]
   exact fin l9
end
theorem undRdk:Tryz.prog.underlying 49=some (.pointer 143):=by kernel_rfl
section
variable {D:RDk} {hv wv ov:Value}
theorem rdk0:(rdkC D hv wv ov)[0]?=some (zm D.n):=rfl
theorem rdk1:(rdkC D hv wv ov)[1]?=some hv:=rfl
theorem rdk2:(rdkC D hv wv ov)[2]?=some wv:=rfl
theorem rdk5:(rdkC D hv wv ov)[5]?=some (.bool D.dead):=rfl
theorem rdk8:(rdkC D hv wv ov)[8]?=some (zm D.seen):=rfl
theorem rdk9:(rdkC D hv wv ov)[9]?=some (zm D.claims):=rfl
end
noncomputable def RDk.read (D:RDk) (a:Int):RDk × Blk × Int:=
 if D.dead then (D,zB,3) else if a<0∨D.n≤a then (D,zB,2) else ({ D with seen:=D.seen+1 },D.at_ a,0)
def RDk.claim (D:RDk):RDk:={ D with claims:=D.claims+1,owner:=D.claims+1 }
section
variable {H:Hp} {R:Value→Hp→Prop} {r:Nat} {D:RDk} {O:Nat→Prop}
theorem rdk_top (h:(yX r D).at_ H O):∃ hv wv ov,H[r]?=some (.cells (rdkC D hv wv ov) 143):=by
 obtain ⟨hv,wv,ov,ha⟩:=h
 exact ⟨hv,wv,ov,(Lo.open ha).at (i:=0) rfl⟩
theorem len04 (h:(yX r D).at_ H O) (k:R (zm D.n) H):Fc Tryz.prog 44 #[z6 r] H R:=by
 obtain ⟨hv,wv,ov,ht⟩:=rdk_top h
 refine fn44 ?_
 simp only [sh44]
 rw [show yH Tryz.prog 49 true .eql (z6 r) (.pointer none) H=some (.bool false) from Yc undRdk,za,zn]
 simp only [zc,zi,Nat.zero_add,Nat.add_zero,za]
 rw [zq ht,rdk0,za]
 exact k
theorem at04 {hv:Value} {l:List (Int × Blk)} {a:Int} (hrd:Sr 1025 H hv (l.map zM)) (his:∀ x∈l,IsB x.2) (hlen:l.length≤1048576) (k:∀ H',Ext H H'→R (.agg (zN l a)) H'):Fc Tryz.prog 110 #[hv,zm a] H R:=by
 refine fn110 ?_
 simp only [sh110,ya,YF,za,zt]
 refine (Lo.start _ H:Lx H H []).boxA fun b2 H2 _ l2=>?_
 refine zx.mk (fun t H'=>H'=H2∧∃ i:Nat,i≤l.length∧t=(zm i,())∧∀ x∈l.take i,x.1≠a) (fun t _=>mi t.1 fun i=>(l.length - i).toNat) ⟨rfl,0,by omega,rfl,by simp⟩ ?_
 rintro _ H3 ⟨rfl,i,hi,rfl,hno⟩
 have h3:=hrd.ext l2.ext0
 rw [h3.lenE yO,za,List.length_map,zr,za,zf]
 refine ⟨fun hlt=>?_,fun hge=>?_⟩
 · have hil:i<l.length:=by omega
   have hei:(l.map zM)[i]?=some (zM l[i]):=by rw [List.getElem?_map,List.getElem?_eq_getElem hil]; rfl
   have hem:l[i]∈l:=List.getElem_mem hil
   have hdr:l.drop i=l[i] :: l.drop (i+1):=List.drop_eq_getElem_cons hil
   have htk:l.take (i+1)=l.take i++[l[i]]:=List.take_succ_eq_append_getElem hil
   generalize l[i]=x at hei hem hdr htk
   obtain ⟨b,o,ha,hcl,hrow⟩:=h3.el hei
   rw [ha,za,zi,za,hcl 0 (by omega),Ys,za,zy,za,zf]
   refine ⟨fun he=>?_,fun hne=>?_⟩
   · rw [za,zi,za,hrow 1 1024 (by omega),za,heldC_1 (his x hem)]
     have e:zN l a=x.2:=by
       unfold zN
       rw [show l=l.take i++l.drop i from (List.take_append_drop i l).symm,List.find?_append,List.find?_eq_none.2 (fun y hy=>by simpa using hno y hy),hdr,List.find?_cons_of_pos (by simpa using he)]
       rfl
     refine l2.ret (i:=0) rfl zJ (his x hem).size (his x hem).ok fun H' l'=>?_
     rw [← e]; exact k H' l'.ext0
   · rw [zk,za,zK,zv (by omega)]
     refine ⟨⟨rfl,i+1,by omega,rfl,fun y hy=>?_⟩,by simp only [zC]; omega⟩
     rw [htk] at hy
     rcases List.mem_append.1 hy with h1 | h1
     · exact hno y h1
     · rw [List.mem_singleton.1 h1]; exact hne
 · have ei:i=l.length:=by omega
   subst ei
   rw [List.take_length] at hno
   refine l2.ret (i:=0) rfl zJ zJ Zn.ok fun H' l'=>?_
   rw [← imgAt_out hno]; exact k H' l'.ext0
set_option maxHeartbeats 1000000 in
theorem read04 (h:(yX r D).at_ H O) (hok:RDkOk D) {a:Int} (k:∀ H' O',Stp O O' H H'→(yX r (D.read a).1).at_ H' O'→R (.tuple #[.agg (D.read a).2.1,zm (D.read a).2.2]) H'):Fc Tryz.prog 76 #[z6 r,zm a] H R:=by
 obtain ⟨hv,wv,ov,hall⟩:=h
 have hs:=hok.seen
 have hw:=hok.wlen
 have l0:Lo O H H (rdkAll r D hv wv ov):=Lo.open hall
 refine fn76 ?_
 simp only [sh76,ya,YF,za,zt]
 refine l0.boxA fun b2 H1 _ l1=>?_
 have l1:Lo O H H1 [.box r (rdkC D hv wv ov) 143,.sl 98 1025 hv (D.held.map zM),.sl 98 1025 wv (D.wait.map zM),.sl 294 1026 ov D.ops,.box b2 zB 94]:=l1
 rw [show yH Tryz.prog 49 true .eql (z6 r) (.pointer none) H1=some (.bool false) from Yc undRdk,za,zn]
 simp only [zc,zi,Nat.zero_add,Nat.add_zero,za]
 have out:∀ {H':Hp} {D':RDk} {c:Blk},Lo O H H' [.box r (rdkC D' hv wv ov) 143,.sl 98 1025 hv (D'.held.map zM),.sl 98 1025 wv (D'.wait.map zM),.sl 294 1026 ov D'.ops,.box b2 c 94]→∃ O',Stp O O' H H'∧(yX r D').at_ H' O':=fun l'=>by
   obtain ⟨O',st,ha⟩:=Lo.close (l:=[_,_,_,_]) (r:=[_]) l'
   exact ⟨O',st,⟨_,_,_,ha⟩⟩
 rw [l1.ld (i:=0) rfl,rdk5,za,Zz]
 refine ⟨fun hd=>?_,fun hd=>?_⟩
 · have e:D.read a=(D,zB,3):=by unfold RDk.read; rw [if_pos hd]
   rw [e] at k
   refine l1.ret (i:=4) rfl zJ zJ Zn.ok fun H' l'=>?_
   obtain ⟨O',st,ha⟩:=out (D':=D) l'
   exact k H' O' st ha
 · refine zS.mk (fun t H'=>H'=H1∧t.1=.bool (decide (a<0∨D.n≤a))) ?_ ?_
   · rintro ⟨t,u⟩ H2 ⟨rfl,ht⟩
     simp only at ht
     subst ht
     rw [zf]
     refine ⟨fun hb=>?_,fun hb=>?_⟩
     · have e:D.read a=(D,zB,2):=by unfold RDk.read; rw [if_neg (by simp [hd]),if_pos hb]
       rw [e] at k
       refine l1.ret (i:=4) rfl zJ zJ Zn.ok fun H' l'=>?_
       obtain ⟨O',st,ha⟩:=out (D':=D) l'
       exact k H' O' st ha
     · have e:D.read a=({ D with seen:=D.seen+1 },D.at_ a,0):=by unfold RDk.read; rw [if_neg (by simp [hd]),if_neg hb]
       rw [e] at k
       rw [l1.ld (i:=0) rfl,rdk8,za,zk,za,zg (by omega) (by omega)]
       refine l1.st (i:=0) (j:=8) (v:=zm (D.seen+1)) rfl (by exact (by decide:8<11)) rfl rfl fun H3 l3=>?_
       have l3:Lo O H H3 [.box r (rdkC { D with seen:=D.seen+1 } hv wv ov) 143,.sl 98 1025 hv (D.held.map zM),.sl 98 1025 wv (D.wait.map zM),.sl 294 1026 ov D.ops,.box b2 zB 94]:=l3
       have hwl:=(l3.sv (i:=2) rfl).sr
       rw [l3.ld (i:=0) rfl,rdk2,za,hwl.lenE yO,za,List.length_map,zO,za,zg (by omega) (by omega)]
       refine zx.mk (fun t H'=>H'=H3∧∃ j:Nat,j≤D.wait.length∧t=(zm ((j:Int) - 1),())∧∀ x∈D.wait.drop j,x.1≠a) (fun t _=>mi t.1 fun x=>(x+1).toNat) ⟨rfl,D.wait.length,by omega,rfl,by simp⟩ ?_
       rintro _ H4 ⟨rfl,j,hj,rfl,hno⟩
       rw [zQ,za,zf]
       refine ⟨fun hge=>?_,fun hlt=>?_⟩
       · obtain ⟨i,ei⟩:∃ i:Nat,j=i+1:=⟨j - 1,by omega⟩
         subst ei
         have hil:i<D.wait.length:=by omega
         have hei:(D.wait.map zM)[i]?=some (zM D.wait[i]):=by rw [List.getElem?_map,List.getElem?_eq_getElem hil]; rfl
         have hem:D.wait[i]∈D.wait:=List.getElem_mem hil
         have hdr:D.wait.drop i=D.wait[i] :: D.wait.drop (i+1):=List.drop_eq_getElem_cons hil
         generalize D.wait[i]=x at hei hem hdr
         have hxb:=hok.wait x hem
         obtain ⟨b,o,ha,hcl,hrow⟩:=hwl.el hei
         have ha':zh (some (none,1025)) wv (zm (((i+1:Nat):Int) - 1))=some (.pointer (some ⟨b,o,none⟩)):=by rw [show ((i+1:Nat):Int) - 1=(i:Int) by omega]; exact ha .i64
         rw [l3.ld (i:=0) rfl,rdk2,za,ha',za,zi,za,hcl 0 (by omega),Ys,za,zy,za,zf]
         refine ⟨fun he=>?_,fun hne=>?_⟩
         · rw [za,ha',za,zi,za,hrow 1 1024 (by omega),za,heldC_1 hxb]
           have ea:D.at_ a=x.2:=by
             unfold RDk.at_
             have er:D.wait.reverse.find? (fun x=>decide (x.1=a))=some x:=by
               rw [show D.wait=D.wait.take i++D.wait.drop i from (List.take_append_drop i _).symm,hdr,List.reverse_append,List.reverse_cons,List.append_assoc,List.find?_append,List.find?_eq_none.2 (fun y hy=>by simpa using hno y (List.mem_reverse.1 hy))]
               rw [List.singleton_append,List.find?_cons_of_pos (by simpa using he)]
               rfl
             rw [er]
           rw [ea] at k
           refine l3.ret (i:=4) rfl zJ hxb.size hxb.ok fun H' l'=>?_
           obtain ⟨O',st,ha⟩:=out (D':={ D with seen:=D.seen+1 }) l'
           exact k H' O' st ha
         · rw [zO,za,zg (by omega) (by omega)]
           refine ⟨⟨rfl,i,by omega,?_,fun y hy=>?_⟩,by simp only [zC]; omega⟩
           · rw [show (((i+1:Nat):Int) - 1 - 1)=(i:Int) - 1 by omega]; rfl
           · rw [hdr] at hy
             rcases List.mem_cons.1 hy with e2 | e2
             · rw [e2]; exact hne
             · exact hno y e2
       · have ej:j=0:=by omega
         subst ej
         rw [List.drop_zero] at hno
         have ea:D.at_ a=zN D.held a:=by
           unfold RDk.at_
           rw [List.find?_eq_none.2 fun x hx=>by simpa using hno x (List.mem_reverse.1 hx)]
         rw [ea] at k
         have hb:=Zw hok.held a
         rw [l3.ld (i:=0) rfl,rdk1,za]
         refine at04 (l3.sv (i:=1) rfl).sr hok.held hok.hlen fun H5 e5=>?_
         refine (l3.ext e5).ret (i:=4) rfl zJ hb.size hb.ok fun H' l'=>?_
         obtain ⟨O',st,ha⟩:=out (D':={ D with seen:=D.seen+1 }) l'
         exact k H' O' st ha
   · rw [zr,za,zf]
     refine ⟨fun h0=>⟨rfl,yf (.inl h0)⟩,fun h0=>?_⟩
     rw [l1.ld (i:=0) rfl,rdk0,za,zQ,za]
     exact ⟨rfl,Yh ⟨fun e=>.inr e,fun e=>e.resolve_left h0⟩⟩
theorem claim04 (h:(yX r D).at_ H O) (hok:RDkOk D) (hd:D.dead=false) (k:∀ H' O',Stp O O' H H'→(yX r D.claim).at_ H' O'→R (zm (D.claims+1)) H'):Fc Tryz.prog 61 #[z6 r] H R:=by
 obtain ⟨hv,wv,ov,hall⟩:=h
 have hc:=hok.claims
 have l0:Lo O H H [.box r (rdkC D hv wv ov) 143,.sl 98 1025 hv (D.held.map zM),.sl 98 1025 wv (D.wait.map zM),.sl 294 1026 ov D.ops]:=Lo.open hall
 refine fn61 ?_
 simp only [sh61,zt]
 simp only [zc,zi,Nat.zero_add,Nat.add_zero,za]
 refine zS.mk (fun t H'=>H'=H∧t.1=.bool false) ?_ ?_
 · rintro ⟨t,u⟩ H2 ⟨rfl,ht⟩
   simp only at ht
   subst ht
   rw [zn,l0.ld (i:=0) rfl,rdk9,za,zk,za,zg (by omega) (by omega)]
   refine l0.st (i:=0) (j:=9) (v:=zm (D.claims+1)) rfl (by exact (by decide:9<11)) rfl rfl fun H3 l3=>?_
   have l3:Lo O H2 H3 [.box r (rdkC { D with claims:=D.claims+1 } hv wv ov) 143,.sl 98 1025 hv (D.held.map zM),.sl 98 1025 wv (D.wait.map zM),.sl 294 1026 ov D.ops]:=l3
   rw [l3.ld (i:=0) rfl,rdk9,za]
   refine l3.st (i:=0) (j:=10) (v:=zm (D.claims+1)) rfl (by exact (by decide:10<11)) rfl rfl fun H4 l4=>?_
   have l4:Lo O H2 H4 [.box r (rdkC D.claim hv wv ov) 143,.sl 98 1025 hv (D.held.map zM),.sl 98 1025 wv (D.wait.map zM),.sl 294 1026 ov D.ops]:=l4
   rw [l4.ld (i:=0) rfl,rdk9,za]
   obtain ⟨O',st,ha⟩:=Lo.close (l:=[_,_,_,_]) (r:=[]) l4
   exact k H4 O' st ⟨_,_,_,ha⟩
 · rw [show yH Tryz.prog 49 true .eql (z6 r) (.pointer none) H=some (.bool false) from Yc undRdk,za,zn,l0.ld (i:=0) rfl,rdk5,za,hd]
   exact ⟨rfl,rfl⟩
end
theorem Lo.close1 {O:Nat→Prop} {H H':Hp} {x:Ob} {r:List Ob} (l:Lo O H H' (x :: r)):∃ O',Stp O O' H H'∧x.at_ H' O':=by
 obtain ⟨O',s,ha⟩:=Lo.close (l:=[x]) (r:=r) l
 refine ⟨O',s,?_⟩
 obtain ⟨⟨col,w,hc⟩,hl⟩:=ha
 exact Ob.frame _ (w.obs 0 _ rfl) (fun _ _=>rfl) (Nat.le_refl _) (fun b hb=>hc b (by have hb:col b=0+1:=hb; omega)) hl
structure RLg where
 mine:Int
 made:Bool
 group:List (Int × Blk)
 step:Bool
 room:Int
 wrote:List Int
 commit:Int
 over:Int
def rlgC (r:Nat) (x:Lay) (G:RLg) (gv tv:Value):Array Value:=#[z6 r,zm x.B,zm x.L,zm x.I,zm x.logAt,zm x.nodeAt,zm x.nodeBlocks,zm x.bitsAt,zm x.bitsBlocks,zm x.dataAt,zm G.mine,.bool G.made,gv,.bool G.step,zm G.room,tv,zm G.commit,zm G.over]
def nI (n:Int):Array Value:=#[zm n]
def docAll (w r:Nat) (D:RDk) (x:Lay) (G:RLg) (gv tv:Value):List Ob:=[yX r D,.box w (rlgC r x G gv tv) 108,.sl 165 1025 gv (G.group.map zM),.sl 3 1 tv (G.wrote.map nI)]
def docOb (w r:Nat) (D:RDk) (x:Lay) (G:RLg):Ob:=
 ⟨fun H O=>∃ gv tv,(Ob.all (docAll w r D x G gv tv)).at_ H O,
  fun ⟨_,_,h⟩=>Ob.own _ h,fun ⟨gv,tv,h⟩ hb hs ho hl=>⟨gv,tv,Ob.frame _ h hb hs ho hl⟩⟩
def RLg.new (mine:Int):RLg:=⟨mine,true,[],false,0,[],0,0⟩
theorem buildRlg (r:Nat) (a b c d e f g h i mine:Int):zu Tryz.prog 108 [(0,z6 r),(1,.agg (Lay.cells ⟨a,b,c,d,e,f,g,h,i⟩)),(2,zm mine),(3,.bool true)]=some (.agg (rlgC r ⟨a,b,c,d,e,f,g,h,i⟩ (RLg.new mine) (.slice none 0 0) (.slice none 0 0))):=by kernel_rfl
section
variable {H:Hp} {R:Value→Hp→Prop} {r:Nat} {D:RDk} {O:Nat→Prop} {B L I:Int}
theorem may08 (h:(yX r D).at_ H O) (hg:Zd B L I) (hn:B≤D.n) (k:∀ H',Ext H H'→R (.bool true) H'):Fc Tryz.prog 95 #[z6 r,.agg (zp B L I).cells] H R:=by
 obtain ⟨gL1,gL2,gI1,gI2,gB1,gB2,gD⟩:=id hg
 have c0:(zp B L I).cells[0]?=some (zm B):=rfl
 have hx:∀ {H'},Ext H H'→∃ O',(yX r D).at_ H' O':=fun e=>((Lo.own h).ext e).get (i:=0) rfl
 refine fn95 ?_
 simp only [sh95]
 refine (Lo.start _ H:Lx H H []).boxA fun b1 H1 _ l1=>?_
 rw [l1.ldAll (i:=0) (n:=9) rfl (Lay.size _),za]
 refine fits3 (by omega) hg fun H2 e2=>?_
 have l2:=l1.ext e2
 rw [Zm]
 simp only [zi,Nat.zero_add,Nat.add_zero,za]
 refine ⟨?_,?_,trivial⟩
 · rw [l2.ld (i:=0) rfl,c0,za,zl]
   intro H3 e3
   obtain ⟨O',h3⟩:=hx (l2.ext0.trans e3)
   refine len04 h3 ?_
   rw [Yp,za,decide_eq_true hn,zl]
   exact fun H4 e4=>k H4 ((l2.ext0.trans e3).trans e4)
 · rw [zl]
   intro H3 e3
   obtain ⟨O',h3⟩:=hx (l2.ext0.trans e3)
   refine len04 h3 ?_
   rw [(l2.ext e3).ld (i:=0) rfl,c0,za,Yp,za,decide_eq_true hn,zl]
   exact fun H4 e4=>k H4 ((l2.ext0.trans e3).trans e4)
theorem RDk.read_alive {a:Int} (hd:D.dead=false) (h0:0≤a) (h1:a<D.n):D.read a=({ D with seen:=D.seen+1 },D.at_ a,0):=by
 unfold RDk.read; rw [if_neg (by simp [hd]),if_neg (by omega)]
theorem header08 (h:(yX r D).at_ H O) (hok:RDkOk D) (hd:D.dead=false) (hg:Zd B L I) (hn:B≤D.n) (hz:D.at_ 1=zB) (k:∀ H' O',Stp O O' H H'→(yX r { D with seen:=D.seen+1 }).at_ H' O'→R (.tuple #[.agg zHd,zm 0]) H'):Fc Tryz.prog 60 #[z6 r,.agg (zp B L I).cells] H R:=by
 obtain ⟨gL1,gL2,gI1,gI2,gB1,gB2,gD⟩:=id hg
 have hDA:(zp B L I).dataAt=1+L+(I+16) / 16+(B+8191) / 8192:=rfl
 have c3:(zp B L I).cells[3]?=some (zm 1):=rfl
 have x3:∀ {a b:Value},ze (.tuple #[a,b]) 0=some a:=rfl
 have x4:∀ {a b:Value},ze (.tuple #[a,b]) 1=some b:=rfl
 have hrd:=RDk.read_alive (a:=1) hd (by omega) (by omega)
 refine fn60 ?_
 simp only [sh60,zeroHd,ya,za]
 refine (Lo.own h).boxA fun b1 H1 _ l1=>?_
 refine l1.boxA fun b2 H2 _ l2=>?_
 have l2:Lo O H H2 [yX r D,.box b1 (zp B L I).cells 74,.box b2 zHd 129]:=l2
 rw [show yH Tryz.prog 49 true .eql (z6 r) (.pointer none) H2=some (.bool false) from Yc undRdk,za,zn,l2.ldAll (i:=1) (n:=9) rfl (Lay.size _),za]
 obtain ⟨O2,h2,_⟩:=l2.call (i:=0) rfl
 refine may08 h2 hg hn fun H3 e3=>?_
 have l3:=l2.ext e3
 rw [zT,za,Bool.not_true,zn,zi,za,Nat.zero_add,l3.ld (i:=1) rfl,c3,za]
 obtain ⟨O3,h3,st3⟩:=l3.call (i:=0) rfl
 refine read04 h3 hok fun H4 O4 s4 h4=>?_
 rw [hrd] at h4 ⊢
 have l4:Lo O H H4 [yX r { D with seen:=D.seen+1 },.box b1 (zp B L I).cells 74,.box b2 zHd 129]:=st3 H4 _ O4 s4 h4
 simp only [hz]
 rw [x3,za,x4,za]
 refine l4.boxA fun b3 H5 _ l5=>?_
 refine l5.stAll (i:=3) rfl zJ zJ Zn.ok fun H6 l6=>?_
 rw [zw,za,decide_eq_false (by omega),zn,l6.ldAll (i:=1) (n:=9) rfl (Lay.size _),za,l6.ldAll (i:=3) (n:=1024) rfl zJ,za]
 refine dec7 hg fun H7 e7=>?_
 rw [x3,za,x4,za]
 refine (l6.ext e7).boxA fun b4 H8 _ l8=>?_
 refine l8.stAll (i:=4) rfl rfl rfl zHd_ok fun H9 l9=>?_
 rw [zw,za,decide_eq_false (by omega),zn,l9.ldAll (i:=4) (n:=1) rfl rfl,za]
 refine l9.ret (i:=2) (K:=fun x H4=>R (.tuple #[x,zm 0]) H4) rfl rfl rfl zHd_ok fun H' l'=>?_
 obtain ⟨O',s',h'⟩:=Lo.close1 (x:=yX r { D with seen:=D.seen+1 }) (r:=[_,_,_,_]) l'
 exact k H' O' s' h'
theorem new08 (h:(yX r D).at_ H O) (hok:RDkOk D) (hd:D.dead=false) (hg:Zd B L I) (hn:B≤D.n) (hz:D.at_ 1=zB) (hs:D.seen<4611686018427387903) (k:∀ H' O' w,Stp O O' H H'→(docOb w r ({ D with seen:=D.seen+1 }:RDk).claim (zp B L I) (RLg.new (D.claims+1))).at_ H' O'→R (.tuple #[z6 w,zm 0]) H'):Fc Tryz.prog 24 #[z6 r,.agg (zp B L I).cells] H R:=by
 have x3:∀ {a b:Value},ze (.tuple #[a,b]) 0=some a:=rfl
 have x4:∀ {a b:Value},ze (.tuple #[a,b]) 1=some b:=rfl
 have z0:zHd[0]?=some (.slice none 0 0):=rfl
 have hok1:RDkOk { D with seen:=D.seen+1 }:={ hok with seen:=by have:=hok.seen; exact ⟨by show 0≤D.seen+1; omega,by show D.seen+1<_; omega⟩ }
 refine fn24 ?_
 simp only [sh24,zeroHd,za]
 refine (Lo.own h).boxA fun b1 H1 _ l1=>?_
 have l1:Lo O H H1 [yX r D,.box b1 (zp B L I).cells 74]:=l1
 rw [l1.ldAll (i:=1) (n:=9) rfl (Lay.size _),za]
 obtain ⟨O1,h1,st1⟩:=l1.call (i:=0) rfl
 refine header08 h1 hok hd hg hn hz fun H2 O2 s2 h2=>?_
 have l2:Lo O H H2 [yX r { D with seen:=D.seen+1 },.box b1 (zp B L I).cells 74]:=st1 H2 _ O2 s2 h2
 rw [x3,za,x4,za]
 refine l2.boxA fun b2 H3 _ l3=>?_
 refine l3.stAll (i:=2) rfl rfl rfl zHd_ok fun H4 l4=>?_
 have l4:Lo O H H4 [yX r { D with seen:=D.seen+1 },.box b1 (zp B L I).cells 74,.box b2 zHd 129]:=l4
 rw [zw,za,decide_eq_false (by omega),zn,zi,za,Nat.zero_add,l4.ld (i:=2) rfl,z0,za,lenNilInts,za,zL,za,decide_eq_false (by omega),zn]
 have fin:∀ {H':Hp},Lo O H H' [yX r ({ D with seen:=D.seen+1 }:RDk).claim,.box b1 (zp B L I).cells 74,.box b2 zHd 129] →
     Pu (zu Tryz.prog 108 [(0,z6 r),(1,.agg (zp B L I).cells),(2,zm (D.claims+1)),(3,(.bool true))]) fun x19=>ForX true H' fun H12=>Box 108 x19 H12 fun x20 H13=>ForX true H13 fun H14=>R (.tuple #[x20,zm 0]) H14:=by
   intro H' l5
   unfold zp
   rw [buildRlg,za,zl]
   intro H12 e12
   refine (l5.ext e12).boxA fun w H13 _ l6=>?_
   rw [zl]
   intro H14 e14
   have l7:=((l6.ext e14).nilS 165 1025).nilS 3 1
   have l8:=l7.pick [0,3,4,5] (by decide) (by simp)
   obtain ⟨O',s',h'⟩:=Lo.close (l:=[_,_,_,_]) (r:=[]) l8
   exact k H14 O' w s' ⟨_,_,h'⟩
 refine ⟨?_,?_,trivial⟩
 · rw [l4.ldAll (i:=1) (n:=9) rfl (Lay.size _),za,zl]
   intro H5 e5
   obtain ⟨O5,h5,st5⟩:=(l4.ext e5).call (i:=0) rfl
   refine claim04 h5 hok1 hd fun H6 O6 s6 h6=>?_
   exact fin (st5 H6 _ O6 s6 h6)
 · rw [zl]
   intro H5 e5
   obtain ⟨O5,h5,st5⟩:=(l4.ext e5).call (i:=0) rfl
   refine claim04 h5 hok1 hd fun H6 O6 s6 h6=>?_
   have l6:Lo O H H6 [yX r ({ D with seen:=D.seen+1 }:RDk).claim,.box b1 (zp B L I).cells 74,.box b2 zHd 129]:=st5 H6 _ O6 s6 h6
   rw [l6.ldAll (i:=1) (n:=9) rfl (Lay.size _),za]
   exact fin l6
end
theorem okL_gt {n:Int}:∀ {l:List (Int × Blk)} {b:Int},okL n b l→∀ x∈l,b<x.1
 | [],_,_,x,h=>by cases h
 | y :: l,b,h,x,hx=>by
   rcases List.mem_cons.1 hx with e | e
   · rw [e]; exact h.1
   · have:=okL_gt h.2.2.2.2 x e
     have:=h.1
     omega
theorem held_fold {n:Int}:∀ {l:List (Int × Blk)} {b:Int} (g:Int→Blk) (a:Int),okL n b l→(l.foldl (fun g x=>updB g x.1 x.2) g) a=if ∃ x∈l,x.1=a then zN l a else g a
 | [],_,g,a,_=>by simp
 | y :: l,b,g,a,h=>by
   rw [List.foldl_cons,held_fold (updB g y.1 y.2) a h.2.2.2.2,imgAt_cons]
   have hgt:=okL_gt h.2.2.2.2
   by_cases e:y.1=a
   · rw [if_neg (by rintro ⟨x,hx,ex⟩; have:=hgt x hx; omega),if_pos ⟨y,List.mem_cons_self ..,e⟩,if_pos e]
     unfold updB
     rw [if_pos e.symm]
   · rw [if_neg e]
     by_cases e2:∃ x∈l,x.1=a
     · rw [if_pos e2,if_pos]
       obtain ⟨x,hx,ex⟩:=e2
       exact ⟨x,List.mem_cons_of_mem _ hx,ex⟩
     · rw [if_neg e2,if_neg]
       · unfold updB
         rw [if_neg (fun e3=>e e3.symm)]
       · rintro ⟨x,hx,ex⟩
         rcases List.mem_cons.1 hx with e4 | e4
         · rw [e4] at ex; exact e ex
         · exact e2 ⟨x,e4,ex⟩
theorem heldL_img {n b:Int} {l:List (Int × Blk)} (h:okL n b l) (a:Int):heldL l a=zN l a:=by
 unfold heldL
 rw [held_fold _ a h]
 split
 · rfl
 · rename_i hno
   rw [imgAt_out fun x hx e=>hno ⟨x,hx,e⟩]
def diskOb (p:Nat) (s:DS):Ob:=
 ⟨fun H O=>(∃ Od,DiskAt H p s Od∧∀ b,Od b→O b)∧∀ b,O b→b<H.size,fun h=>h.2,
  fun ⟨⟨Od,h1,h2⟩,_⟩ hb hs ho hl=>⟨⟨Od,h1.of (fun b hh=>hb b (h2 b hh)) hs,fun b hh=>ho b (h2 b hh)⟩,hl⟩⟩
theorem LogRd.of {H H':Hp} {lb p cb mb:Nat} {s:DS} {cs:List Pl} {x:Lay} {mine:Int} {O Oc:Nat→Prop} (h:LogRd H lb p cb mb s cs x mine O Oc) (h1:∀ b,O b→H'[b]?=H[b]?) (h2:∀ b,Oc b→H'[b]?=H[b]?) (h3:H'[mb]?=H[mb]?) (h4:H'[lb]?=H[lb]?) (hs:H.size≤H'.size):LogRd H' lb p cb mb s cs x mine O Oc:=
 { h with dk:=h.dk.of h1 hs,ca:=h.ca.of h2 hs,mp:=h.mp.of h3,top:=by rw [h4]; exact h.top }
def logOb (lb p:Nat) (s:DS) (cs:List Pl) (x:Lay) (mine:Int):Ob:=
 ⟨fun H O=>(∃ cb mb Od Oc,LogRd H lb p cb mb s cs x mine Od Oc∧(∀ b,Od b→O b)∧(∀ b,Oc b→O b)∧O mb∧O lb)∧∀ b,O b→b<H.size,fun h=>h.2,
  fun ⟨⟨cb,mb,Od,Oc,h1,h2,h3,h4,h5⟩,_⟩ hb hs ho hl=>⟨⟨cb,mb,Od,Oc,h1.of (fun b hh=>hb b (h2 b hh)) (fun b hh=>hb b (h3 b hh)) (hb _ h4) (hb _ h5) hs,fun b hh=>ho b (h2 b hh),fun b hh=>ho b (h3 b hh),ho _ h4,ho _ h5⟩,hl⟩⟩
theorem eqX_ptrN {P:Program} {T e:TypeId} {lit:Bool} {a:Addr} {H:Hp} (hu:P.underlying T=some (.pointer e)):yH P T lit .neq (.pointer (some a)) (.pointer none) H=some (.bool true):=by
 simp [yH,eqE,eqD,hu]
def prC (p lb r w:Nat):Array Value:=#[z6 p,z6 lb,z6 r,z6 w]
theorem buildPr (p lb r w:Nat):zu Tryz.prog 52 [(0,z6 p),(1,z6 lb),(2,z6 r),(3,z6 w)]=some (.agg (prC p lb r w)):=by kernel_rfl
def wldC (B L I:Int) (iv:Value) (fr sp seed:Int):Array Value:=#[zm B,zm L,zm I,iv,zm fr,zm sp,zm seed]
noncomputable def dsOf (B:Int) (l:List (Int × Blk)):DS:=({ DS.load B l with reads:=1 }:DS).claimed
noncomputable def rdOf (B:Int) (l:List (Int × Blk)):RDk:=({ RDk.load B l with seen:=1 }:RDk).claim
section
variable {H:Hp} {R:Value→Hp→Prop}
set_option maxHeartbeats 2000000 in
theorem begin_kit {B L I:Int} (hB : -9223372036854775808≤B∧B≤9223372036854775807) {iv:Value} {its:List Itm} (hst:StAt H iv its) (hits:∀ t∈its,ZK t) (hlen:its.length<281474976710656) {fr sp seed:Int} (hseed : -9223372036854775808≤seed∧seed≤9223372036854775807) (hiv:∃ b n c,iv=.slice b n c)
   (kno:∀ H',Ext H H'→R (.tuple #[.pointer none,.bool false,.bool false]) H')
   (k:∀ H' pp p lb r w m0 fs m,MaySt B L I its fr sp m0 fs→MOf m B L I→(zA m its (pg0 m)).full=false →
     Lx H H' [.box pp (prC p lb r w) 52,logOb lb p (dsOf B (Yg 0 (Zq m (zA m its (pg0 m)) (seed % 1000003).toNat))) [] (zp B L I) 1,docOb w r (rdOf B (Yg 0 (Zq m (zA m its (pg0 m)) (seed % 1000003).toNat))) (zp B L I) (RLg.new 1)]→R (.tuple #[z6 pp,.bool true,.bool true]) H') :
   Fc Tryz.prog 6 #[.agg (wldC B L I iv fr sp seed)] H R:=by
 have x3:∀ {a b:Value},ze (.tuple #[a,b]) 0=some a:=rfl
 have x4:∀ {a b:Value},ze (.tuple #[a,b]) 1=some b:=rfl
 obtain ⟨ivb,ivn,ivc,eiv⟩:=hiv
 have w0:(wldC B L I iv fr sp seed).extract 0 (0+3)=#[zm B,zm L,zm I]:=by simp [wldC]
 have w3:(wldC B L I iv fr sp seed).extract 3 (3+3)=stC iv fr sp:=by simp [wldC,stC]
 have w6:(wldC B L I iv fr sp seed)[6]?=some (zm seed):=rfl
 have wsz:(wldC B L I iv fr sp seed).size=7:=rfl
 refine fn6 ?_
 simp only [sh6,zeroImg,yp,za,zt]
 refine (Lo.start _ H:Lx H H []).boxA fun b1 H1 _ l1=>?_
 have l1:Lx H H1 [.box b1 (wldC B L I iv fr sp seed) 28]:=l1
 simp only [zi,Nat.zero_add,Nat.add_zero,za]
 rw [Zp (l1.at (i:=0) rfl) (show 0+3≤7 by omega),za,w0,Zp (l1.at (i:=0) rfl) (show 3+3≤7 by omega),za,w3]
 refine may_kit hB (hst.ext l1.ext0) hits hlen ⟨ivb,ivn,ivc,eiv⟩ (fun H2 e2=>?_) (fun H2 m0 fs e2 hmay=>?_)
 · rw [zT,za,Bool.not_false,Zm]
   exact kno H2 (l1.ext e2).ext0
 have l2:=l1.ext e2
 rw [zT,za,Bool.not_true,zn]
 rw [Zp (l2.at (i:=0) rfl) (show 0+3≤7 by omega),za,w0,Zp (l2.at (i:=0) rfl) (show 3+3≤7 by omega),za,w3,l2.ld (i:=0) rfl,w6,za]
 refine laid_ok hB (hst.ext l2.ext0) hits hlen hseed (fun H3 e3 hbad=>?_) (fun H3 dv m e3 hg hm hfull n3=>?_)
 · exfalso
   obtain ⟨m',hm',hf'⟩:=hbad hmay.ok
   have:=(room_same hmay.mof hm' hmay.ok hits).full
   rw [hf',hmay.room] at this
   cases this
 have k:=fun H' pp p lb r w=>k H' pp p lb r w m0 fs m hmay hm hfull
 obtain ⟨gL1,gL2,gI1,gI2,gB1,gB2,gD⟩:=id hg
 have hDA:(zp B L I).dataAt=1+L+(I+16) / 16+(B+8191) / 8192:=rfl
 have im:=im_ok hg hm hits hm.B n3.sv.sr
 obtain ⟨q,r0,edv⟩:=n3.sv.len
 have l3:=l2.new e3 n3
 generalize Yg 0 (Zq m (zA m its (pg0 m)) (seed % 1000003).toNat)=l at im l3 k n3 edv
 refine l3.boxA fun b3 H4 _ l4=>?_
 refine l4.stAll (i:=2) (n:=2) (vs:=#[zm B,dv]) rfl rfl rfl (by rw [edv]; unfold zF; rw [← Array.all_toList]; rfl) fun H5 l5=>?_
 rw [Zp (l5.at (i:=0) rfl) (show 0+3≤7 by omega),za,w0]
 refine of3 hB (fun H6 e6 _=>?_) (fun H6 e6 hno=>absurd hg hno)
 rw [x3,za,x4,za]
 refine (l5.ext e6).boxA fun b4 H7 _ l7=>?_
 refine l7.stAll (i:=3) (n:=9) rfl rfl (Lay.size _) (Lay.cok _) fun H8 l8=>?_
 have l8:Lx H H8 [.box b1 (wldC B L I iv fr sp seed) 28,.sl 98 1025 dv (l.map zM),.box b3 #[zm B,dv] 71,.box b4 (zp B L I).cells 74]:=l8
 rw [l8.ldAll (i:=2) (n:=2) rfl rfl,za]
 refine disk_load gB1 gB2 (l8.sv (i:=1) rfl) im.whole im.len fun H9 p e9 hdk=>?_
 have l9:Lx H H9 [.box b1 (wldC B L I iv fr sp seed) 28,.sl 98 1025 dv (l.map zM),.box b3 #[zm B,dv] 71,.box b4 (zp B L I).cells 74,diskOb p (DS.load B l)]:=l8.add e9 (x:=diskOb p (DS.load B l)) (O:=fun b=>H8.size≤b∧b<H9.size) ⟨⟨_,hdk,fun b hb=>hb⟩,fun b hb=>hb.2⟩ fun b hb=>hb.1
 rw [x3,za,x4,za]
 refine zS.mk (fun t H'=>H'=H9∧t.1=.bool false) ?_ ?_
 rotate_left
 · rw [show yH Tryz.prog 47 true .eql (z6 p) (.pointer none) H9=some (.bool false) from Yc (e:=112) (by kernel_rfl),za,zn,zw,za]
   exact ⟨rfl,rfl⟩
 rintro ⟨t,u⟩ H10 ⟨rfl,ht⟩
 simp only at ht
 subst ht
 rw [zn,l9.ldAll (i:=3) (n:=9) rfl (Lay.size _),za]
 obtain ⟨O9,⟨⟨Od,hd9,hsub⟩,hO9⟩,st9⟩:=l9.call (i:=4) rfl
 refine wal_new hd9 hB hg (show B≤B from Int.le_refl _) rfl (by show (0:Int)<_∧(0:Int)≤0; omega) (by show heldL l 1=zB; rw [heldL_img im.whole]; exact im.hd) (by show (0:Int)≤0∧(0:Int)<_; omega) fun H11 lb mb cb Oc s11 hd11 hc11 hm11 o1 o2 o3 o4 o5 o6 htop=>?_
 have hdl:=hd9.lt
 have l11:Lx H H11 [.box b1 (wldC B L I iv fr sp seed) 28,.sl 98 1025 dv (l.map zM),.box b3 #[zm B,dv] 71,.box b4 (zp B L I).cells 74,logOb lb p (dsOf B l) [] (zp B L I) 1]:=by
   refine st9 H11 (logOb lb p (dsOf B l) [] (zp B L I) 1) (fun b=>O9 b∨Oc b∨b=mb∨b=lb) ⟨s11.kp.mono fun b _ hb=>hsub b hb,fun b hb=>?_⟩ ⟨⟨cb,mb,Od,Oc,⟨hd11,hc11,hm11,htop,fun b hb hc=>?_,⟨fun hh=>?_,o5,fun hh=>?_,o4,o6⟩,⟨by omega,rfl⟩⟩,fun b hb=>.inl (hsub b hb),fun b hb=>.inr (.inl hb),.inr (.inr (.inl rfl)),.inr (.inr (.inr rfl))⟩,fun b hb=>?_⟩
   · rcases hb with hb | hb | hb | hb
     · exact .inl hb
     · exact .inr (o1 b hb)
     · rw [hb]; exact .inr o2
     · rw [hb]; exact .inr o3
   · have:=hdl b hb; have:=o1 b hc; omega
   · have:=hdl _ hh; omega
   · have:=hdl _ hh; omega
   · rcases hb with hb | hb | hb | hb
     · exact Nat.lt_of_lt_of_le (hO9 b hb) s11.kp.le
     · exact hc11.lt b hb
     · rw [hb]; exact hm11.lt
     · rw [hb]; exact (Array.getElem?_eq_some_iff.1 htop).1
 rw [x3,za,x4,za]
 refine zS.mk (fun t H'=>H'=H11∧t.1=.bool false) ?_ ?_
 rotate_left
 · rw [show yH Tryz.prog 48 true .eql (z6 lb) (.pointer none) H11=some (.bool false) from Yc (e:=139) (by kernel_rfl),za,zn,zw,za]
   exact ⟨rfl,rfl⟩
 rintro ⟨t,u⟩ H12 ⟨rfl,ht⟩
 simp only at ht
 subst ht
 rw [zn,l11.ldAll (i:=2) (n:=2) rfl rfl,za]
 refine load04 ⟨gB1,gB2⟩ (l11.sv (i:=1) rfl).sr im.whole im.is im.len fun H13 r e13 n13=>?_
 have l13:=l11.new e13 n13
 have l13:Lx H H13 [.box b1 (wldC B L I iv fr sp seed) 28,.sl 98 1025 dv (l.map zM),.box b3 #[zm B,dv] 71,.box b4 (zp B L I).cells 74,logOb lb p (dsOf B l) [] (zp B L I) 1,yX r (RDk.load B l)]:=l13
 rw [x3,za,x4,za,l13.ldAll (i:=3) (n:=9) rfl (Lay.size _),za]
 obtain ⟨O13,h13,st13⟩:=l13.call (i:=5) rfl
 refine new08 h13 (RDk.load_ok im.is im.len) rfl hg (show B≤B from Int.le_refl _) (by rw [show (RDk.load B l).at_ 1=zN l 1 from rfl]; exact im.hd) (by show (0:Int)<_; omega) fun H14 O14 w s14 h14=>?_
 have l14:Lx H H14 [.box b1 (wldC B L I iv fr sp seed) 28,.sl 98 1025 dv (l.map zM),.box b3 #[zm B,dv] 71,.box b4 (zp B L I).cells 74,logOb lb p (dsOf B l) [] (zp B L I) 1,docOb w r (rdOf B l) (zp B L I) (RLg.new 1)]:=st13 H14 _ O14 s14 h14
 rw [x3,za,x4,za,buildPr,za]
 refine l14.boxA fun pp H15 _ l15=>?_
 rw [show yH Tryz.prog 50 true .neq (z6 w) (.pointer none) H15=some (.bool true) from eqX_ptrN (e:=108) (by kernel_rfl),za]
 exact k H15 pp p lb r w (l15.pick [6,4,5] (by decide) (by simp))
end
theorem or_add {x y e z:Nat} (hx:x<2 ^ e) (hy:y=2 ^ e*z):x ||| y=x+y:=by
 rw [hy,Nat.or_comm,← Nat.two_pow_add_eq_or_of_lt hx,Nat.add_comm]
section
variable {H:Hp} {R:Value→Hp→Prop}
theorem orU16 {x y e z:Nat} (hx:x<2 ^ e) (hy:y=2 ^ e*z) (hs:x+y<65536) {td:Option TypeDesc}:zo td .or (.int .u16 x) (.int .u16 y)=some (.int .u16 ((x+y:Nat):Int)):=by
 rw [binE_or]
 have e1:bitsE .or .u16 (x:Int) (y:Int)=IntKind.u16.wrap (((BitVec.ofInt 16 (x:Int) ||| BitVec.ofInt 16 (y:Int)).toNat:Nat):Int):=rfl
 rw [e1,BitVec.ofInt_natCast,BitVec.ofInt_natCast,BitVec.toNat_or,BitVec.toNat_ofNat,BitVec.toNat_ofNat,Nat.mod_eq_of_lt (by omega),Nat.mod_eq_of_lt (by omega),or_add hx hy,Zv (by omega) (by omega)]
theorem orU32 {x y e z:Nat} (hx:x<2 ^ e) (hy:y=2 ^ e*z) (hs:x+y<4294967296) {td:Option TypeDesc}:zo td .or (.int .u32 x) (.int .u32 y)=some (.int .u32 ((x+y:Nat):Int)):=by
 rw [binE_or]
 have e1:bitsE .or .u32 (x:Int) (y:Int)=IntKind.u32.wrap (((BitVec.ofInt 32 (x:Int) ||| BitVec.ofInt 32 (y:Int)).toNat:Nat):Int):=rfl
 rw [e1,BitVec.ofInt_natCast,BitVec.ofInt_natCast,BitVec.toNat_or,BitVec.toNat_ofNat,BitVec.toNat_ofNat,Nat.mod_eq_of_lt (by omega),Nat.mod_eq_of_lt (by omega),or_add hx hy,Zk (by omega) (by omega)]
theorem shU16 {x:Nat} (hx:x<256) {td:Option TypeDesc}:zo td .shl (.int .u16 x) (.int .u64 8)=some (.int .u16 ((256*x:Nat):Int)):=by
 rw [binE_shl (by decide),show min (8:Int).toNat IntKind.u16.bits=8 from rfl,show (x:Int)*2 ^ 8=((256*x:Nat):Int) by omega,Zv (by omega) (by omega)]
theorem shU32 {x s:Nat} (hs:s=8∨s=16∨s=24) (hx:x<256) {td:Option TypeDesc}:zo td .shl (.int .u32 x) (.int .u64 s)=some (.int .u32 ((2 ^ s*x:Nat):Int)):=by
 rw [binE_shl (by omega)]
 rcases hs with rfl | rfl | rfl
 · rw [show min ((8:Nat):Int).toNat IntKind.u32.bits=8 from rfl,show (x:Int)*2 ^ 8=((2 ^ 8*x:Nat):Int) by omega,Zk (by omega) (by omega)]
 · rw [show min ((16:Nat):Int).toNat IntKind.u32.bits=16 from rfl,show (x:Int)*2 ^ 16=((2 ^ 16*x:Nat):Int) by omega,Zk (by omega) (by omega)]
 · rw [show min ((24:Nat):Int).toNat IntKind.u32.bits=24 from rfl,show (x:Int)*2 ^ 24=((2 ^ 24*x:Nat):Int) by omega,Zk (by omega) (by omega)]
theorem slab_u16 {c:Blk} (hc:IsB c) {a:Nat} (ha:a+2≤1024) (k:∀ H',Ext H H'→R (.int .u16 (leB c a 2)) H'):Fc Tryz.prog 99 #[.agg c,zm a] H R:=by
 have q0:=hc.lt a
 have q1:=hc.lt (a+1)
 refine fn99 ?_
 simp only [sh99]
 refine (Lo.start _ H:Lx H H []).boxA fun b1 H1 _ l1=>?_
 refine inside_ok (by omega) ?_
 rw [decide_eq_true (by omega),zT,za,Bool.not_true,zn]
 rw [zG (by omega),za,Nat.zero_add,Nat.mul_one,l1.ld (i:=0) rfl,hc.get (by omega),za,zE,za,Zv (by omega) (by omega),zk,za,zK,zv (by omega),zG (by omega),za,Nat.zero_add,Nat.mul_one,l1.ld (i:=0) rfl,hc.get (by omega),za,zE,za,Zv (by omega) (by omega),shU16 q1,za,orU16 (e:=8) (z:=byt c (a+1)) (by omega) (by omega) (by omega),za]
 have e:leB c a 2=byt c a+256*byt c (a+1):=by
   show byt c a+256*(byt c (a+1)+256*0)=_; omega
 rw [← e]
 exact k H1 l1.ext0
theorem slab_u32 {c:Blk} (hc:IsB c) {a:Nat} (ha:a+4≤1024) (k:∀ H',Ext H H'→R (.int .u32 (leB c a 4)) H'):Fc Tryz.prog 100 #[.agg c,zm a] H R:=by
 have q0:=hc.lt a
 have q1:=hc.lt (a+1)
 have q2:=hc.lt (a+2)
 have q3:=hc.lt (a+3)
 have sh:∀ {x:Nat} (n:Nat),n=8∨n=16∨n=24→x<256→zo (some (.int .u32)) .shl (.int .u32 x) (.int .u64 n)=some (.int .u32 ((2 ^ n*x:Nat):Int)):=fun n hn hx=>shU32 hn hx
 have s8:=@sh (byt c (a+1)) 8 (by omega) q1
 have s16:=@sh (byt c (a+2)) 16 (by omega) q2
 have s24:=@sh (byt c (a+3)) 24 (by omega) q3
 refine fn100 ?_
 simp only [sh100]
 refine (Lo.start _ H:Lx H H []).boxA fun b1 H1 _ l1=>?_
 refine inside_ok (by omega) ?_
 rw [decide_eq_true (by omega),zT,za,Bool.not_true,zn]
 rw [zG (by omega),za,Nat.zero_add,Nat.mul_one,l1.ld (i:=0) rfl,hc.get (by omega),za,zE,za,Zk (by omega) (by omega)]
 rw [zk,za,zK a,zv (v:=a+1) (by omega),zG (by omega),za,Nat.zero_add,Nat.mul_one,l1.ld (i:=0) rfl,hc.get (by omega),za,zE,za,Zk (by omega) (by omega)]
 erw [s8]
 rw [za,orU32 (e:=8) (z:=byt c (a+1)) (by omega) (by omega) (by omega),za]
 rw [zk,za,show (a:Int)+2=((a+2:Nat):Int) by omega,zv (v:=a+2) (by omega),zG (by omega),za,Nat.zero_add,Nat.mul_one,l1.ld (i:=0) rfl,hc.get (by omega),za,zE,za,Zk (by omega) (by omega)]
 erw [s16]
 rw [za,orU32 (e:=16) (z:=byt c (a+2)) (by omega) (by omega) (by omega),za]
 rw [zk,za,show (a:Int)+3=((a+3:Nat):Int) by omega,zv (v:=a+3) (by omega),zG (by omega),za,Nat.zero_add,Nat.mul_one,l1.ld (i:=0) rfl,hc.get (by omega),za,zE,za,Zk (by omega) (by omega)]
 erw [s24]
 rw [za,orU32 (e:=24) (z:=byt c (a+3)) (by omega) (by omega) (by omega),za]
 have e:leB c a 4=byt c a+2 ^ 8*byt c (a+1)+2 ^ 16*byt c (a+2)+2 ^ 24*byt c (a+3):=by
   show byt c a+256*(byt c (a+1)+256*(byt c (a+1+1)+256*(byt c (a+1+1+1)+256*0)))=_
   rw [show a+1+1=a+2 by omega,show a+2+1=a+3 by omega]; omega
 rw [← e]
 exact k H1 l1.ext0
end
theorem sl_arr {P:Program} {T e n:Nat} {i:TypeInfo} (hu:P.underlying T=some (.array n e)) (hi:P.info? e=some i) (hs:i.size=1) {b lo hi':Nat} (h1:lo≤hi') (h2:hi'≤n) (h3:lo<n):ZO P T (.pointer (some ⟨b,0,none⟩)) (some (zm lo)) (some (zm hi')) none=some (.slice (some ⟨b,lo,none⟩) (hi' - lo) (n - lo)):=by
 unfold ZO
 rw [hu]
 have q1:(0:Int)≤(hi':Int)∧(hi':Int)≤(n:Int):=by omega
 have q2:(0:Int)≤(lo:Int)∧(lo:Int)≤(hi':Int):=by omega
 simp only [Zf,hiE,Option.bind_some,Int.toNat_natCast,hi,Option.map_some]
 rw [if_pos q1]
 simp only [Option.bind_some]
 rw [if_pos q2]
 simp only [Option.bind_some,Option.map_some,hs,Nat.mul_one]
 rw [if_neg (by omega)]
 simp only [Addr.add_mk,Nat.zero_add]
theorem sl_all {P:Program} {T e n:Nat} {i:TypeInfo} (hu:P.underlying T=some (.array n e)) (hi:P.info? e=some i) (hs:i.size=1) {b:Nat} (h3:0<n):ZO P T (.pointer (some ⟨b,0,none⟩)) none none none=some (.slice (some ⟨b,0,none⟩) n n):=by
 unfold ZO
 rw [hu]
 simp only [Zf,hiE,Option.bind_some,hi,Option.map_some]
 rw [if_neg (by omega)]
 simp only [Addr.add_mk,Nat.zero_mul,Nat.zero_add,Nat.sub_zero]
theorem und64:Tryz.prog.underlying 149=some (.array 64 5):=by kernel_rfl
theorem undByt:Tryz.prog.underlying 43=some (.slice 5):=by kernel_rfl
theorem buildNode6 (a b c d e f:Int):zu Tryz.prog 88 [(0,.int .u16 a),(1,.int .u16 b),(2,.int .u32 c),(3,.int .u32 d),(5,.int .u32 e),(6,.int .u32 f)]=some (.agg #[.int .u16 a,.int .u16 b,.int .u32 c,.int .u32 d,.int .u32 0,.int .u32 0,.int .u32 0,.int .u32 0,.int .u32 0,.int .u32 0,.int .u32 0,.int .u32 0,.int .u32 0,.int .u32 0,.int .u32 e,.int .u32 f]):=by kernel_rfl
def inoU (f:Ino) (n:Nat):Ino:=fun j=>if j<4+n∨14≤j then f j else 0
theorem inoU_set (f:Ino) {n:Nat} (h:n<10):(Zs (inoU f n)).setIfInBounds (4+n) (.int .u32 (f (4+n)))=Zs (inoU f (n+1)):=by
 rw [yQ _ _ (4+n) (by omega) (by omega)]
 refine yT fun j hj=>?_
 unfold upd inoU
 by_cases e:j=4+n
 · subst e; rw [if_pos rfl,if_pos (by omega)]
 · rw [if_neg e]
   by_cases h3:j<4+n∨14≤j
   · rw [if_pos h3,if_pos (by omega)]
   · rw [if_neg h3,if_neg (by omega)]
section
variable {H:Hp} {R:Value→Hp→Prop}
theorem span64 (k:R (.tuple #[zm 0,zm 64]) H):Fc Tryz.prog 139 #[zm 0,zm 64] H R:=by
 refine fn139 ?_
 simp only [sh139,zt]
 refine zS.mk (fun t H'=>H'=H∧t.1=.bool false) ?_ ?_
 · rintro ⟨t,u⟩ H2 ⟨rfl,ht⟩
   simp only at ht
   subst ht
   rw [zn,show maxE (zm 0) (.int .i64 0)=some (zm 0) from rfl,za,zr,za,decide_eq_false (by omega),zn,zO,za,zg (by omega) (by omega),zr,za,decide_eq_true (by omega),Zm,zk,za,zg (by omega) (by omega),show maxE (zm 0) (.int .i64 (0+64))=some (zm 64) from rfl,za]
   exact k
 · rw [zr,za,decide_eq_false (by omega),zn,zQ,za,decide_eq_false (by omega),zn,zr,za,decide_eq_false (by omega),zn]
   exact ⟨rfl,rfl⟩
theorem lay64 {pb:Nat} {pc:Array Value} {T:TypeId} (hp:H[pb]?=some (.cells pc T)) (hpc:IsN 64 pc) (k:∀ H',Ext H H'→R (.agg (zZ zB 0 pc)) H'):Fc Tryz.prog 98 #[.agg zB,zm 0,.slice (some ⟨pb,0,none⟩) 64 64] H R:=by
 have x3:∀ {a b:Value},ze (.tuple #[a,b]) 0=some a:=rfl
 have x4:∀ {a b:Value},ze (.tuple #[a,b]) 1=some b:=rfl
 have hsp:IsB (zZ zB 0 pc):=(yg Zn.n hpc (by omega)).b
 refine fn98 ?_
 simp only [sh98,ya,za,zt]
 refine (Lo.start _ H:Lx H H []).boxA fun b1 H1 _ l1=>?_
 refine l1.boxA fun b2 H2 _ l2=>?_
 rw [show lenE Tryz.prog 43 (.slice (some ⟨pb,0,none⟩) 64 64)=some (zm 64) from len_slice undByt,za]
 refine span64 ?_
 rw [x3,za,x4,za]
 refine zx.mk (fun t H'=>∃ (i:Nat) (c:Blk),i≤64∧t=(zm i,())∧CpyI zB pc 0 i c∧Lx H H' [.box b1 c 94,.box b2 zB 94])
   (fun t _=>mi t.1 fun i=>(64 - i).toNat) ⟨0,zB,by omega,rfl,CpyI.zero Zn,l2⟩ ?_
 rintro _ H3 ⟨i,c,hi,rfl,hcp,l3⟩
 rw [zr,za,zf]
 refine ⟨fun hlt=>?_,fun hge=>?_⟩
 · have hp3:=l3.ext0.at hp
   rw [zO,za,zg (by omega) (by omega),show (i:Int) - 0=(i:Int) by omega,@idx_slc 64 64 1 pb 0 .i64 i (by omega) (by omega),za,Nat.mul_one,Nat.zero_add,zq hp3,hpc.get (by omega),za,zG (by omega),za,Nat.mul_one,Nat.zero_add]
   refine l3.st (i:=0) (j:=i) (v:=.int .u8 (byt pc i)) rfl (by rw [hcp.1.size]; omega) rfl rfl fun H4 l4=>?_
   rw [zk,za,zK,zv (by omega)]
   have hst:=hcp.step hpc (by omega) (by omega)
   rw [Nat.zero_add] at hst
   exact ⟨⟨i+1,_,by omega,rfl,hst,l4⟩,by simp only [zC]; omega⟩
 · have ei:i=64:=by omega
   subst ei
   have e:=hcp.done Zn hpc (by omega)
   rw [l3.ldAll (i:=0) (n:=1024) rfl hcp.1.size,za]
   refine l3.ret (i:=1) rfl zJ hcp.1.size hcp.1.ok fun H' l'=>?_
   rw [e]; exact k H' l'.ext0
set_option maxHeartbeats 1000000 in
theorem node_dec {c:Array Value} (hc:IsN 64 c) (k:∀ H',Ext H H'→R (.agg (Zs (Zu c 0))) H'):Fc Tryz.prog 63 #[.agg c] H R:=by
 have hX:IsB (zZ zB 0 c):=(yg Zn.n hc (by omega)).b
 have hle:∀ {a n:Nat},a+n≤64→leB (zZ zB 0 c) a n=leB c a n:=fun {a n} han=>Yy _ _ _ fun i hi=>by
   rw [byt_splice Zn.n hc (by omega),if_pos (by omega),Nat.sub_zero]
 have eF:∀ j,leB c (fo j) (fw j)=Zu c 0 j:=fun j=>by unfold Zu; rw [Nat.zero_add]
 refine fn63 ?_
 simp only [sh63,yd,ya,YF,za,zt]
 refine (Lo.start _ H:Lx H H []).boxA fun b1 H1 _ l1=>?_
 refine l1.boxA fun b2 H2 _ l2=>?_
 rw [sl_all und64 inf8_e inf8_s (by omega),za]
 refine lay64 (l2.at (i:=0) rfl) hc fun H3 e3=>?_
 generalize zZ zB 0 c=X at hX hle
 refine (l2.ext e3).boxA fun b3 H4 _ l4=>?_
 refine l4.stAll (i:=2) rfl zJ hX.size hX.ok fun H5 l5=>?_
 have l5:Lx H H5 [.box b1 c 149,.box b2 (Zs fun _=>0) 88,.box b3 X 94]:=l5
 have q2:∀ {H':Hp} {a:Nat},a+2≤64→QC true Tryz.prog 99 #[.agg X,zm a] H' (.int .u16 (leB c a 2)):=fun {H' a} ha H'' _=>slab_u16 hX (by omega) fun H3 e3=>⟨by rw [hle ha],e3⟩
 have q4:∀ {H':Hp} {a:Nat},a+4≤64→QC true Tryz.prog 100 #[.agg X,zm a] H' (.int .u32 (leB c a 4)):=fun {H' a} ha H'' _=>slab_u32 hX (by omega) fun H3 e3=>⟨by rw [hle ha],e3⟩
 rw [l5.ldAll (i:=2) (n:=1024) rfl hX.size,za]
 refine ⟨_,q2 (a:=0) (by omega),?_⟩
 rw [za]
 refine ⟨_,q2 (a:=2) (by omega),?_⟩
 rw [za]
 refine ⟨_,q4 (a:=4) (by omega),?_⟩
 rw [za]
 refine ⟨_,q4 (a:=8) (by omega),?_⟩
 rw [za]
 refine ⟨_,q4 (a:=52) (by omega),?_⟩
 rw [za]
 refine ⟨_,q4 (a:=56) (by omega),?_⟩
 have e0:=eF 0
 have e1:=eF 1
 have e2:=eF 2
 have e3':=eF 3
 have e14:=eF 14
 have e15:=eF 15
 simp only [fo,fw,Nat.reduceLT,if_true,if_false,Nat.reduceMul,Nat.reduceSub,Nat.lt_irrefl] at e0 e1 e2 e3' e14 e15
 rw [e0,e1,e2,e3',e14,e15,buildNode6,za,zl]
 intro H6 f6
 refine (l5.ext f6).boxA fun b4 H7 _ l7=>?_
 rw [zl]
 intro H8 f8
 refine (l7.ext f8).stAll (i:=3) (vs:=Zs (inoU (Zu c 0) 0)) rfl (zz _) (zz _) (Z0 _) fun H9 l9=>?_
 rw [zl]
 intro H10 f10
 have l10:Lx H H10 [.box b1 c 149,.box b2 (Zs fun _=>0) 88,.box b3 X 94,.box b4 (Zs (inoU (Zu c 0) 0)) 88]:=l9.ext f10
 refine zx.mk (fun t H'=>∃ i:Nat,i≤10∧t=(zm i,())∧Lx H H' [.box b1 c 149,.box b2 (Zs fun _=>0) 88,.box b3 X 94,.box b4 (Zs (inoU (Zu c 0) i)) 88])
   (fun t _=>mi t.1 fun i=>(10 - i).toNat) ⟨0,by omega,rfl,l10⟩ ?_
 rintro _ H11 ⟨i,hi,rfl,l11⟩
 rw [zr,za,zf]
 refine ⟨fun hlt=>?_,fun hge=>?_⟩
 · rw [l11.ldAll (i:=2) (n:=1024) rfl hX.size,za,zX,za,zg (by omega) (by omega),zk,za,zg (by omega) (by omega),show (12:Int)+4*(i:Int)=((12+4*i:Nat):Int) by omega]
   refine slab_u32 hX (by omega) fun H12 e12=>?_
   have e4:leB c (12+4*i) 4=Zu c 0 (4+i):=by
     have:=eF (4+i)
     rw [show fo (4+i)=12+4*i by unfold fo; rw [if_neg (by omega)]; omega,show fw (4+i)=4 by unfold fw; rw [if_neg (by omega)]] at this
     exact this
   rw [hle (by omega),e4,zi,za,Nat.zero_add,zG (by omega),za,Nat.mul_one]
   refine (l11.ext e12).st (i:=3) (j:=4+i) (v:=.int .u32 (Zu c 0 (4+i))) rfl (by rw [zz]; omega) rfl rfl fun H13 l13=>?_
   rw [inoU_set _ (by omega)] at l13
   rw [zk,za,zK,zv (by omega)]
   exact ⟨⟨i+1,by omega,rfl,l13⟩,by simp only [zC]; omega⟩
 · have ei:i=10:=by omega
   subst ei
   rw [l11.ldAll (i:=3) (n:=16) rfl (zz _),za]
   refine l11.ret (i:=1) rfl (zz _) (zz _) (Z0 _) fun H' l'=>?_
   rw [yT (g:=Zu c 0) fun j hj=>by unfold inoU; rw [if_pos (by omega)]]
   exact k H' l'.ext0
end
theorem logC_lay {os:Value} {mb p cb:Nat} {x:Lay} {mine:Int} {op:Bool} {room:Int} {wr:Value} {co st:Int}:(logC os mb p cb x mine op room wr co st).extract 4 (4+9)=x.cells:=by simp [logC,Lay.cells]
section
variable {H:Hp} {R:Value→Hp→Prop} {lb p cb mb:Nat} {s:DS} {cs:List Pl} {x:Lay} {mine:Int} {O Oc:Nat→Prop} {B L I:Int}
theorem und1024:Tryz.prog.underlying 94=some (.array 1024 5):=by kernel_rfl
end
section
variable {m:Pm} {q:Pg} {f:Ino} {B L I:Int}
theorem bump_low {f:Ino} {j:Nat} (hj:j<3):bump f j=f j:=by
 unfold bump upd; rw [if_neg (by omega)]
theorem upd_low {f:Ino} {i v j:Nat} (hj:j<3) (hi:3≤i):upd f i v j=f j:=by
 unfold upd; rw [if_neg (by omega)]
theorem top_low {i j:Nat} (hj:j<3):(Pg.top m q f i).2.1 j=f j:=by
 unfold Pg.top
 split
 · exact bump_low hj
 · rfl
theorem fin_low {tp pl:Nat} {b:Blk} {j:Nat} (hj:j<3):(Pg.fin m q f tp pl b).2 j=f j:=by
 unfold Pg.fin
 split
 · rfl
 · exact bump_low hj
theorem dbl_low {tp pl r:Nat} {b:Blk} {j:Nat} (hj:j<3):(Pg.dbl m q f tp pl r b).2 j=f j:=by
 unfold Pg.dbl
 split
 · split
   · rfl
   · rw [fin_low hj,bump_low hj]
 · exact fin_low hj
theorem file_inoL {idx:Int} {b:Blk} {j:Nat} (hj:j<3):(Pg.file m q f idx b).2 j=f j:=by
 unfold Pg.file
 split
 · rfl
 · split
   · rfl
   · split
     · split
       · rfl
       · show bump _ j=f j
         rw [bump_low hj,upd_low hj (by omega)]
     · split
       · split
         · exact top_low hj
         · rw [fin_low hj,upd_low hj (by omega),top_low hj]
       · split
         · exact top_low hj
         · rw [dbl_low hj,upd_low hj (by omega),top_low hj]
theorem dir_inoL (m:Pm) (len:Nat) {j:Nat} (hj:j<3):∀ (l:List Ent) (s:Nat) (q:Pg) (f:Ino) (b:Blk),(ZC m len l s q f b).2 j=f j
 | [],_,_,_,_=>rfl
 | e :: l,s,q,f,b=>by
   rw [ZY]
   split
   · rfl
   · split
     · rw [dir_inoL m len hj l,file_inoL hj]
     · exact dir_inoL m len hj l _ _ _ _
theorem data_inoL (m:Pm) {j:Nat} (hj:j<3):∀ (l:List (Int × Blk)) (q:Pg) (f:Ino),(ZZ m l q f).2 j=f j
 | [],_,_=>rfl
 | d :: l,q,f=>by
   unfold ZZ
   split
   · rfl
   · rw [data_inoL m hj l,file_inoL hj]
theorem itm_inoL {t:Itm} {j:Nat} (hj:j<3):(Zo m q t).2 j=yE t j:=by
 unfold Zo
 simp only
 split
 · rw [data_inoL m hj]
   split
   · exact dir_inoL m _ hj _ _ _ _ _
   · rfl
 · split
   · exact dir_inoL m _ hj _ _ _ _ _
   · rfl
def nAt (L:Int) (i:Int):Nat:=(1+L).toNat+i.toNat / 16
def nOf (i:Int):Nat:=64*(i.toNat % 16)
theorem items_full {m:Pm}:∀ (l:List Itm) (q:Pg),q.full=true→(zA m l q).full=true
 | [],_,h=>h
 | t :: l,q,h=>by rw [Zj,if_pos h]; exact h
theorem item_bad {t:Itm} (h:t.inum<1∨m.x.I<t.inum):(Pg.item m q t).full=true:=by unfold Pg.item; rw [if_pos h]
theorem item_own (hm:MOf m B L I) (hg:Zd B L I) (h:Pgs m q) {t:Itm} (ht:ZK t) (hf:(Pg.item m q t).full=false) :
   1≤t.inum∧t.inum≤I∧∃ c,(Pg.item m q t).L[nAt L t.inum]?=some c∧IsB c∧∀ j,j<3→Zu c (nOf t.inum) j=yE t j:=by
 have hx:m.x=zp B L I:=hm.x
 have hI:m.x.I=I:=by rw [hx]; rfl
 have hN:m.x.nodeAt=1+L:=by rw [hx]; rfl
 have hrange:¬ (t.inum<1∨m.x.I<t.inum):=fun hh=>by rw [item_bad hh] at hf; cases hf
 obtain ⟨g1,g2,g3,g4,g5,g6,g7⟩:=id hg
 have hd:(m.da:Int)=(zp B L I).dataAt:=by rw [← hm.ok.da,hx]
 have hB:(m.B:Int)=B:=hm.B
 simp only [zp] at hd g7
 have hk:=itm_keep hm.ok ht h.ok h.z
 refine ⟨by omega,by omega,zZ ((Zo m q t).1.L.getD (nAt L t.inum) zB) (nOf t.inum) (encN (Zo m q t).2),?_,?_,fun j hj=>?_⟩
 · unfold Pg.item
   rw [if_neg hrange,hN]
   show ((Zo m q t).1.L.set (nAt L t.inum) _)[nAt L t.inum]?=_
   rw [List.getElem?_set_self (by rw [hk.ok.len]; unfold nAt; omega)]
   rfl
 · have hc:IsB ((Zo m q t).1.L.getD (nAt L t.inum) zB):=by
     rw [List.getD_eq_getElem?_getD]
     cases e:(Zo m q t).1.L[nAt L t.inum]? with
     | none=>exact Zn
     | some c=>exact hk.ok.is c (List.mem_of_getElem? e)
   exact (yg hc.n (encN_is _) (by unfold nOf; omega)).b
 · have hc:IsB ((Zo m q t).1.L.getD (nAt L t.inum) zB):=by
     rw [List.getD_eq_getElem?_getD]
     cases e:(Zo m q t).1.L[nAt L t.inum]? with
     | none=>exact Zn
     | some c=>exact hk.ok.is c (List.mem_of_getElem? e)
   rw [inoOf_splice hc.n (by unfold nOf; omega) hk.ino (by omega)]
   exact itm_inoL hj
theorem item_oth (hm:MOf m B L I) (hg:Zd B L I) (h:Pgs m q) {t:Itm} (ht:ZK t) (hf:(Pg.item m q t).full=false) {i:Int} (hi:1≤i∧i≤I) (hne:t.inum≠i) {c:Blk} (hc:q.L[nAt L i]?=some c) :
   ∃ c',(Pg.item m q t).L[nAt L i]?=some c'∧∀ j,j<16→Zu c' (nOf i) j=Zu c (nOf i) j:=by
 have hx:m.x=zp B L I:=hm.x
 have hN:m.x.nodeAt=1+L:=by rw [hx]; rfl
 have hI:m.x.I=I:=by rw [hx]; rfl
 have hrange:¬ (t.inum<1∨m.x.I<t.inum):=fun hh=>by rw [item_bad hh] at hf; cases hf
 obtain ⟨g1,g2,g3,g4,g5,g6,g7⟩:=id hg
 have hd:(m.da:Int)=(zp B L I).dataAt:=by rw [← hm.ok.da,hx]
 have hB:(m.B:Int)=B:=hm.B
 simp only [zp] at hd g7
 have hk:=itm_keep hm.ok ht h.ok h.z
 have ho:(Zo m q t).1.L[nAt L i]?=some c:=by rw [itm_out hm.ok h ht (by unfold nAt; omega)]; exact hc
 have hcb:=hk.ok.is c (List.mem_of_getElem? ho)
 unfold Pg.item
 rw [if_neg hrange,hN]
 show ∃ c',((Zo m q t).1.L.set (nAt L t.inum) _)[nAt L i]?=some c'∧_
 by_cases e:nAt L t.inum=nAt L i
 · rw [e,List.getElem?_set_self (by rw [hk.ok.len]; unfold nAt; omega)]
   refine ⟨_,rfl,fun j hj=>?_⟩
   rw [List.getD_eq_getElem?_getD,show (1+L).toNat+t.inum.toNat / 16=nAt L i from e,ho]
   refine inoOf_other hcb.n (encN_is _) (by omega) ?_ hj
   unfold nAt at e
   unfold nOf
   omega
 · rw [List.getElem?_set_ne e]
   exact ⟨c,ho,fun j _=>rfl⟩
theorem items_oth (hm:MOf m B L I) (hg:Zd B L I) {i:Int} (hi:1≤i∧i≤I):∀ (l:List Itm) (q:Pg) (c:Blk),(∀ t∈l,ZK t)→(∀ t∈l,t.inum≠i)→Pgs m q→(zA m l q).full=false→q.L[nAt L i]?=some c →
   ∃ c',(zA m l q).L[nAt L i]?=some c'∧∀ j,j<16→Zu c' (nOf i) j=Zu c (nOf i) j
 | [],q,c,_,_,_,_,hc=>⟨c,hc,fun _ _=>rfl⟩
 | t :: l,q,c,hl,hne,h,hf,hc=>by
   have ht:=hl t List.mem_cons_self
   rw [Zj] at hf ⊢
   cases hq:q.full with
   | true=>rw [hq,if_pos rfl] at hf; rw [hf] at hq; cases hq
   | false=>
     rw [hq,if_neg (by decide)] at hf
     rw [if_neg (by decide)]
     have hft:(Pg.item m q t).full=false:=by
       cases e:(Pg.item m q t).full with
       | false=>rfl
       | true=>rw [items_full l _ e] at hf; cases hf
     obtain ⟨c1,h1,e1⟩:=item_oth hm hg h ht hft hi (hne t List.mem_cons_self) hc
     obtain ⟨c2,h2,e2⟩:=items_oth hm hg hi l _ c1 (fun x hx=>hl x (List.mem_cons_of_mem _ hx)) (fun x hx=>hne x (List.mem_cons_of_mem _ hx)) (Yz hm hg h ht) hf h1
     exact ⟨c2,h2,fun j hj=>by rw [e2 j hj,e1 j hj]⟩
theorem items_ino (hm:MOf m B L I) (hg:Zd B L I):∀ (l:List Itm) (q:Pg),(∀ t∈l,ZK t)→(l.map (·.inum)).Nodup→Pgs m q→(zA m l q).full=false→∀ t∈l,
   1≤t.inum∧t.inum≤I∧∃ c,(zA m l q).L[nAt L t.inum]?=some c∧∀ j,j<3→Zu c (nOf t.inum) j=yE t j
 | [],q,_,_,_,_,t,ht=>by cases ht
 | t :: l,q,hl,hnd,h,hf,u,hu=>by
   have ht:=hl t List.mem_cons_self
   rw [List.map_cons,List.nodup_cons] at hnd
   rw [Zj] at hf ⊢
   cases hq:q.full with
   | true=>rw [hq,if_pos rfl] at hf; rw [hf] at hq; cases hq
   | false=>
     rw [hq,if_neg (by decide)] at hf
     rw [if_neg (by decide)]
     have hft:(Pg.item m q t).full=false:=by
       cases e:(Pg.item m q t).full with
       | false=>rfl
       | true=>rw [items_full l _ e] at hf; cases hf
     have hk:=Yz hm hg h ht
     rcases List.mem_cons.1 hu with e | e
     · subst e
       obtain ⟨r1,r2,c,h1,_,e1⟩:=item_own hm hg h ht hft
       obtain ⟨c2,h2,e2⟩:=items_oth hm hg ⟨r1,r2⟩ l _ c (fun x hx=>hl x (List.mem_cons_of_mem _ hx)) (fun x hx e=>hnd.1 (by rw [← e]; exact List.mem_map.2 ⟨x,hx,rfl⟩)) hk hf h1
       exact ⟨r1,r2,c2,h2,fun j hj=>by rw [e2 j (by omega),e1 j hj]⟩
     · exact items_ino hm hg l _ (fun x hx=>hl x (List.mem_cons_of_mem _ hx)) hnd.2 hk hf u e
theorem laid_mid (hm:MOf m B L I) (hg:Zd B L I) {q:Pg} (sd:Nat) {i:Nat} (h1:1+L≤i) (h2:(i:Int)<1+L+(I+16) / 16):(Zq m q sd)[i]?=q.L[i]?:=by
 have hx:m.x=zp B L I:=hm.x
 obtain ⟨g1,g2,g3,g4,g5,g6,g7⟩:=id hg
 have hd:(m.da:Int)=(zp B L I).dataAt:=by rw [← hm.ok.da,hx]
 have hb:m.x.bitsAt=1+L+(I+16) / 16:=by rw [hx]; rfl
 have ha:m.x.logAt=1:=by rw [hx]; rfl
 have hL:m.x.L=L:=by rw [hx]; rfl
 simp only [zp] at hd g7
 have hbit:=YG (m:=m) (c:=q.c) (sd:=sd) (L:=q.L.set 0 (ZN m.x)) (i:=i) (by rw [hb]; omega) (by omega) m.B
 rw [List.getElem?_set_ne (by omega)] at hbit
 unfold Zq
 split
 · have hmod:sd % (m.x.L.toNat - 1)<m.x.L.toNat - 1:=Nat.mod_lt _ (by rw [hL]; omega)
   rw [List.getElem?_set_ne (by rw [ha]; rw [hL] at hmod ⊢; omega)]
   exact hbit
 · exact hbit
theorem laid_ino (hm:MOf m B L I) (hg:Zd B L I) {its:List Itm} (hits:∀ t∈its,ZK t) (hnd:(its.map (·.inum)).Nodup) (hf:(zA m its (pg0 m)).full=false) (sd:Nat) {t:Itm} (ht:t∈its) :
   1≤t.inum∧t.inum≤I∧∀ j,j<3→Zu (zN (Yg 0 (Zq m (zA m its (pg0 m)) sd)) (1+L+((t.inum.toNat / 16:Nat):Int))) (64*(t.inum.toNat % 16)) j=yE t j:=by
 obtain ⟨g1,g2,g3,g4,g5,g6,g7⟩:=id hg
 obtain ⟨r1,r2,c,hc,e⟩:=items_ino hm hg its (pg0 m) hits hnd (pg0_ok hm.ok) hf t ht
 refine ⟨r1,r2,fun j hj=>?_⟩
 have hmid:=laid_mid hm hg (q:=zA m its (pg0 m)) sd (i:=nAt L t.inum) (by unfold nAt; omega) (by unfold nAt; omega)
 rw [hc] at hmid
 have:=yU _ 0 (nAt L t.inum) c hmid
 rw [Nat.zero_add,show ((nAt L t.inum:Nat):Int)=1+L+((t.inum.toNat / 16:Nat):Int) by unfold nAt; omega] at this
 rw [this]
 exact e j hj
end
section
variable {m:Pm} {q:Pg} {f:Ino} {a:Own1}
theorem fin_L (hc:q.c<m.n) (hnf:q.full=false) (tp pl:Nat) (b:Blk):(Pg.fin m q f tp pl b).1.L=(((⟨q.L,q.c+1,q.full⟩:Pg).put tp pl (m.blk q.c)).L).set (m.blk q.c) b:=by
 unfold Pg.fin
 rw [Zc hc]
 simp only [hnf]
 rw [if_neg (by decide)]
 rfl
theorem fin_chg (hc:q.c<m.n) (hnf:q.full=false) {tp pl:Nat} {b:Blk} {x:Nat} (h1:x≠tp) (h2:x≠m.blk q.c):(Pg.fin m q f tp pl b).1.L[x]?=q.L[x]?:=by
 rw [fin_L hc hnf,List.getElem?_set_ne (Ne.symm h2)]
 show (q.L.set tp _)[x]?=_
 rw [List.getElem?_set_ne (Ne.symm h1)]
theorem fin_new (hm:yA m) (hq:q.L.length=m.B) (hc:q.c<m.n) (hnf:q.full=false) {tp pl:Nat} {b:Blk}:(Pg.fin m q f tp pl b).1.L[m.blk q.c]?=some b:=by
 rw [fin_L hc hnf,List.getElem?_set_self]
 show m.blk q.c<(q.L.set tp _).length
 rw [List.length_set,hq]
 exact (m.blk_lt hm _).2
theorem file_chg (hm:yA m) (hq:PgOk m q) (h:FR m q f a) (hnf:q.full=false) {i:Nat} (hi:i<65802) {b:Blk} (hn:q.c+need a i≤m.n) :
   (∀ x,(∀ k,q.c≤k→k<m.n→x≠m.blk k)→(∀ P k,P<258→a P=some k→x≠m.blk k)→(Pg.file m q f i b).1.L[x]?=q.L[x]?)∧(Pg.file m q f i b).1.L[m.blk (q.c+need a i - 1)]?=some b∧grow a q.c i (258+i)=some (q.c+need a i - 1):=by
 have hlen:=hq.len
 unfold Pg.file
 unfold need at hn ⊢
 unfold grow
 rw [if_neg (by omega),if_neg (by rw [hnf]; decide),Int.toNat_natCast]
 by_cases h10:i<10
 · rw [if_pos h10] at hn
   rw [if_pos (by omega),if_pos h10,if_pos h10]
   have hc:q.c<m.n:=by omega
   rw [Zc hc]
   simp only [hnf]
   rw [if_neg (by decide),Nat.add_sub_cancel]
   refine ⟨fun x h1 _=>?_,?_,yI⟩
   · show (q.L.set (m.blk q.c) b)[x]?=_
     rw [List.getElem?_set_ne (Ne.symm (h1 q.c (Nat.le_refl _) hc))]
   · show (q.L.set (m.blk q.c) b)[m.blk q.c]?=_
     rw [List.getElem?_set_self (by rw [hlen]; exact (m.blk_lt hm _).2)]
 · rw [if_neg h10] at hn
   rw [if_neg (by omega),if_neg h10,if_neg h10]
   by_cases h266:i<266
   · rw [if_pos h266] at hn
     rw [if_pos (by omega),if_pos h266,if_pos h266]
     by_cases hz:a 0=none
     · have f14:f 14=0:=by rw [h.f14,hz]; rfl
       rw [if_pos hz] at hn
       have hc:q.c<m.n:=by omega
       have et:Pg.top m q f 14=((q.take m).1,bump f,(q.take m).2):=by unfold Pg.top; rw [if_pos f14]
       rw [et,if_pos hz,if_pos hz,Zc hc]
       simp only [hnf]
       rw [if_neg (by decide)]
       have hc2:(⟨q.L,q.c+1,false⟩:Pg).c<m.n:=by show q.c+1<m.n; omega
       refine ⟨fun x h1 _=>?_,?_,yI⟩
       · exact fin_chg hc2 rfl (h1 q.c (Nat.le_refl _) hc) (h1 (q.c+1) (by omega) (by omega))
       · exact fin_new (q:=⟨q.L,q.c+1,false⟩) hm hlen hc2 rfl
     · cases hk:a 0 with
       | none=>exact absurd hk hz
       | some k0=>
         have f14:f 14=m.blk k0:=by rw [h.f14,hk]; rfl
         rw [if_neg hz] at hn
         have hc:q.c<m.n:=by omega
         have et:Pg.top m q f 14=(q,f,m.blk k0):=by unfold Pg.top; rw [if_neg (by rw [f14]; exact Y1 hm k0),f14]
         rw [et]
         simp only [hnf,reduceCtorEq,Bool.false_eq_true,if_false,Nat.add_sub_cancel]
         refine ⟨fun x h1 h2=>?_,fin_new hm hlen hc hnf,yI⟩
         exact fin_chg hc hnf (h2 0 k0 (by omega) hk) (h1 q.c (Nat.le_refl _) hc)
   · rw [if_neg h266] at hn
     rw [if_neg (by omega),if_neg h266,if_neg h266]
     have hpl:(i - 266) / 256<256:=by omega
     by_cases hz:a 1=none
     · have f15:f 15=0:=by rw [h.f15,hz]; rfl
       rw [if_pos hz] at hn
       have hc:q.c<m.n:=by omega
       have et:Pg.top m q f 15=((q.take m).1,bump f,(q.take m).2):=by unfold Pg.top; rw [if_pos f15]
       rw [et,if_pos hz,if_pos hz,Zc hc]
       simp only [hnf]
       rw [if_neg (by decide)]
       have hgz:(⟨q.L,q.c+1,false⟩:Pg).got (m.blk q.c) ((i - 266) / 256)=0:=got_zero (q:=⟨q.L,q.c+1,false⟩) (h.z q.c (Nat.le_refl _) hc)
       unfold Pg.dbl
       rw [if_pos hgz]
       have hc1:(⟨q.L,q.c+1,false⟩:Pg).c<m.n:=by show q.c+1<m.n; omega
       rw [Zc hc1]
       simp only
       rw [if_neg (by decide)]
       have hc2:((⟨q.L,q.c+1+1,false⟩:Pg).put (m.blk q.c) ((i - 266) / 256) (m.blk (q.c+1))).c<m.n:=by show q.c+1+1<m.n; omega
       refine ⟨fun x h1 _=>?_,?_,yI⟩
       · refine (fin_chg hc2 rfl (h1 (q.c+1) (by omega) (by omega)) (h1 (q.c+1+1) (by omega) (by omega))).trans ?_
         show (q.L.set (m.blk q.c) _)[x]?=_
         rw [List.getElem?_set_ne (Ne.symm (h1 q.c (Nat.le_refl _) hc))]
       · exact fin_new (q:=(⟨q.L,q.c+1+1,false⟩:Pg).put (m.blk q.c) ((i - 266) / 256) (m.blk (q.c+1))) hm (by show (q.L.set _ _).length=_; rw [List.length_set]; exact hlen) hc2 rfl
     · cases hk:a 1 with
       | none=>exact absurd hk hz
       | some k1=>
         have f15:f 15=m.blk k1:=by rw [h.f15,hk]; rfl
         rw [if_neg hz] at hn
         have et:Pg.top m q f 15=(q,f,m.blk k1):=by unfold Pg.top; rw [if_neg (by rw [f15]; exact Y1 hm k1),f15]
         rw [et]
         simp only [hnf,reduceCtorEq,Bool.false_eq_true,if_false]
         have hgot:=h.ix 1 k1 (by omega) hk ((i - 266) / 256) hpl
         have hs:ZD 1 ((i - 266) / 256)=2+(i - 266) / 256:=rfl
         rw [hs] at hgot
         unfold Pg.dbl
         by_cases hy:a (2+(i - 266) / 256)=none
         · rw [if_pos hy] at hn
           rw [hy] at hgot
           have hc:q.c<m.n:=by omega
           rw [if_pos hy,if_pos hy,if_pos (show q.got (m.blk k1) ((i - 266) / 256)=0 from hgot),Zc hc]
           simp only [hnf]
           rw [if_neg (by decide)]
           have hc2:((⟨q.L,q.c+1,false⟩:Pg).put (m.blk k1) ((i - 266) / 256) (m.blk q.c)).c<m.n:=by show q.c+1<m.n; omega
           refine ⟨fun x h1 h2=>?_,?_,yI⟩
           · refine (fin_chg hc2 rfl (h1 q.c (by omega) (by omega)) (h1 (q.c+1) (by omega) (by omega))).trans ?_
             show (q.L.set (m.blk k1) _)[x]?=_
             rw [List.getElem?_set_ne (Ne.symm (h2 1 k1 (by omega) hk))]
           · exact fin_new (q:=(⟨q.L,q.c+1,false⟩:Pg).put (m.blk k1) ((i - 266) / 256) (m.blk q.c)) hm (by show (q.L.set _ _).length=_; rw [List.length_set]; exact hlen) hc2 rfl
         · cases hk2:a (2+(i - 266) / 256) with
           | none=>exact absurd hk2 hy
           | some k2=>
             rw [if_neg hy] at hn
             rw [hk2] at hgot
             have hc:q.c<m.n:=by omega
             have hgot:q.got (m.blk k1) ((i - 266) / 256)=m.blk k2:=hgot
             have hgz:¬ m.blk k2=0:=Y1 hm k2
             simp only [reduceCtorEq,if_false,hgot,hgz,Nat.add_sub_cancel]
             refine ⟨fun x h1 h2=>?_,fin_new hm hlen hc hnf,yI⟩
             exact fin_chg hc hnf (h2 (2+(i - 266) / 256) k2 (by omega) hk2) (h1 q.c (Nat.le_refl _) hc)
theorem grow_high {c i t:Nat} (hi:i<65802) (ht:258≤t) (hne:t≠258+i):grow a c i t=a t:=by
 unfold grow
 split
 · rw [ZG (by omega)]
 · split
   · split
     · rw [ZG (by omega),ZG (by omega)]
     · rw [ZG (by omega)]
   · split
     · rw [ZG (by omega),ZG (by omega),ZG (by omega)]
     · split
       · rw [ZG (by omega),ZG (by omega)]
       · rw [ZG (by omega)]
theorem ZL {a a0:Own1} {x y t k c:Nat} (h:YL a x y t=some k) (hy:c≤y) (r:a t=some k→a0 t=some k∨c≤k):a0 t=some k∨c≤k:=by
 unfold YL at h
 split at h
 · injection h with h; exact .inr (by omega)
 · exact r h
theorem grow_cases {c i t k:Nat} (h:grow a c i t=some k):a t=some k∨c≤k:=by
 unfold grow at h
 split at h
 · exact ZL h (by omega) .inl
 · split at h
   · split at h
     · exact ZL h (by omega) fun h=>ZL h (by omega) .inl
     · exact ZL h (by omega) .inl
   · split at h
     · exact ZL h (by omega) fun h=>ZL h (by omega) fun h=>ZL h (by omega) .inl
     · split at h
       · exact ZL h (by omega) fun h=>ZL h (by omega) .inl
       · exact ZL h (by omega) .inl
end
structure FC (m:Pm) (q:Pg) (f:Ino) (a:Own1) (c:Nat→Blk) (c0:Nat):Prop where
 fr:FR m q f a
 ct:∀ i k,258≤i→a i=some k→q.L[m.blk k]?=some (c i)
 lo:∀ i k,a i=some k→c0≤k
 le:c0≤q.c
def updc (c:Nat→Blk) (t:Nat) (b:Blk):Nat→Blk:=fun i=>if i=t then b else c i
section
variable {m:Pm} {q:Pg} {f:Ino} {a:Own1} {c:Nat→Blk} {c0:Nat}
theorem file_fc (hm:yA m) (hq:PgOk m q) (h:FC m q f a c c0) (hnf:q.full=false) {i:Nat} (hi:i<65802) {b:Blk} (hb:IsB b) (hn:q.c+need a i≤m.n) :
   FC m (Pg.file m q f i b).1 (Pg.file m q f i b).2 (grow a q.c i) (updc c (258+i) b) c0∧(Pg.file m q f i b).1.full=false∧(Pg.file m q f i b).1.c=q.c+need a i∧PgOk m (Pg.file m q f i b).1∧∀ k,k<c0→(Pg.file m q f i b).1.L[m.blk k]?=q.L[m.blk k]?:=by
 have r:=file_rel hm hq h.fr hnf hi hb
 obtain ⟨y1,y2,y3⟩:=r.yes hn
 obtain ⟨z1,z2,z3⟩:=file_chg hm hq h.fr hnf hi (b:=b) hn
 have hle:=h.le
 have hqc:=hq.c
 refine ⟨⟨y3,fun t k ht hk=>?_,fun t k hk=>?_,by rw [y2]; omega⟩,y1,y2,r.ok,fun k hk=>?_⟩
 · unfold updc
   by_cases e:t=258+i
   · subst e
     rw [z3] at hk
     injection hk with hk
     rw [if_pos rfl,← hk]; exact z2
   · rw [if_neg e]
     rw [grow_high hi ht e] at hk
     have hkc:=h.fr.lt t k hk
     rw [z1,h.ct t k ht hk]
     · intro k' h1 h2 he
       have:=m.blk_inj hm (by omega) h2 he
       omega
     · intro P k' hP hk' he
       have hkc':=h.fr.lt P k' hk'
       have e2:=m.blk_inj hm (by omega) (by omega) he
       subst e2
       have:=h.fr.inj P t k hk' hk
       omega
 · rcases grow_cases hk with h1 | h1
   · exact h.lo t k h1
   · omega
 · refine z1 _ (fun k' h1 h2 he=>?_) fun P k' hP hk' he=>?_
   · have:=m.blk_inj hm (by omega) h2 he
     omega
   · have hkc':=h.fr.lt P k' hk'
     have e2:=m.blk_inj hm (by omega) (by omega) he
     have:=h.lo P k' hk'
     omega
end
structure Tz (m m':Pm) (q0 q0' q q':Pg) (f f':Ino) (c0:Nat):Prop where
 ok:PgOk m q
 ok':PgOk m' q'
 nf:q.full=false
 nf':q'.full=false
 c:q'.c=q.c
 at_:∃ a c,FC m q f a c c0∧FC m' q' f' a c c0
 old:∀ k,k<c0→q.L[m.blk k]?=q0.L[m.blk k]?
 old':∀ k,k<c0→q'.L[m'.blk k]?=q0'.L[m'.blk k]?
section
variable {m m':Pm} {q0 q0' q q':Pg} {f f':Ino} {c0:Nat}
theorem file_tz (hm:yA m) (hm':yA m') (hn:m'.n=m.n) (h:Tz m m' q0 q0' q q' f f' c0) (idx:Int) {b:Blk} (hb:IsB b) (hf:(Pg.file m q f idx b).1.full=false):Tz m m' q0 q0' (Pg.file m q f idx b).1 (Pg.file m' q' f' idx b).1 (Pg.file m q f idx b).2 (Pg.file m' q' f' idx b).2 c0:=by
 by_cases hbad:idx<0∨65802≤idx
 · have e:Pg.file m q f idx b=(⟨q.L,q.c,true⟩,f):=by unfold Pg.file; rw [if_pos hbad]
   rw [e] at hf; cases hf
 · obtain ⟨a,c,h1,h2⟩:=h.at_
   obtain ⟨i,rfl⟩:∃ i:Nat,idx=i:=⟨idx.toNat,by omega⟩
   have r:=file_rel hm h.ok h1.fr h.nf (i:=i) (by omega) hb
   have hne:q.c+need a i≤m.n:=by
     by_cases e:q.c+need a i≤m.n
     · exact e
     · rw [r.no e] at hf; cases hf
   obtain ⟨u1,u2,u3,u4,u5⟩:=file_fc hm h.ok h1 h.nf (i:=i) (by omega) hb hne
   have hc:=h.c
   obtain ⟨v1,v2,v3,v4,v5⟩:=file_fc hm' h.ok' h2 h.nf' (i:=i) (by omega) hb (by rw [hc,hn]; exact hne)
   rw [hc] at v1 v3
   exact ⟨u4,v4,u2,v2,by rw [u3,v3],⟨_,_,u1,v1⟩,fun k hk=>(u5 k hk).trans (h.old k hk),fun k hk=>(v5 k hk).trans (h.old' k hk)⟩
theorem dirGo_full {len:Nat} {l:List Ent} {s:Nat} {b:Blk} (h:q.full=true):(ZC m len l s q f b).1.full=true:=by
 cases l with
 | nil=>exact h
 | cons e l=>rw [ZY,if_pos h]; exact h
theorem dataGo_full {l:List (Int × Blk)} (h:q.full=true):(ZZ m l q f).1.full=true:=by
 cases l with
 | nil=>exact h
 | cons e l=>rw [ZJ,if_pos h]; exact h
theorem notFull {x:Pg} {P:Prop} (h:x.full=true→P) (hn:¬ P):x.full=false:=by
 cases e:x.full with
 | false=>rfl
 | true=>exact absurd (h e) hn
theorem dir_tz (hm:yA m) (hm':yA m') (hn:m'.n=m.n) (len:Nat):∀ (l:List Ent) (s:Nat) (q q':Pg) (f f':Ino) (b:Blk),IsB b→Tz m m' q0 q0' q q' f f' c0→(ZC m len l s q f b).1.full=false →
   Tz m m' q0 q0' (ZC m len l s q f b).1 (ZC m' len l s q' f' b).1 (ZC m len l s q f b).2 (ZC m' len l s q' f' b).2 c0
 | [],_,_,_,_,_,_,_,h,_=>h
 | e :: l,s,q,q',f,f',b,hb,h,hf=>by
   have hp:IsB (Yd b s e):=(yg hb.n (YX e) (by omega)).b
   rw [ZY,if_neg (by rw [h.nf]; decide)] at hf ⊢
   rw [ZY,if_neg (show ¬ q'.full=true by rw [h.nf']; decide)]
   by_cases hs:s*16 % 1024=1008∨s+1=len
   · rw [if_pos hs] at hf ⊢
     rw [if_pos hs]
     have h1:(Pg.file m q f (s*16 / 1024:Nat) (Yd b s e)).1.full=false:=notFull (P:=(ZC m len l (s+1) _ _ zB).1.full=true) dirGo_full (by rw [hf]; decide)
     exact dir_tz hm hm' hn len l _ _ _ _ _ _ Zn (file_tz hm hm' hn h _ hp h1) hf
   · rw [if_neg hs] at hf ⊢
     rw [if_neg hs]
     exact dir_tz hm hm' hn len l _ _ _ _ _ _ hp h hf
theorem data_tz (hm:yA m) (hm':yA m') (hn:m'.n=m.n):∀ (l:List (Int × Blk)) (q q':Pg) (f f':Ino),(∀ x∈l,IsB x.2)→Tz m m' q0 q0' q q' f f' c0→(ZZ m l q f).1.full=false →
   Tz m m' q0 q0' (ZZ m l q f).1 (ZZ m' l q' f').1 (ZZ m l q f).2 (ZZ m' l q' f').2 c0
 | [],_,_,_,_,_,h,_=>h
 | d :: l,q,q',f,f',hl,h,hf=>by
   rw [ZJ,if_neg (by rw [h.nf]; decide)] at hf ⊢
   rw [ZJ,if_neg (show ¬ q'.full=true by rw [h.nf']; decide)]
   have h1:(Pg.file m q f d.1 d.2).1.full=false:=notFull (P:=(ZZ m l _ _).1.full=true) dataGo_full (by rw [hf]; decide)
   exact data_tz hm hm' hn l _ _ _ _ (fun x hx=>hl x (List.mem_cons_of_mem _ hx)) (file_tz hm hm' hn h _ (hl d List.mem_cons_self) h1) hf
theorem Zr.startC (h:Zr m q) (hf:∀ j,4≤j→f j=0):FC m q f (fun _=>none) (fun _=>zB) q.c:=⟨h.start hf,fun _ _ _ hh=>(by cases hh),fun _ _ hh=>(by cases hh),Nat.le_refl _⟩
theorem itm_tz (hm:yA m) (hm':yA m') (hn:m'.n=m.n) (h:Tq m m' q q') (hnf:q.full=false) {t:Itm} (ht:ZK t) (hf:(Zo m q t).1.full=false):Tz m m' q q' (Zo m q t).1 (Zo m' q' t).1 (Zo m q t).2 (Zo m' q' t).2 q.c:=by
 have hnf':=h.full.trans hnf
 have hc:=h.at_ hnf
 have h0:Tz m m' q q' q q' (yE t) (yE t) q.c:=⟨h.p.ok,h.p'.ok,hnf,hnf',hc,⟨_,_,(h.p.z hnf).startC fun j hj=>itmF_high t (by omega),by
   have:=(h.p'.z hnf').startC (f:=yE t) fun j hj=>itmF_high t (by omega)
   rw [hc] at this; exact this⟩,fun _ _=>rfl,fun _ _=>rfl⟩
 unfold Zo at hf ⊢
 simp only at hf ⊢
 by_cases h2:t.kind=2
 · rw [if_pos h2] at hf ⊢
   rw [if_neg (by omega)] at hf ⊢
   rw [if_pos h2,if_neg (by omega)]
   exact dir_tz hm hm' hn _ _ _ _ _ _ _ _ Zn h0 hf
 · rw [if_neg h2] at hf ⊢
   rw [if_neg h2]
   by_cases h1:t.kind=1
   · rw [if_pos h1] at hf ⊢
     rw [if_pos h1]
     exact data_tz hm hm' hn _ _ _ _ _ (fun x hx=>(ht.data x hx).2) h0 hf
   · rw [if_neg h1]
     rw [if_neg h1]
     exact h0
end
structure Dn (m:Pm) (q:Pg) (f:Ino) (a:Own1) (c:Nat→Blk):Prop where
 fd:∀ i,i<10→f (4+i)=m.bk (a (258+i))
 f14:f 14=m.bk (a 0)
 f15:f 15=m.bk (a 1)
 no:∀ P,P<258→a P=none→∀ r,r<256→a (ZD P r)=none
 ix:∀ P k,P<258→a P=some k→∀ r,r<256→q.got (m.blk k) r=m.bk (a (ZD P r))
 ct:∀ i k,258≤i→a i=some k→q.L[m.blk k]?=some (c i)
 lt:∀ i k,a i=some k→k<q.c
theorem FC.dn {m:Pm} {q:Pg} {f:Ino} {a:Own1} {c:Nat→Blk} {c0:Nat} (h:FC m q f a c c0):Dn m q f a c:=⟨h.fr.fd,h.fr.f14,h.fr.f15,h.fr.no,h.fr.ix,h.ct,h.fr.lt⟩
theorem got_of {q q2:Pg} {b:Nat} (h:q2.L[b]?=q.L[b]?) (i:Nat):q2.got b i=q.got b i:=by
 unfold Pg.got
 rw [List.getD_eq_getElem?_getD,List.getD_eq_getElem?_getD,h]
theorem Dn.keep {m:Pm} {q q2:Pg} {f:Ino} {a:Own1} {c:Nat→Blk} (h:Dn m q f a c) (hk:∀ k,k<q.c→q2.L[m.blk k]?=q.L[m.blk k]?) (hc:q.c≤q2.c):Dn m q2 f a c:=
 ⟨h.fd,h.f14,h.f15,h.no,fun P k hP ha r hr=>(got_of (hk k (h.lt P k ha)) r).trans (h.ix P k hP ha r hr),fun i k hi ha=>(hk k (h.lt i k ha)).trans (h.ct i k hi ha),fun i k ha=>Nat.lt_of_lt_of_le (h.lt i k ha) hc⟩
def InoAt (q:Pg) (L i:Int) (f:Ino):Prop:=∃ c,q.L[nAt L i]?=some c∧∀ j,j<16→Zu c (nOf i) j=f j
section
variable {m m':Pm} {q q':Pg} {B L I:Int}
theorem item_ino (hm:MOf m B L I) (hg:Zd B L I) (h:Pgs m q) {t:Itm} (ht:ZK t) (hf:(Pg.item m q t).full=false) :
   1≤t.inum∧t.inum≤I∧InoAt (Pg.item m q t) L t.inum (Zo m q t).2∧(∀ k,(Pg.item m q t).L[m.blk k]?=(Zo m q t).1.L[m.blk k]?)∧(Pg.item m q t).c=(Zo m q t).1.c∧(Zo m q t).1.full=false:=by
 have hx:m.x=zp B L I:=hm.x
 have hI:m.x.I=I:=by rw [hx]; rfl
 have hN:m.x.nodeAt=1+L:=by rw [hx]; rfl
 have hrange:¬ (t.inum<1∨m.x.I<t.inum):=fun hh=>by rw [item_bad hh] at hf; cases hf
 obtain ⟨g1,g2,g3,g4,g5,g6,g7⟩:=id hg
 have hd:(m.da:Int)=(zp B L I).dataAt:=by rw [← hm.ok.da,hx]
 have hB:(m.B:Int)=B:=hm.B
 simp only [zp] at hd g7
 have hk:=itm_keep hm.ok ht h.ok h.z
 have e:Pg.item m q t=(Zo m q t).1.setN (nAt L t.inum) (nOf t.inum) (Zo m q t).2:=by
   unfold Pg.item
   rw [if_neg hrange,hN]; rfl
 have hlt:nAt L t.inum<m.da:=by unfold nAt; omega
 refine ⟨by omega,by omega,?_,fun k=>?_,by rw [e]; rfl,by rw [e] at hf; exact hf⟩
 · refine ⟨zZ ((Zo m q t).1.L.getD (nAt L t.inum) zB) (nOf t.inum) (encN (Zo m q t).2),?_,fun j hj=>?_⟩
   · rw [e]
     show ((Zo m q t).1.L.set (nAt L t.inum) _)[nAt L t.inum]?=_
     rw [List.getElem?_set_self (by rw [hk.ok.len]; have:=hm.ok.n; omega)]
   · exact inoOf_splice (getD_is hk.ok _).n (by unfold nOf; omega) hk.ino hj
 · rw [e]
   show ((Zo m q t).1.L.set (nAt L t.inum) _)[m.blk k]?=_
   have:=(m.blk_lt hm.ok k).1
   rw [List.getElem?_set_ne (by omega)]
theorem itemsGo_full {l:List Itm} (h:q.full=true):(zA m l q).full=true:=by
 cases l with
 | nil=>exact h
 | cons t l=>rw [Zj,if_pos h]; exact h
theorem InoAt.keep (hm:MOf m B L I) (hg:Zd B L I) {l:List Itm} {i:Int} {f:Ino} (h:InoAt q L i f) (hi:1≤i∧i≤I) (hl:∀ t∈l,ZK t) (hne:∀ t∈l,t.inum≠i) (hp:Pgs m q) (hf:(zA m l q).full=false):InoAt (zA m l q) L i f:=by
 obtain ⟨c,hc,e⟩:=h
 obtain ⟨c2,h2,e2⟩:=items_oth hm hg hi l q c hl hne hp hf hc
 exact ⟨c2,h2,fun j hj=>(e2 j hj).trans (e j hj)⟩
theorem items_tz (hm:MOf m B L I) (hm':MOf m' B L I) (hg:Zd B L I):∀ (l:List Itm) (q q':Pg),(∀ t∈l,ZK t)→(l.map (·.inum)).Nodup→Tq m m' q q'→q.full=false→(zA m l q).full=false →
   (∀ k,k<q.c→(zA m l q).L[m.blk k]?=q.L[m.blk k]?∧(zA m' l q').L[m'.blk k]?=q'.L[m'.blk k]?)∧q.c≤(zA m l q).c∧(zA m' l q').c=(zA m l q).c ∧
   ∀ t∈l,∃ (a:Own1) (c:Nat→Blk) (f f':Ino),Dn m (zA m l q) f a c∧Dn m' (zA m' l q') f' a c∧InoAt (zA m l q) L t.inum f∧InoAt (zA m' l q') L t.inum f'
 | [],q,q',_,_,h,hnf,_=>⟨fun k _=>⟨rfl,rfl⟩,Nat.le_refl _,h.at_ hnf,fun t ht=>by cases ht⟩
 | t :: l,q,q',hl,hnd,h,hnf,hf=>by
   have ht:=hl t List.mem_cons_self
   rw [List.map_cons,List.nodup_cons] at hnd
   have hn:m'.n=m.n:=by have h1:=hm.ok.n; have h2:=hm'.ok.n; have h3:=hm.B; have h4:=hm'.B; have h5:=hm.ok.da; have h6:=hm'.ok.da; rw [hm.x] at h5; rw [hm'.x] at h6; omega
   rw [Zj,if_neg (by rw [hnf]; decide)] at hf ⊢
   rw [Zj,if_neg (by rw [h.full,hnf]; decide)]
   have hq1:=item_tw hm hm' hg h ht
   have hf1:(Pg.item m q t).full=false:=notFull (P:=(zA m l _).full=true) itemsGo_full (by rw [hf]; decide)
   have hf1':=hq1.full.trans hf1
   obtain ⟨r1,r2,r3,r4,r5,r6⟩:=item_ino hm hg h.p ht hf1
   obtain ⟨r1',r2',r3',r4',r5',r6'⟩:=item_ino hm' hg h.p' ht hf1'
   have tz:=itm_tz hm.ok hm'.ok hn h hnf ht r6
   obtain ⟨a,c,fc,fc'⟩:=tz.at_
   have hle:=fc.le
   have hc1:=hq1.at_ hf1
   have hfin':(zA m' l (Pg.item m' q' t)).full=false:=((items_tw hm hm' hg l _ _ (fun x hx=>hl x (List.mem_cons_of_mem _ hx)) hq1).full).trans hf
   obtain ⟨k1,k2,k3,k4⟩:=items_tz hm hm' hg l _ _ (fun x hx=>hl x (List.mem_cons_of_mem _ hx)) hnd.2 hq1 hf1 hf
   have hqc:q.c≤(Pg.item m q t).c:=by rw [r5]; exact hle
   have hne:∀ x∈l,x.inum≠t.inum:=fun x hx e=>hnd.1 (by rw [← e]; exact List.mem_map.2 ⟨x,hx,rfl⟩)
   refine ⟨fun k hk=>⟨?_,?_⟩,Nat.le_trans hqc k2,k3,fun u hu=>?_⟩
   · rw [(k1 k (by omega)).1,r4 k]; exact tz.old k hk
   · rw [(k1 k (by omega)).2,r4' k]; exact tz.old' k hk
   · rcases List.mem_cons.1 hu with e | e
     · subst e
       have d1:Dn m (Pg.item m q u) (Zo m q u).2 a c:=fc.dn.keep (fun k _=>r4 k) (by rw [r5]; exact Nat.le_refl _)
       have d1':Dn m' (Pg.item m' q' u) (Zo m' q' u).2 a c:=fc'.dn.keep (fun k _=>r4' k) (by rw [r5']; exact Nat.le_refl _)
       exact ⟨a,c,_,_,d1.keep (fun k hk=>(k1 k hk).1) k2,d1'.keep (fun k hk=>(k1 k (by omega)).2) (by omega),r3.keep hm hg ⟨r1,r2⟩ (fun x hx=>hl x (List.mem_cons_of_mem _ hx)) hne hq1.p hf,r3'.keep hm' hg ⟨r1,r2⟩ (fun x hx=>hl x (List.mem_cons_of_mem _ hx)) hne hq1.p' hfin'⟩
     · exact k4 u e
theorem bitGo_used (hm:MOf m B L I) (hg:Zd B L I) {c sd k:Nat} (hk:k<c) {L0:List Blk}:∀ n,n≤m.B→(Yu m c sd L0 n)[m.blk k]?=L0[m.blk k]?
 | 0,_=>rfl
 | a+1,hn=>by
   have hb:=m.blk_lt hm.ok k
   have hd:(m.da:Int)=(zp B L I).dataAt:=by rw [← hm.ok.da,hm.x]
   have hbits:m.x.bitsAt=1+L+(I+16) / 16:=by rw [hm.x]; rfl
   have hB:(m.B:Int)=B:=hm.B
   obtain ⟨g1,g2,g3,g4,g5,g6,g7⟩:=id hg
   simp only [zp] at hd g7
   simp only [Yu,bitStep]
   split
   · rw [List.getElem?_set_ne (by omega),bitGo_used hm hg hk a (by omega)]
   · rename_i hc
     split
     · rw [List.getElem?_set_ne (fun e=>hc (.inr ⟨k,hk,e⟩)),bitGo_used hm hg hk a (by omega)]
     · exact bitGo_used hm hg hk a (by omega)
theorem laid_used (hm:MOf m B L I) (hg:Zd B L I) (sd:Nat) {k:Nat} (hk:k<q.c):(Zq m q sd)[m.blk k]?=q.L[m.blk k]?:=by
 have hb:=m.blk_lt hm.ok k
 have hd:(m.da:Int)=(zp B L I).dataAt:=by rw [← hm.ok.da,hm.x]
 have ha:m.x.logAt=1:=by rw [hm.x]; rfl
 have hL:m.x.L=L:=by rw [hm.x]; rfl
 obtain ⟨g1,g2,g3,g4,g5,g6,g7⟩:=id hg
 simp only [zp] at hd g7
 have hbit:=bitGo_used hm hg (c:=q.c) (sd:=sd) hk (L0:=q.L.set 0 (ZN m.x)) m.B (Nat.le_refl _)
 rw [List.getElem?_set_ne (by omega)] at hbit
 unfold Zq
 split
 · have hmod:sd % (m.x.L.toNat - 1)<m.x.L.toNat - 1:=Nat.mod_lt _ (by rw [hL]; omega)
   rw [List.getElem?_set_ne (by rw [ha]; rw [hL] at hmod ⊢; omega)]
   exact hbit
 · exact hbit
end
def p4 (V:Int→Blk) (b i:Nat):Nat:=leB (V b) (4*i) 4
def yh (V:Int→Blk) (f:Ino) (i:Nat):Nat:=
 if i<10 then f (4+i) else if i<266 then (if f 14=0 then 0 else p4 V (f 14) (i - 10))
 else if f 15=0 then 0 else if p4 V (f 15) ((i - 266) / 256)=0 then 0 else p4 V (p4 V (f 15) ((i - 266) / 256)) ((i - 266) % 256)
def gdP (da B:Int) (x:Nat):Prop:=x=0∨da≤x∧(x:Int)<B
structure GdF (V:Int→Blk) (da B:Int) (f:Ino):Prop where
 d:∀ i,i<10→gdP da B (f (4+i))
 s:gdP da B (f 14)
 t:gdP da B (f 15)
 sn:f 14≠0→∀ r,r<256→gdP da B (p4 V (f 14) r)
 tn:f 15≠0→∀ r,r<256→gdP da B (p4 V (f 15) r)
 un:f 15≠0→∀ r,r<256→p4 V (f 15) r≠0→∀ s,s<256→gdP da B (p4 V (p4 V (f 15) r) s)
theorem ptr_gd {V:Int→Blk} {da B:Int} {f:Ino} (h:GdF V da B f) {i:Nat} (hi:i<65802):gdP da B (yh V f i):=by
 unfold yh
 split
 · exact h.d i (by omega)
 · split
   · split
     · exact .inl rfl
     · rename_i hz; exact h.sn hz _ (by omega)
   · split
     · exact .inl rfl
     · rename_i hz
       split
       · exact .inl rfl
       · rename_i hy; exact h.un hz _ (by omega) hy _ (by omega)
section
variable {m:Pm} {q:Pg} {f:Ino} {a:Own1} {c:Nat→Blk} {V:Int→Blk}
theorem bk_gd (hm:yA m) (o:Option Nat):gdP m.da m.B (m.bk o):=by
 cases o with
 | none=>exact .inl rfl
 | some k=>have:=m.blk_lt hm k; exact .inr (by show (m.da:Int)≤(m.blk k:Nat)∧((m.blk k:Nat):Int)<m.B; omega)
theorem Dn.p4 (h:Dn m q f a c) (hV:∀ k,k<q.c→∀ b,q.L[m.blk k]?=some b→V (m.blk k:Nat)=b) (hlen:∀ k,m.blk k<q.L.length) {P k r:Nat} (hP:P<258) (hk:a P=some k) (hr:r<256):Go.Vc.p4 V (m.blk k) r=m.bk (a (ZD P r)):=by
 have hg:=h.ix P k hP hk r hr
 have hl:=hlen k
 unfold Go.Vc.p4
 rw [hV k (h.lt P k hk) _ (List.getElem?_eq_getElem hl),← hg]
 unfold Pg.got
 rw [List.getD_eq_getElem?_getD,List.getElem?_eq_getElem hl]; rfl
theorem Dn.ptr (hm:yA m) (h:Dn m q f a c) (hV:∀ k,k<q.c→∀ b,q.L[m.blk k]?=some b→V (m.blk k:Nat)=b) (hlen:∀ k,m.blk k<q.L.length) {i:Nat} (hi:i<65802):yh V f i=m.bk (a (258+i)):=by
 have z:∀ {o:Option Nat},m.bk o≠0→∃ k,o=some k:=fun {o} ho=>by
   cases o with
   | none=>exact absurd rfl ho
   | some k=>exact ⟨k,rfl⟩
 unfold yh
 split
 · exact h.fd i (by omega)
 · split
   · have es:ZD 0 (i - 10)=258+i:=by simp only [ZD]; omega
     rw [h.f14]
     split
     · rename_i hz
       have:=h.no 0 (by omega) (bk_zero hm hz) (i - 10) (by omega)
       rw [es] at this
       rw [this]; rfl
     · rename_i hz
       obtain ⟨k,hk⟩:=z hz
       have:=h.p4 hV hlen (P:=0) (by omega) hk (r:=i - 10) (by omega)
       rw [hk,← es]; exact this
   · have e1:ZD 1 ((i - 266) / 256)=2+(i - 266) / 256:=rfl
     have e2:ZD (2+(i - 266) / 256) ((i - 266) % 256)=258+i:=by rw [show 2+(i - 266) / 256=(i - 266) / 256+2 by omega]; simp only [ZD]; omega
     rw [h.f15]
     split
     · rename_i hz
       have h1:=h.no 1 (by omega) (bk_zero hm hz) ((i - 266) / 256) (by omega)
       rw [e1] at h1
       have h2:=h.no (2+(i - 266) / 256) (by omega) h1 ((i - 266) % 256) (by omega)
       rw [e2] at h2
       rw [h2]; rfl
     · rename_i hz
       obtain ⟨k,hk⟩:=z hz
       have h1:=h.p4 hV hlen (P:=1) (by omega) hk (r:=(i - 266) / 256) (by omega)
       rw [e1] at h1
       rw [hk,show m.bk (some k)=m.blk k from rfl,h1]
       split
       · rename_i hy
         have h2:=h.no (2+(i - 266) / 256) (by omega) (bk_zero hm hy) ((i - 266) % 256) (by omega)
         rw [e2] at h2
         rw [h2]; rfl
       · rename_i hy
         obtain ⟨k2,hk2⟩:=z hy
         have h2:=h.p4 hV hlen (P:=2+(i - 266) / 256) (by omega) hk2 (r:=(i - 266) % 256) (by omega)
         rw [hk2,show m.bk (some k2)=m.blk k2 from rfl,h2,e2]
theorem Dn.gd (hm:yA m) (h:Dn m q f a c) (hV:∀ k,k<q.c→∀ b,q.L[m.blk k]?=some b→V (m.blk k:Nat)=b) (hlen:∀ k,m.blk k<q.L.length):GdF V m.da m.B f:=by
 have z:∀ {o:Option Nat},m.bk o≠0→∃ k,o=some k:=fun {o} ho=>by
   cases o with
   | none=>exact absurd rfl ho
   | some k=>exact ⟨k,rfl⟩
 refine ⟨fun i hi=>by rw [h.fd i hi]; exact bk_gd hm _,by rw [h.f14]; exact bk_gd hm _,by rw [h.f15]; exact bk_gd hm _,fun h0 r hr=>?_,fun h0 r hr=>?_,fun h0 r hr h1 s hs=>?_⟩
 · rw [h.f14] at h0 ⊢
   obtain ⟨k,hk⟩:=z h0
   rw [hk,show m.bk (some k)=m.blk k from rfl,h.p4 hV hlen (by omega) hk hr]; exact bk_gd hm _
 · rw [h.f15] at h0 ⊢
   obtain ⟨k,hk⟩:=z h0
   rw [hk,show m.bk (some k)=m.blk k from rfl,h.p4 hV hlen (by omega) hk hr]; exact bk_gd hm _
 · rw [h.f15] at h0 h1 ⊢
   obtain ⟨k,hk⟩:=z h0
   rw [hk,show m.bk (some k)=m.blk k from rfl,h.p4 hV hlen (by omega) hk hr] at h1 ⊢
   have e1:ZD 1 r=2+r:=rfl
   rw [e1] at h1 ⊢
   obtain ⟨k2,hk2⟩:=z h1
   rw [hk2,show m.bk (some k2)=m.blk k2 from rfl,h.p4 hV hlen (P:=2+r) (by omega) hk2 hs]; exact bk_gd hm _
end
section
variable {B L I:Int}
noncomputable def imgV (m:Pm) (its:List Itm) (sd:Nat):Int→Blk:=zN (Yg 0 (Zq m (zA m its (pg0 m)) sd))
noncomputable def y8 (V:Int→Blk) (L:Int) (i:Nat):Ino:=Zu (V (1+L+((i / 16:Nat):Int))) (64*(i % 16))
theorem ptr_congr {V:Int→Blk} {f g:Ino} (h:∀ j,j<16→f j=g j) {i:Nat}:yh V f i=yh V g i:=by
 unfold yh
 by_cases h1:i<10
 · rw [if_pos h1,if_pos h1]; exact h _ (by omega)
 · rw [if_neg h1,if_neg h1,h 14 (by omega),h 15 (by omega)]
theorem gd_congr {V:Int→Blk} {da B:Int} {f g:Ino} (h:∀ j,j<16→f j=g j) (hf:GdF V da B f):GdF V da B g:=by
 have e:=h 14 (by omega)
 have e2:=h 15 (by omega)
 exact ⟨fun i hi=>by rw [← h (4+i) (by omega)]; exact hf.d i hi,by rw [← e]; exact hf.s,by rw [← e2]; exact hf.t,by rw [← e]; exact hf.sn,by rw [← e2]; exact hf.tn,by rw [← e2]; exact hf.un⟩
theorem laid_two {m m':Pm} (hm:MOf m B L I) (hm':MOf m' B L I) (hg:Zd B L I) {its:List Itm} (hits:∀ t∈its,ZK t) (hnd:(its.map (·.inum)).Nodup) (hf:(zA m its (pg0 m)).full=false) (sd sd':Nat) {t:Itm} (ht:t∈its) :
   GdF (imgV m its sd) (zp B L I).dataAt B (y8 (imgV m its sd) L t.inum.toNat)∧GdF (imgV m' its sd') (zp B L I).dataAt B (y8 (imgV m' its sd') L t.inum.toNat) ∧
   ∀ i,i<65802→(yh (imgV m its sd) (y8 (imgV m its sd) L t.inum.toNat) i=0∧yh (imgV m' its sd') (y8 (imgV m' its sd') L t.inum.toNat) i=0) ∨
     (yh (imgV m its sd) (y8 (imgV m its sd) L t.inum.toNat) i≠0∧yh (imgV m' its sd') (y8 (imgV m' its sd') L t.inum.toNat) i≠0∧imgV m its sd (yh (imgV m its sd) (y8 (imgV m its sd) L t.inum.toNat) i:Nat)=imgV m' its sd' (yh (imgV m' its sd') (y8 (imgV m' its sd') L t.inum.toNat) i:Nat)):=by
 have tq:=room_same hm hm' hg hits
 obtain ⟨_,_,k3,k4⟩:=items_tz hm hm' hg its (pg0 m) (pg0 m') hits hnd ⟨pg0_ok hm.ok,pg0_ok hm'.ok,rfl,fun _=>rfl⟩ rfl hf
 obtain ⟨a,c,f,f',d,d',u,u'⟩:=k4 t ht
 obtain ⟨r1,r2,_⟩:=laid_ino hm hg hits hnd hf sd ht
 have hf':(zA m' its (pg0 m')).full=false:=tq.full.trans hf
 have hda:∀ {n:Pm},MOf n B L I→(n.da:Int)=(zp B L I).dataAt:=fun hn=>by rw [← hn.ok.da,hn.x]
 have hV:∀ {n:Pm} (hn:MOf n B L I) (s:Nat) (k:Nat),k<(zA n its (pg0 n)).c→∀ b,(zA n its (pg0 n)).L[n.blk k]?=some b→imgV n its s (n.blk k:Nat)=b:=fun {n} hn s k hk b hb=>by
   have:=yU _ 0 (n.blk k) b ((laid_used hn hg s hk).trans hb)
   rw [Nat.zero_add] at this
   exact this
 have hlen:∀ {n:Pm} (hn:MOf n B L I),Pgs n (zA n its (pg0 n))→∀ k,n.blk k<(zA n its (pg0 n)).L.length:=fun hn hp k=>by rw [hp.ok.len]; exact (Pm.blk_lt hn.ok k).2
 have hino:∀ {n:Pm} (hn:MOf n B L I) (s:Nat) {g:Ino},InoAt (zA n its (pg0 n)) L t.inum g→∀ j,j<16→g j=y8 (imgV n its s) L t.inum.toNat j:=fun {n} hn s g hu j hj=>by
   obtain ⟨c0,h1,e1⟩:=hu
   obtain ⟨g1,g2,g3,g4,g5,g6,g7⟩:=id hg
   have hmid:=laid_mid hn hg (q:=zA n its (pg0 n)) s (i:=nAt L t.inum) (by unfold nAt; omega) (by unfold nAt; omega)
   rw [h1] at hmid
   have:=yU _ 0 (nAt L t.inum) c0 hmid
   rw [Nat.zero_add,show ((nAt L t.inum:Nat):Int)=1+L+((t.inum.toNat / 16:Nat):Int) by unfold nAt; omega] at this
   unfold y8 imgV
   rw [this,← e1 j hj]; rfl
 have gd:=d.gd hm.ok (hV hm sd) (hlen hm tq.p)
 have gd':=d'.gd hm'.ok (hV hm' sd') (hlen hm' tq.p')
 rw [hda hm,hm.B] at gd
 rw [hda hm',hm'.B] at gd'
 refine ⟨gd_congr (hino hm sd u) gd,gd_congr (hino hm' sd' u') gd',fun i hi=>?_⟩
 rw [← ptr_congr (hino hm sd u),← ptr_congr (hino hm' sd' u'),d.ptr hm.ok (hV hm sd) (hlen hm tq.p) hi,d'.ptr hm'.ok (hV hm' sd') (hlen hm' tq.p') hi]
 cases ha:a (258+i) with
 | none=>exact .inl ⟨rfl,rfl⟩
 | some k=>
   refine .inr ⟨Y1 hm.ok k,Y1 hm'.ok k,?_⟩
   show imgV m its sd (m.blk k:Nat)=imgV m' its sd' (m'.blk k:Nat)
   have c1:=d.ct (258+i) k (by omega) ha
   have c2:=d'.ct (258+i) k (by omega) ha
   rw [hV hm sd k (d.lt _ k ha) _ c1,hV hm' sd' k (d'.lt _ k ha) _ c2]
end
def fndS (sp:List Spt) (i:Int):Option Spt:=sp.find? fun x=>decide (x.1=i)
theorem Yl (a b:List Spt) (i:Int):fndS (a++b) i=(fndS a i).or (fndS b i):=by unfold fndS; rw [List.find?_append]
theorem fndS_one (n:Nat) {i:Int} (hi:0≤i):fndS (one_ n) i=none:=by
 unfold fndS one_
 split
 · rfl
 · rw [List.find?_cons_of_neg (by simp; omega)]; rfl
theorem fndS_dir (f:Ino) (i:Nat):∀ n,fndS (dirN f n) i=if i<n∧f (4+i)≠0 then some ((i:Int),(f (4+i):Int)) else none
 | 0=>by simp [fndS,dirN]
 | n+1=>by
   rw [dirN_succ,Yl,fndS_dir f i n]
   by_cases e:i=n
   · subst e
     rw [if_neg (by omega),Option.none_or]
     by_cases h:f (4+i)=0
     · rw [if_pos h,if_neg (by simp [h])]; rfl
     · rw [if_neg h,if_pos ⟨by omega,h⟩]
       simp [fndS]
   · have h2:fndS (if f (4+n)=0 then [] else [((n:Int),(f (4+n):Int))]) i=none:=by
       split
       · rfl
       · unfold fndS; rw [List.find?_cons_of_neg (by simp; omega)]; rfl
     rw [h2,Option.or_none]
     by_cases h:i<n∧f (4+i)≠0
     · rw [if_pos h,if_pos ⟨by omega,h.2⟩]
     · rw [if_neg h,if_neg fun hh=>h ⟨by omega,hh.2⟩]
theorem fndS_under (c:Blk) (first i:Nat):∀ n,fndS (underP c (first:Int) n) i=if first≤i∧i<first+n∧yC c (i - first)≠0 then some ((i:Int),(yC c (i - first):Int)) else none
 | 0=>by
   rw [if_neg (by omega)]
   simp [fndS,underP]
 | n+1=>by
   rw [underP_succ,Yl,fndS_under c first i n]
   by_cases e:i=first+n
   · subst e
     rw [if_neg (by omega),Option.none_or,Nat.add_sub_cancel_left]
     by_cases h:yC c n=0
     · rw [if_pos h,if_neg (by simp [h])]; rfl
     · rw [if_neg h,if_pos ⟨by omega,by omega,h⟩]
       simp [fndS]
   · have h2:fndS (if yC c n=0 then [] else [((first:Int)+(n:Int),(yC c n:Int))]) i=none:=by
       split
       · rfl
       · unfold fndS; rw [List.find?_cons_of_neg (by simp; omega)]; rfl
     rw [h2,Option.or_none]
     by_cases h:first≤i∧i<first+n∧yC c (i - first)≠0
     · rw [if_pos h,if_pos ⟨h.1,by omega,h.2.2⟩]
     · rw [if_neg h,if_neg fun hh=>h ⟨hh.1,by omega,hh.2.2⟩]
theorem not_dat0 {B L I:Int} (hg:Zd B L I):¬ yP B L I ((0:Nat):Int):=fun h=>by
 obtain ⟨g1,g2,g3,g4,g5,g6,g7⟩:=hg
 have h1:=h.1
 simp only [zp] at h1
 omega
section
variable {B L I:Int} {l:List (Int × Blk)}
theorem fndS_un (hg:Zd B L I) {x first i:Nat} (hx:x≠0→yP B L I x):fndS (unN B L I l x (first:Int)) i=if x≠0∧first≤i∧i<first+256∧yC (zN l x) (i - first)≠0 then some ((i:Int),(yC (zN l x) (i - first):Int)) else none:=by
 unfold unN
 by_cases h:x=0
 · subst h
   rw [if_neg (not_dat0 hg),if_neg (fun hh=>hh.1 rfl)]; rfl
 · rw [if_pos (hx h),fndS_under]
   by_cases hh:first≤i∧i<first+256∧yC (zN l x) (i - first)≠0
   · rw [if_pos hh,if_pos ⟨h,hh⟩]
   · rw [if_neg hh,if_neg fun e=>hh e.2]
theorem fndS_dbl (hg:Zd B L I) (c:Blk) (i:Nat):∀ n,n≤256→(∀ r,r<256→yC c r≠0→yP B L I (yC c r)) →
   fndS (dblN B L I l c n) i=if 266≤i∧i<266+256*n∧yC c ((i - 266) / 256)≠0∧yC (zN l (yC c ((i - 266) / 256))) ((i - 266) % 256)≠0 then some ((i:Int),(yC (zN l (yC c ((i - 266) / 256))) ((i - 266) % 256):Int)) else none
 | 0,_,_=>by
   rw [if_neg (by omega)]
   simp [fndS,dblN]
 | n+1,hn,hd=>by
   have e1:(266:Int)+256*(n:Int)=((266+256*n:Nat):Int):=by omega
   have hA:=fndS_dbl hg c i n (by omega) hd
   have hB:=fndS_un hg (l:=l) (x:=yC c n) (first:=266+256*n) (i:=i) (hd n (by omega))
   rw [dblN_succ,Yl,Yl,fndS_one _ (by omega),Option.or_none,e1]
   by_cases hi:266+256*n≤i∧i<266+256*n+256
   · have er:(i - 266) / 256=n:=by omega
     have es:(i - 266) % 256=i - (266+256*n):=by omega
     rw [if_neg (fun e=>by omega)] at hA
     rw [hA,Option.none_or,hB,er,es]
     by_cases hh:yC c n≠0∧yC (zN l (yC c n)) (i - (266+256*n))≠0
     · rw [if_pos ⟨hh.1,hi.1,hi.2,hh.2⟩,if_pos ⟨by omega,by omega,hh.1,hh.2⟩]
     · rw [if_neg fun e=>hh ⟨e.1,e.2.2.2⟩,if_neg fun e=>hh ⟨e.2.2.1,e.2.2.2⟩]
   · rw [if_neg (fun e=>hi ⟨e.2.1,e.2.2.1⟩)] at hB
     rw [hA,hB,Option.or_none]
     by_cases hh:266≤i∧i<266+256*n∧yC c ((i - 266) / 256)≠0∧yC (zN l (yC c ((i - 266) / 256))) ((i - 266) % 256)≠0
     · rw [if_pos hh,if_pos ⟨hh.1,by omega,hh.2.2⟩]
     · rw [if_neg hh,if_neg fun e=>hh ⟨e.1,by omega,e.2.2⟩]
theorem mapP_ptr (hg:Zd B L I) {f:Ino} (hf:GdF (zN l) (zp B L I).dataAt B f) {i:Nat} (hi:i<65802):mapP (Z2 B L I l f) i=(yh (zN l) f i:Nat):=by
 have gd:∀ {x:Nat},gdP (zp B L I).dataAt B x→x≠0→yP B L I x:=fun h hx=>h.resolve_left hx
 have hm:mapP (Z2 B L I l f) i=((fndS (Z2 B L I l f) i).map (·.2)).getD 0:=rfl
 have e10:fndS (unN B L I l (f 14) 10) i=if f 14≠0∧10≤i∧i<10+256∧yC (zN l (f 14)) (i - 10)≠0 then some ((i:Int),(yC (zN l (f 14)) (i - 10):Int)) else none:=fndS_un hg (first:=10) (gd hf.s)
 have ed:fndS (if yP B L I (f 15) then dblN B L I l (zN l (f 15)) 256 else []) i=if f 15≠0∧266≤i∧yC (zN l (f 15)) ((i - 266) / 256)≠0∧yC (zN l (yC (zN l (f 15)) ((i - 266) / 256))) ((i - 266) % 256)≠0 then some ((i:Int),(yC (zN l (yC (zN l (f 15)) ((i - 266) / 256))) ((i - 266) % 256):Int)) else none:=by
   by_cases h:f 15=0
   · rw [if_neg (show ¬ yP B L I (f 15) by rw [h]; exact not_dat0 hg),if_neg (fun e=>e.1 h)]; rfl
   · rw [if_pos (gd hf.t h),fndS_dbl hg _ i 256 (Nat.le_refl _) fun r hr h0=>gd (hf.tn h r hr) h0]
     by_cases hh:266≤i∧yC (zN l (f 15)) ((i - 266) / 256)≠0∧yC (zN l (yC (zN l (f 15)) ((i - 266) / 256))) ((i - 266) % 256)≠0
     · rw [if_pos ⟨hh.1,by omega,hh.2⟩,if_pos ⟨h,hh⟩]
     · rw [if_neg fun e=>hh ⟨e.1,e.2.2⟩,if_neg fun e=>hh e.2]
 have eS:fndS (Z2 B L I l f) i=(((if i<10∧f (4+i)≠0 then some ((i:Int),(f (4+i):Int)) else none:Option Spt).or (fndS (unN B L I l (f 14) 10) i)).or (fndS (if yP B L I (f 15) then dblN B L I l (zN l (f 15)) 256 else []) i)):=by
   unfold Z2
   rw [Yl,Yl,Yl,Yl,fndS_dir,fndS_one _ (by omega),fndS_one _ (by omega),Option.or_none,Option.or_none]
 generalize fndS (if yP B L I (f 15) then dblN B L I l (zN l (f 15)) 256 else []) (i:Int)=E at ed eS
 rw [hm,eS]
 unfold yh
 by_cases h10:i<10
 · rw [if_neg (fun e=>by omega)] at e10
   rw [if_neg (fun e=>by omega)] at ed
   rw [e10,ed,Option.or_none,Option.or_none,if_pos h10]
   by_cases h:f (4+i)=0
   · rw [if_neg (fun e=>e.2 h),h]; rfl
   · rw [if_pos ⟨h10,h⟩]; rfl
 · rw [if_neg (show ¬ (i<10∧f (4+i)≠0) from fun e=>h10 e.1),if_neg h10,Option.none_or]
   by_cases h266:i<266
   · rw [if_neg (fun e=>by omega)] at ed
     rw [ed,Option.or_none,if_pos h266,e10]
     by_cases h:f 14=0
     · rw [if_neg (fun e=>e.1 h),if_pos h]; rfl
     · rw [if_neg h]
       by_cases hz:yC (zN l (f 14)) (i - 10)=0
       · have hz':p4 (zN l) (f 14) (i - 10)=0:=hz
         rw [if_neg (fun e=>e.2.2.2 hz),hz']; rfl
       · rw [if_pos ⟨h,by omega,by omega,hz⟩]; rfl
   · rw [if_neg (fun e=>by omega)] at e10
     rw [e10,Option.none_or,ed,if_neg h266]
     by_cases h:f 15=0
     · rw [if_neg (fun e=>e.1 h),if_pos h]; rfl
     · rw [if_neg h]
       by_cases hy:yC (zN l (f 15)) ((i - 266) / 256)=0
       · have hy':p4 (zN l) (f 15) ((i - 266) / 256)=0:=hy
         rw [if_neg (fun e=>e.2.2.1 hy),if_pos hy']; rfl
       · have hy':¬ p4 (zN l) (f 15) ((i - 266) / 256)=0:=hy
         rw [if_neg hy']
         by_cases hz:yC (zN l (yC (zN l (f 15)) ((i - 266) / 256):Nat)) ((i - 266) % 256)=0
         · have hz':p4 (zN l) (p4 (zN l) (f 15) ((i - 266) / 256)) ((i - 266) % 256)=0:=hz
           rw [if_neg (fun e=>e.2.2.2 hz),hz']; rfl
         · rw [if_pos ⟨h,by omega,hy,hz⟩]; rfl
end
noncomputable def cntV (V:Int→Blk) (f:Ino) (i:Nat):Blk:=if yh V f i=0 then zB else V (yh V f i:Nat)
noncomputable def datB (d:List (Int × Blk)) (i:Int):Blk:=((d.find? fun x=>decide (x.1=i)).map (·.2)).getD zB
theorem find_filter_map {α β:Type} {p:α→Bool} {g:α→β} {r:β→Bool} {s:α→Bool} (h:∀ x,(p x && r (g x))=s x):∀ (l:List α),((l.filter p).map g).find? r=(l.find? s).map g
 | []=>rfl
 | x :: l=>by
   have ih:=find_filter_map h l
   have hx:=h x
   cases hp:p x with
   | false=>
     rw [List.filter_cons_of_neg (by rw [hp]; decide),ih]
     rw [hp,Bool.false_and] at hx
     rw [List.find?_cons_of_neg (by rw [← hx]; decide)]
   | true=>
     rw [List.filter_cons_of_pos hp,List.map_cons]
     rw [hp,Bool.true_and] at hx
     cases hr:r (g x) with
     | true=>rw [List.find?_cons_of_pos hr,List.find?_cons_of_pos (by rw [← hx]; exact hr)]; rfl
     | false=>rw [List.find?_cons_of_neg (by rw [hr]; decide),ih,List.find?_cons_of_neg (by rw [← hx,hr]; decide)]
section
variable {B L I:Int} {l:List (Int × Blk)}
theorem datB_ptr (hg:Zd B L I) {x:Fl} (hx:x.sp=Z2 B L I l x.f) (hd:∀ y∈x.sp,yP B L I y.2) (hf:GdF (zN l) (zp B L I).dataAt B x.f) {i:Nat} (hi:i<65802):datB (dataP l x x.sp.length) i=cntV (zN l) x.f i:=by
 have h1:=mapP_ptr hg hf hi
 rw [← hx] at h1
 unfold datB dataP
 rw [List.take_length,find_filter_map (s:=fun y:Spt=>decide (y.1=(i:Int))) fun y=>by
   by_cases h:y.1=(i:Int)
   · simp [h]
   · simp [h]]
 unfold cntV
 unfold mapP at h1
 cases hq:x.sp.find? fun y=>decide (y.1=(i:Int)) with
 | none=>
   rw [hq] at h1
   have h1:(0:Int)=(yh (zN l) x.f i:Nat):=h1
   rw [if_pos (by omega)]; rfl
 | some y=>
   rw [hq] at h1
   have h1:y.2=(yh (zN l) x.f i:Nat):=h1
   by_cases hz:yh (zN l) x.f i=0
   · exfalso
     have hm:=hd y (List.mem_of_find?_eq_some hq)
     rw [h1,hz] at hm
     exact not_dat0 hg hm
   · rw [if_neg hz]
     show zN l y.2=_
     rw [h1]
end
def ZW (s:DS) (cs:List Pl) (a:Int):Blk:=match yj cs a with
 | some x=>x.data
 | none=>s.now a
structure Vw (s:DS) (cs:List Pl):Prop where
 nd:(cs.map (·.at_)).Nodup
 slow:∀ y∈cs,y.fast=false→y.data=s.now y.at_
theorem Ya {cs:List Pl} (hn:(cs.map (·.at_)).Nodup) {a:Int} {x:Pl}:yj cs a=some x↔x∈cs∧x.at_=a:=by
 constructor
 · intro h
   obtain ⟨l1,l2,e,h1,_,_⟩:=findP_some h
   exact ⟨by rw [e]; simp,h1⟩
 · rintro ⟨hx,e⟩
   cases h:yj cs a with
   | none=>exact absurd e (YD.1 h x hx)
   | some y=>
     obtain ⟨l1,l2,ey,h1,h2,_⟩:=findP_some h
     rw [ey] at hx hn
     rcases List.mem_append.1 hx with h3 | h3
     · exact absurd e (h2 x h3)
     · rcases List.mem_cons.1 h3 with h4 | h4
       · rw [h4]
       · rw [List.map_append,List.map_cons] at hn
         have h5:=(List.nodup_append.1 hn).2.1
         rw [List.nodup_cons] at h5
         exact absurd (List.mem_map.2 ⟨x,h4,by rw [e,h1]⟩) h5.1
structure Base (cs c1:List Pl) (a:Int):Prop where
 nd:(c1.map (·.at_)).Nodup
 sub:∀ y∈c1,y∈cs∧y.at_≠a
 lost:∀ y∈cs,y.at_≠a→y∈c1∨y.fast=false
theorem snoc_view {s s':DS} {cs c1:List Pl} {a:Int} (h:Vw s cs) (hb:Base cs c1 a) {z:Pl} (hz:z.at_=a) (hs:s'.now=s.now) (b:Int):ZW s' (c1++[z]) b=if b=a then z.data else ZW s cs b:=by
 have hn:((c1++[z]).map (·.at_)).Nodup:=nodup_snoc hb.nd fun y hy=>by rw [hz]; exact (hb.sub y hy).2
 by_cases e:b=a
 · rw [if_pos e]
   have:yj (c1++[z]) b=some z:=(Ya hn).2 ⟨by simp,by rw [hz,e]⟩
   unfold ZW
   rw [this]
 · rw [if_neg e]
   cases h1:yj cs b with
   | some y=>
     obtain ⟨m1,m2⟩:=(Ya h.nd).1 h1
     have hv:ZW s cs b=y.data:=by unfold ZW; rw [h1]
     rw [hv]
     by_cases hy:y∈c1
     · have:yj (c1++[z]) b=some y:=(Ya hn).2 ⟨List.mem_append_left _ hy,m2⟩
       unfold ZW
       rw [this]
     · have hsl:=(hb.lost y m1 (by rw [m2]; exact e)).resolve_left hy
       have:yj (c1++[z]) b=none:=by
         rw [YD]
         intro w hw hwe
         rcases List.mem_append.1 hw with h3 | h3
         · have h4:=(hb.sub w h3).1
           have h5:=(Ya h.nd).2 ⟨h4,hwe⟩
           rw [h1] at h5
           injection h5 with h5
           exact hy (h5 ▸ h3)
         · rw [List.mem_singleton.1 h3,hz] at hwe
           exact e hwe.symm
       unfold ZW
       rw [this]
       show s'.now b=y.data
       rw [hs,h.slow y m1 hsl,m2]
   | none=>
     have hv:ZW s cs b=s.now b:=by unfold ZW; rw [h1]
     have:yj (c1++[z]) b=none:=by
       rw [YD]
       intro w hw hwe
       rcases List.mem_append.1 hw with h3 | h3
       · exact YD.1 h1 w (hb.sub w h3).1 hwe
       · rw [List.mem_singleton.1 h3,hz] at hwe
         exact e hwe.symm
     rw [hv]
     unfold ZW
     rw [this]
     show s'.now b=s.now b
     rw [hs]
theorem base_found {cs:List Pl} {a:Int} {x:Pl} (hn:(cs.map (·.at_)).Nodup) (h:yj cs a=some x):Base cs (outP cs a) a∧yk cs=yk (outP cs a)+(if x.fast then 1 else 0):=by
 obtain ⟨l1,l2,e,h1,_,h2⟩:=findP_some h
 rw [h2]
 subst e
 obtain ⟨n1,n2⟩:=nodup_drop hn
 refine ⟨⟨n1,fun y hy=>⟨memP_mid.2 (.inr hy),by rw [← h1]; exact n2 y hy⟩,fun y hy hne=>?_⟩,?_⟩
 · rcases memP_mid.1 hy with e | e
   · rw [e] at hne; exact absurd h1 hne
   · exact .inl e
 · simp only [fastP_app,fastP_cons]; omega
theorem base_room {cs c1:List Pl} {a size:Int} (hn:(cs.map (·.at_)).Nodup) (h:yj cs a=none) (hr:roomP size cs=some c1):Base cs c1 a∧yk cs=yk c1:=by
 have ha:=YD.1 h
 obtain ⟨_,h2⟩:=roomP_some hr
 rcases h2 with ⟨_,rfl⟩ | ⟨l1,x,l2,rfl,rfl,hx,_⟩
 · exact ⟨⟨hn,fun y hy=>⟨hy,ha y hy⟩,fun y hy _=>.inl hy⟩,rfl⟩
 · obtain ⟨n1,n2⟩:=nodup_drop hn
   refine ⟨⟨n1,fun y hy=>⟨memP_mid.2 (.inr hy),ha y (memP_mid.2 (.inr hy))⟩,fun y hy hne=>?_⟩,?_⟩
   · rcases memP_mid.1 hy with e | e
     · rw [e]; exact .inr hx
     · exact .inl e
   · simp only [fastP_app,fastP_cons,hx,Bool.false_eq_true,if_false]; omega
theorem room_is {cs:List Pl} {size:Int} (h:yk cs<size):∃ c1,roomP size cs=some c1:=by
 unfold roomP
 rw [if_neg (by omega)]
 split
 · exact ⟨_,rfl⟩
 · exact ⟨_,rfl⟩
theorem base_vw {s s':DS} {cs c1:List Pl} {a:Int} (h:Vw s cs) (hb:Base cs c1 a) {z:Pl} (hz:z.at_=a) (hs:s'.now=s.now) (hzs:z.fast=false→z.data=s.now a):Vw s' (c1++[z]):=by
 refine ⟨nodup_snoc hb.nd fun y hy=>by rw [hz]; exact (hb.sub y hy).2,fun y hy hf=>?_⟩
 rw [hs]
 rcases List.mem_append.1 hy with h1 | h1
 · exact h.slow y (hb.sub y h1).1 hf
 · rw [List.mem_singleton.1 h1] at hf ⊢
   rw [hz]; exact hzs hf
theorem view_read {size:Int} {s:DS} {cs:List Pl} (h:Vw s cs) {a:Int} (hw:s.wrong a=0) (hf:yk cs<size) :
   ∃ s' cs',readC size s cs a=(s',cs',ZW s cs a,0)∧Same s s'∧Vw s' cs'∧(∀ b,ZW s' cs' b=ZW s cs b)∧yk cs'=yk cs∧∀ b x,yj cs b=some x→x.fast=true→yj cs' b=some x:=by
 unfold readC
 rw [if_neg (by omega)]
 have kp:∀ {c1:List Pl} {z:Pl} {s':DS},Base cs c1 a→z.at_=a→Vw s' (c1++[z])→(∀ x,yj cs a=some x→x.fast=true→x=z)→∀ b x,yj cs b=some x→x.fast=true→yj (c1++[z]) b=some x:=by
   intro c1 z s' hb hz hv hx b x h1 h2
   obtain ⟨m1,m2⟩:=(Ya h.nd).1 h1
   refine (Ya hv.nd).2 ⟨?_,m2⟩
   by_cases e:b=a
   · rw [hx x (e ▸ h1) h2]; simp
   · rcases hb.lost x m1 (by rw [m2]; exact e) with h3 | h3
     · exact List.mem_append_left _ h3
     · rw [h3] at h2; cases h2
 cases h1:yj cs a with
 | some x=>
   obtain ⟨hb,hfp⟩:=base_found h.nd h1
   obtain ⟨m1,m2⟩:=(Ya h.nd).1 h1
   have hv:ZW s cs a=x.data:=by unfold ZW; rw [h1]
   have hvw:Vw s (outP cs a++[x]):=base_vw h hb m2 rfl fun hf2=>by rw [h.slow x m1 hf2,m2]
   refine ⟨s,outP cs a++[x],by rw [hv],Same.refl s,hvw,fun b=>?_,?_,kp hb m2 hvw fun y hy _=>by rw [h1] at hy; injection hy with hy; exact hy.symm⟩
   · rw [snoc_view h hb m2 rfl b]
     by_cases e:b=a
     · rw [if_pos e,e,hv]
     · rw [if_neg e]
   · rw [fastP_app,fastP_cons,fastP_nil]; omega
 | none=>
   obtain ⟨c1,hr⟩:=room_is hf
   obtain ⟨hb,hfp⟩:=base_room h.nd h1 hr
   have hv:ZW s cs a=s.now a:=by unfold ZW; rw [h1]
   have hsm:=DS.read_same s a
   rw [hr]
   have hvw:Vw (s.read a).1 (c1++[⟨a,s.now a,false⟩]):=base_vw h hb rfl hsm.now fun _=>rfl
   refine ⟨(s.read a).1,c1++[⟨a,s.now a,false⟩],by rw [hv],hsm,hvw,fun b=>?_,?_,kp hb rfl hvw fun y hy _=>by rw [h1] at hy; cases hy⟩
   · rw [snoc_view h hb rfl hsm.now b]
     by_cases e:b=a
     · rw [if_pos e,e,hv]
     · rw [if_neg e]
   · rw [fastP_app,fastP_cons,fastP_nil]
     simp only [Bool.false_eq_true,if_false]; omega
theorem outP_len {cs:List Pl} {a:Int} {z:Pl} (h:yj cs a=some z):(outP cs a).length+1=cs.length:=by
 obtain ⟨l1,l2,e,_,_,h2⟩:=findP_some h
 rw [h2,e]
 simp only [List.length_append,List.length_cons]; omega
theorem roomP_len {cs c1:List Pl} {size:Int} (h:roomP size cs=some c1) (hl:(cs.length:Int)≤size):(c1.length:Int)+1≤size:=by
 obtain ⟨_,h2⟩:=roomP_some h
 rcases h2 with ⟨h3,rfl⟩ | ⟨l1,z,l2,rfl,rfl,_,_⟩
 · omega
 · simp only [List.length_append,List.length_cons] at hl ⊢; omega
theorem readC_len {size:Int} {s:DS} {cs:List Pl} {a:Int} (hl:(cs.length:Int)≤size):((readC size s cs a).2.1.length:Int)≤size:=by
 unfold readC
 split
 · exact hl
 · split
   · rename_i z hz
     have:=outP_len hz
     simp only [List.length_append,List.length_cons,List.length_nil]; omega
   · split
     · exact hl
     · rename_i c1 hc
       have:=roomP_len hc hl
       simp only [List.length_append,List.length_cons,List.length_nil]; omega
noncomputable def elM (l:List Int):Int→Option Value:=fun k=>if k∈l then some (.agg #[]) else none
def cdOb (p cb:Nat) (size:Int) (s:DS) (cs:List Pl):Ob:=
 ⟨fun H O=>(∃ Od Oc,DiskAt H p s Od∧CacheAt H cb p size cs Oc∧(∀ b,Od b→¬ Oc b)∧(∀ b,Od b→O b)∧∀ b,Oc b→O b)∧∀ b,O b→b<H.size,fun h=>h.2,
  fun ⟨⟨Od,Oc,h1,h2,h3,h4,h5⟩,_⟩ hb hs ho hl=>⟨⟨Od,Oc,h1.of (fun b hh=>hb b (h4 b hh)) hs,h2.of (fun b hh=>hb b (h5 b hh)) hs,h3,fun b hh=>ho b (h4 b hh),fun b hh=>ho b (h5 b hh)⟩,hl⟩⟩
def mpOb (mb:Nat) (f:Int→Option Value) (n:Nat):Ob:=.of (fun H O=>MapAt H mb f n∧O mb) fun h hb _ ho=>⟨h.1.of (hb _ h.2),ho _ h.2⟩
noncomputable def wrOb (w:Option (List Int)) (v:Value):Ob:=.of (fun H O=>match w with
   | none=>v=.map none
   | some l=>∃ wb,v=.map (some wb)∧MapAt H wb (elM l) l.length∧O wb) fun {H H' O O'} h hb _ ho=>by
 cases w with
 | none=>exact h
 | some l=>
   obtain ⟨wb,h1,h2,h3⟩:=h
   exact ⟨wb,h1,h2.of (hb _ h3),ho _ h3⟩
structure PSt where
 s:DS
 cs:List Pl
 order:List Int
 open_:Bool
 room:Int
 wrote:Option (List Int)
 commits:Int
 steps:Int
noncomputable def plAll (lb p cb mb:Nat) (ov wv:Value) (x:Lay) (mine:Int) (P:PSt):List Ob:=
 [cdOb p cb (x.L+32) P.s P.cs,mpOb mb (elM P.order) P.order.length,.sl 3 1 ov (P.order.map nI),wrOb P.wrote wv,.box lb (logC ov mb p cb x mine P.open_ P.room wv P.commits P.steps) 139]
noncomputable def yY (lb p:Nat) (x:Lay) (mine:Int) (P:PSt):Ob:=
 ⟨fun H O=>∃ cb mb ov wv,(Ob.all (plAll lb p cb mb ov wv x mine P)).at_ H O,
  fun ⟨_,_,_,_,h⟩=>Ob.own _ h,fun ⟨cb,mb,ov,wv,h⟩ hb hs ho hl=>⟨cb,mb,ov,wv,Ob.frame _ h hb hs ho hl⟩⟩
structure POk (x:Lay) (mine:Int) (P:PSt):Prop where
 alive:P.s.stopped=false
 mine:0<mine∧P.s.claim=mine
 vw:Vw P.s P.cs
 n:x.B≤P.s.n
 reads:P.s.reads<4611686018427387904∧0≤P.s.reads
 lay:x.logAt=1∧32≤x.L∧x.L≤256∧x.B≤1048576
 fast:yk P.cs≤P.order.length
 few:(P.order.length:Int)≤x.L - 1
 clen:(P.cs.length:Int)≤x.L+32
 held:∀ a∈P.order,∃ y,yj P.cs a=some y∧y.fast=true
structure Rd (x:Lay) (P:PSt) (s':DS) (cs':List Pl) (m:Int):Prop where
 n:s'.n=P.s.n
 now:s'.now=P.s.now
 held:s'.held=P.s.held
 fuse:s'.fuse=P.s.fuse
 stopped:s'.stopped=P.s.stopped
 made:s'.made=P.s.made
 claims:s'.claims=P.s.claims
 claim:s'.claim=P.s.claim
 pl:s'.pl=P.s.pl
 hl:s'.hl=P.s.hl
 reads:P.s.reads≤s'.reads∧s'.reads≤P.s.reads+m
 vw:Vw s' cs'
 view:∀ b,ZW s' cs' b=ZW P.s P.cs b
 fast:yk cs'=yk P.cs
 keep:∀ b y,yj P.cs b=some y→y.fast=true→yj cs' b=some y
 clen:(cs'.length:Int)≤x.L+32
theorem Rd.mk1 {x:Lay} {P:PSt} {s':DS} {cs':List Pl} (hs:Same P.s s') (hv:Vw s' cs') (h1:∀ b,ZW s' cs' b=ZW P.s P.cs b) (h2:yk cs'=yk P.cs) (h3:∀ b y,yj P.cs b=some y→y.fast=true→yj cs' b=some y) (h4:(cs'.length:Int)≤x.L+32):Rd x P s' cs' 1:=
 ⟨hs.n,hs.now,hs.held,hs.fuse,hs.stopped,hs.made,hs.claims,hs.claim,hs.pl,hs.hl,hs.reads,hv,h1,h2,h3,h4⟩
theorem Rd.ok {x:Lay} {mine:Int} {P:PSt} {s':DS} {cs':List Pl} {m:Int} (hs:Rd x P s' cs' m) (h:POk x mine P) (hr:P.s.reads+m<4611686018427387904):POk x mine { P with s:=s',cs:=cs' }:=by
 have h1:=hs.reads
 have h2:=h.reads
 exact ⟨by show s'.stopped=false; rw [hs.stopped]; exact h.alive,⟨h.mine.1,by show s'.claim=mine; rw [hs.claim]; exact h.mine.2⟩,hs.vw,by show x.B≤s'.n; rw [hs.n]; exact h.n,⟨by show s'.reads<_; omega,by show 0≤s'.reads; omega⟩,h.lay,by show yk cs'≤_; rw [hs.fast]; exact h.fast,h.few,hs.clen,fun a ha=>by
   obtain ⟨y,q1,q2⟩:=h.held a ha
   exact ⟨y,hs.keep a y q1 q2,q2⟩⟩
section
variable {H:Hp} {R:Value→Hp→Prop} {lb p cb mb:Nat} {s:DS} {cs:List Pl} {x:Lay} {mine:Int} {O:Nat→Prop} {ov wr:Value} {op:Bool} {room co st:Int}
theorem check_top (ht:H[lb]?=some (.cells (logC ov mb p cb x mine op room wr co st) 139)) (hd:DiskAt H p s O) (hm:0<mine∧s.claim=mine) (k:R (.int .i64 (if s.stopped then 3 else 0)) H):Fc Tryz.prog 34 #[z6 lb] H R:=by
 obtain ⟨q2,q3,q4,q5,q7,q13⟩:=log_get (os:=ov) (mb:=mb) (p:=p) (cb:=cb) (x:=x) (mine:=mine) (op:=op) (room:=room) (wr:=wr) (co:=co) (st:=st)
 refine fn34 ?_
 simp only [sh34,zt]
 refine zS.mk (fun t H'=>H'=H∧t.1=.bool false) ?_ ?_
 · rintro ⟨t,u⟩ H1 ⟨rfl,ht'⟩
   simp only at ht'
   subst ht'
   simp only [zn,zc,za,zi,Nat.zero_add,zq ht,q2,q13]
   refine disk_claimed hd ?_
   have e:decide (0<mine∧s.claim=mine)=true:=decide_eq_true hm
   rw [e,Bool.and_true]
   cases hst:s.stopped <;> simp only [hst,if_true,Bool.false_eq_true,if_false,zT,Bool.not_true,Bool.not_false,za,Zm,zn] at k ⊢ <;> exact k
 · simp only [Yc undLg,za,zn,zc,zi,Nat.zero_add,zq ht,q2,Yc undDk]
   exact ⟨trivial,trivial⟩
theorem logs_top (ht:H[lb]?=some (.cells (logC ov mb p cb x mine op room wr co st) 139)) {a:Int} (hx:0≤x.logAt∧x.logAt<4611686018427387904∧0≤x.L∧x.L<4611686018427387904) (k:R (.bool (decide (x.logAt≤a∧a<x.logAt+x.L))) H):Fc Tryz.prog 66 #[z6 lb,.int .i64 a] H R:=by
 obtain ⟨q2,q3,q4,q5,q7,q13⟩:=log_get (os:=ov) (mb:=mb) (p:=p) (cb:=cb) (x:=x) (mine:=mine) (op:=op) (room:=room) (wr:=wr) (co:=co) (st:=st)
 refine fn66 ?_
 simp only [sh66,zc,za,zi,Nat.zero_add,Nat.reduceAdd,zq ht,q7,q5,zQ,zk,zf]
 refine ⟨fun h0=>?_,fun h0=>?_⟩
 · rw [zg (by omega) (by omega),zr,za]
   have e:decide (a<x.logAt+x.L)=decide (x.logAt≤a∧a<x.logAt+x.L):=by rw [decide_eq_decide]; omega
   rw [e]; exact k
 · have e:decide (x.logAt≤a∧a<x.logAt+x.L)=false:=by rw [decide_eq_false_iff_not]; omega
   rw [e] at k; exact k
theorem pl_pcs {S:Nat→Prop} {H0:Hp} {r:List Ob} {P:PSt} (l:Lo S H0 H (plAll lb p cb mb ov wr x mine P++r)):H[lb]?=some (.cells (logC ov mb p cb x mine P.open_ P.room wr P.commits P.steps) 139)∧∃ Od Oc,DiskAt H p P.s Od∧CacheAt H cb p (x.L+32) P.cs Oc∧∀ b,Od b→¬ Oc b:=by
 refine ⟨l.at (i:=4) rfl,?_⟩
 obtain ⟨O,ho⟩:=l.get (i:=0) (x:=cdOb p cb (x.L+32) P.s P.cs) rfl
 obtain ⟨⟨Od,Oc,h1,h2,h3,_⟩,_⟩:=ho
 exact ⟨Od,Oc,h1,h2,h3⟩
theorem pl_check {P:PSt} (h:(yY lb p x mine P).at_ H O) (hok:POk x mine P) (k:R (.int .i64 0) H):Fc Tryz.prog 34 #[z6 lb] H R:=by
 obtain ⟨cb,mb,ov,wv,ha⟩:=h
 obtain ⟨ht,Od,Oc,hd,_⟩:=pl_pcs (r:=[]) (Lo.open ha)
 refine check_top ht hd hok.mine ?_
 rw [hok.alive]; exact k
theorem pl_read {P:PSt} (h:(yY lb p x mine P).at_ H O) (hok:POk x mine P) {a:Int} (h0:0≤a) (h1:a<x.B) (hlog:a<1∨1+x.L≤a)
   (k:∀ H' O' s' cs',Stp O O' H H'→(yY lb p x mine { P with s:=s',cs:=cs' }).at_ H' O'→Rd x P s' cs' 1→IsB (ZW P.s P.cs a)→R (.tuple #[.agg (ZW P.s P.cs a),.int .i64 0]) H'):Fc Tryz.prog 27 #[z6 lb,.int .i64 a] H R:=by
 obtain ⟨hx1,hx2,hx3,hx4⟩:=hok.lay
 have hall:=h
 obtain ⟨cb,mb,ov,wv,ha⟩:=h
 have hn:=hok.n
 have hf:=hok.fast
 have hfew:=hok.few
 have hw:P.s.wrong a=0:=by unfold DS.wrong; rw [if_neg (by rw [hok.alive]; decide),if_neg (by omega)]
 obtain ⟨s',cs',e,hsame,hvw,hview,hfp,hkp⟩:=view_read (size:=x.L+32) hok.vw hw (by omega)
 have hlen':=readC_len (size:=x.L+32) (s:=P.s) (cs:=P.cs) (a:=a) hok.clen
 rw [e] at hlen'
 refine fn27 ?_
 simp only [sh27,ya,za,zt]
 refine (Lo.open ha).boxA fun b1 H1 e1 l1=>?_
 obtain ⟨ht,Od,Oc,hd,hc,hdis⟩:=pl_pcs (r:=[_]) l1
 obtain ⟨q2,q3,q4,q5,q7,q13⟩:=log_get (os:=ov) (mb:=mb) (p:=p) (cb:=cb) (x:=x) (mine:=mine) (op:=P.open_) (room:=P.room) (wr:=wv) (co:=P.commits) (st:=P.steps)
 refine check_top ht hd hok.mine ?_
 rw [hok.alive]
 simp only [Bool.false_eq_true,if_false]
 rw [zw,za,decide_eq_false (by omega),zn]
 refine zS.mk (fun t H'=>H'=H1∧t.1=.bool false) ?_ ?_
 · rintro ⟨t,u⟩ H2 ⟨rfl,ht'⟩
   simp only at ht'
   subst ht'
   rw [zn]
   refine logs_top ht (by omega) ?_
   rw [decide_eq_false (by omega),zn]
   simp only [zc,zi,Nat.zero_add,Nat.add_zero,za]
   rw [zq ht,q3,za]
   obtain ⟨O1,⟨⟨Od1,Oc1,d1,d2,d3,d4,d5⟩,dO⟩,st1⟩:=l1.call (i:=0) (x:=cdOb p cb (x.L+32) P.s P.cs) rfl
   refine cache_read d1 d2 d3 hok.reads (by omega) fun H3 Oc' k3 hoc hd3 hc3=>?_
   have hib:=(readC_is (size:=x.L+32) d1 d2 a).1
   rw [e] at hd3 hc3 hib ⊢
   have l3:=st1 H3 (cdOb p cb (x.L+32) s' cs') (fun b=>O1 b∨Oc' b) ⟨k3.mono fun b _ hb=>by
       rcases hb with hb | hb
       · exact d4 b hb
       · exact d5 b hb,fun b hb=>by
       rcases hb with hb | hb
       · exact .inl hb
       · rcases hoc b hb with h2 | h2
         · exact .inl (d5 b h2)
         · exact .inr h2⟩ ⟨⟨Od1,Oc',hd3,hc3,fun b hb hb2=>by
       rcases hoc b hb2 with h2 | h2
       · exact d3 b hb h2
       · have:=d1.lt b hb; omega,fun b hb=>.inl (d4 b hb),fun b hb=>.inr hb⟩,fun b hb=>by
       rcases hb with hb | hb
       · exact Nat.lt_of_lt_of_le (dO b hb) k3.le
       · exact hc3.lt b hb⟩
   have l3:Lo O H H3 (plAll lb p cb mb ov wv x mine { P with s:=s',cs:=cs' }++[.box b1 zB 94]):=l3
   rw [show ze (.tuple #[.agg (ZW P.s P.cs a),.int .i64 0]) 0=some (.agg (ZW P.s P.cs a)) from rfl,za,show ze (.tuple #[.agg (ZW P.s P.cs a),.int .i64 0]) 1=some (.int .i64 0) from rfl,za]
   refine l3.ret (i:=5) (K:=fun y H4=>R (.tuple #[y,.int .i64 0]) H4) rfl zJ hib.size hib.ok fun H' l'=>?_
   obtain ⟨O',stt,ha'⟩:=Lo.close (l:=plAll lb p cb mb ov wv x mine { P with s:=s',cs:=cs' }) (r:=[_]) l'
   exact k H' O' s' cs' stt ⟨cb,mb,ov,wv,ha'⟩ (.mk1 hsame hvw hview hfp hkp hlen') hib
 · rw [zr,za,decide_eq_false (by omega),zn]
   simp only [zc,zi,Nat.zero_add,Nat.add_zero,za]
   rw [zq ht,q4,za,zQ,za,decide_eq_false (by omega)]
   exact ⟨trivial,rfl⟩
end
theorem elM_nil:elM []=fun _=>none:=by funext k; simp [elM]
section
variable {H:Hp} {R:Value→Hp→Prop} {lb p cb mb:Nat} {s:DS} {cs:List Pl} {x:Lay} {mine:Int} {O:Nat→Prop} {ov wr:Value} {op:Bool} {room co st:Int}
theorem log_pl (h:(logOb lb p s cs x mine).at_ H O):(yY lb p x mine ⟨s,cs,[],false,0,none,0,0⟩).at_ H O:=by
 obtain ⟨⟨cb,mb,Od,Oc,hl,q1,q2,q3,q4⟩,hO⟩:=h
 have hlb:lb<H.size:=(Array.getElem?_eq_some_iff.1 hl.top).1
 refine ⟨cb,mb,.slice none 0 0,.map none,⟨fun b=>if Od b∨Oc b then 1 else if b=mb then 2 else if b=lb then 5 else 0,⟨fun i y hy=>?_,fun b hb=>?_⟩,fun b hb=>?_⟩,hO⟩
 · match i,hy with
   | 0,hy=>
     injection hy with hy; subst hy
     refine ⟨⟨Od,Oc,hl.dk,hl.ca,hl.dis,fun b hb=>?_,fun b hb=>?_⟩,fun b hb=>?_⟩
     · show (if Od b∨Oc b then 1 else if b=mb then 2 else if b=lb then 5 else 0)=0+1; rw [if_pos (.inl hb)]
     · show (if Od b∨Oc b then 1 else if b=mb then 2 else if b=lb then 5 else 0)=0+1; rw [if_pos (.inr hb)]
     · have hb:(if Od b∨Oc b then 1 else if b=mb then 2 else if b=lb then 5 else 0)=0+1:=hb
       by_cases e:Od b∨Oc b
       · rcases e with e | e
         · exact hl.dk.lt b e
         · exact hl.ca.lt b e
       · rw [if_neg e] at hb
         split at hb
         · omega
         · split at hb <;> omega
   | 1,hy=>
     injection hy with hy; subst hy
     refine ⟨⟨by show MapAt H mb (elM []) 0; rw [elM_nil]; exact hl.mp,?_⟩,fun b hb=>?_⟩
     · show (if Od mb∨Oc mb then 1 else if mb=mb then 2 else if mb=lb then 5 else 0)=1+1; rw [if_neg (by rintro (e | e); exact hl.lo.2.2.1 e; exact hl.lo.2.2.2.1 e),if_pos rfl]
     · have hb:(if Od b∨Oc b then 1 else if b=mb then 2 else if b=lb then 5 else 0)=1+1:=hb
       split at hb
       · omega
       · split at hb
         · rename_i e; rw [e]; exact hl.mp.lt
         · split at hb <;> omega
   | 2,hy=>
     injection hy with hy; subst hy
     refine ⟨⟨Sv.nil _ _ _,fun b hb=>by cases hb⟩,fun b hb=>?_⟩
     have hb:(if Od b∨Oc b then 1 else if b=mb then 2 else if b=lb then 5 else 0)=2+1:=hb
     split at hb
     · omega
     · split at hb
       · omega
       · split at hb <;> omega
   | 3,hy=>
     injection hy with hy; subst hy
     refine ⟨rfl,fun b hb=>?_⟩
     have hb:(if Od b∨Oc b then 1 else if b=mb then 2 else if b=lb then 5 else 0)=3+1:=hb
     split at hb
     · omega
     · split at hb
       · omega
       · split at hb <;> omega
   | 4,hy=>
     injection hy with hy; subst hy
     refine ⟨⟨hl.top,?_⟩,fun b hb=>?_⟩
     · show (if Od lb∨Oc lb then 1 else if lb=mb then 2 else if lb=lb then 5 else 0)=4+1; rw [if_neg (by rintro (e | e); exact hl.lo.1 e; exact hl.lo.2.1 e),if_neg hl.lo.2.2.2.2,if_pos rfl]
     · have hb:(if Od b∨Oc b then 1 else if b=mb then 2 else if b=lb then 5 else 0)=4+1:=hb
       split at hb
       · omega
       · split at hb
         · omega
         · split at hb
           · rename_i e; rw [e]; exact hlb
           · omega
   | n+5,hy=>simp [plAll] at hy
 · have h1:¬ (Od b∨Oc b):=by
     rintro (e | e)
     · have:=hl.dk.lt b e; omega
     · have:=hl.ca.lt b e; omega
   have h2:b≠mb:=fun e=>by have:=hl.mp.lt; omega
   show (if Od b∨Oc b then 1 else if b=mb then 2 else if b=lb then 5 else 0)=0
   rw [if_neg h1,if_neg h2,if_neg (by omega)]
 · have hb:(if Od b∨Oc b then 1 else if b=mb then 2 else if b=lb then 5 else 0)≠0:=hb
   by_cases e:Od b∨Oc b
   · rcases e with e | e
     · exact q1 b e
     · exact q2 b e
   · rw [if_neg e] at hb
     by_cases e2:b=mb
     · rw [e2]; exact q3
     · rw [if_neg e2] at hb
       by_cases e3:b=lb
       · rw [e3]; exact q4
       · rw [if_neg e3] at hb; exact absurd rfl hb
theorem pl_layout {P:PSt} (h:(yY lb p x mine P).at_ H O) (hok:POk x mine P) (k:∀ H',Ext H H'→R (.agg x.cells) H'):Fc Tryz.prog 97 #[z6 lb] H R:=by
 refine fn97 ?_
 simp only [sh97,yp,za]
 refine (Lo.start _ H:Lx H H []).boxA fun b1 H1 e1 l1=>?_
 obtain ⟨O1,h1⟩:=((Lo.own h).ext e1).get (i:=0) rfl
 refine pl_check h1 hok ?_
 rw [zw,za,decide_eq_false (by omega),zn]
 obtain ⟨cb,mb,ov,wv,ha⟩:=h1
 obtain ⟨ht,_⟩:=pl_pcs (r:=[]) (Lo.open ha)
 simp only [zc,zi,Nat.zero_add,Nat.add_zero,za]
 rw [Zp ht (show 4+9≤19 by omega),za,logC_lay]
 exact l1.ret (i:=0) rfl rfl (Lay.size _) (Lay.cok _) fun H' l'=>k H' l'.ext0
end
section
variable {H:Hp} {R:Value→Hp→Prop} {lb p:Nat} {mine:Int} {O:Nat→Prop} {B L I:Int}
theorem pl_spot {P:PSt} (h:(yY lb p (zp B L I) mine P).at_ H O) (hok:POk (zp B L I) mine P) (hg:Zd B L I) {i:Nat} (hi:i≤70000) (k:∀ H',Ext H H'→R (.tuple #[zm (1+L+((i / 16:Nat):Int)),zm ((64*(i % 16):Nat):Int),.bool (decide (1≤i∧(i:Int)≤I))]) H'):Fc Tryz.prog 62 #[z6 lb,zm i] H R:=by
 obtain ⟨gL1,gL2,gI1,gI2,gB1,gB2,gD⟩:=id hg
 have c4:(zp B L I).cells[4]?=some (zm (1+L)):=rfl
 have c2:(zp B L I).cells[2]?=some (zm I):=rfl
 refine fn62 ?_
 simp only [sh62,yp,za]
 refine pl_layout h hok fun H1 e1=>?_
 refine ((Lo.start _ H:Lx H H []).ext e1).boxA fun b1 H2 _ l2=>?_
 refine l2.stAll (i:=0) rfl rfl (Lay.size _) (Lay.cok _) fun H3 l3=>?_
 simp only [zi,Nat.zero_add,Nat.add_zero,za]
 rw [l3.ld (i:=0) rfl,c4,za,Zh (by decide),za,Zl (by omega),zg (by omega) (by omega),zk,za,zg (by omega) (by omega),zW (by decide),za,Za (by omega),zX,za,zg (by omega) (by omega),zQ,za,zf,show 1+L+(i:Int) / 16=1+L+((i / 16:Nat):Int) by omega,show (i:Int) % 16*64=((64*(i % 16):Nat):Int) by omega]
 refine ⟨fun h1=>?_,fun h1=>?_⟩
 · rw [l3.ld (i:=0) rfl,c2,za,Yp,za]
   have:=k H3 l3.ext0
   rw [show decide (1≤i∧(i:Int)≤I)=decide ((i:Int)≤I) from dec_dec ⟨fun e=>e.2,fun e=>⟨by omega,e⟩⟩] at this
   exact this
 · have:=k H3 l3.ext0
   rw [show decide (1≤i∧(i:Int)≤I)=false from decide_eq_false fun e=>h1 (by omega)] at this
   exact this
set_option maxHeartbeats 1000000 in
theorem pl_rack {P:PSt} (h:(yY lb p (zp B L I) mine P).at_ H O) (hok:POk (zp B L I) mine P) (hg:Zd B L I) {i:Nat} (h0:1≤i) (h1:(i:Int)≤I)
   (k:∀ H' O' s' cs',Stp O O' H H'→(yY lb p (zp B L I) mine { P with s:=s',cs:=cs' }).at_ H' O'→Rd (zp B L I) P s' cs' 1→R (.tuple #[.agg (Zs (Zu (ZW P.s P.cs (1+L+((i / 16:Nat):Int))) (64*(i % 16)))),.int .i64 0]) H'):Fc Tryz.prog 25 #[z6 lb,zm i] H R:=by
 obtain ⟨gL1,gL2,gI1,gI2,gB1,gB2,gD⟩:=id hg
 have hDA:(zp B L I).dataAt=1+L+(I+16) / 16+(B+8191) / 8192:=rfl
 have hBB:(zp B L I).B=B:=rfl
 have hLL:(zp B L I).L=L:=rfl
 have x3:∀ {a b c:Value},ze (.tuple #[a,b,c]) 0=some a:=rfl
 have x4:∀ {a b c:Value},ze (.tuple #[a,b,c]) 1=some b:=rfl
 have x5:∀ {a b c:Value},ze (.tuple #[a,b,c]) 2=some c:=rfl
 have y3:∀ {a b:Value},ze (.tuple #[a,b]) 0=some a:=rfl
 have y4:∀ {a b:Value},ze (.tuple #[a,b]) 1=some b:=rfl
 refine fn25 ?_
 simp only [sh25,yd,ya,za]
 refine (Lo.own h).boxA fun b1 H1 _ l1=>?_
 have l1:Lo O H H1 [yY lb p (zp B L I) mine P,.box b1 (Zs fun _=>0) 88]:=l1
 obtain ⟨O1,hl1,_⟩:=l1.call (i:=0) rfl
 refine pl_check hl1 hok ?_
 rw [zw,za,decide_eq_false (by omega),zn]
 refine pl_spot hl1 hok hg (by omega) fun H2 e2=>?_
 have l2:=l1.ext e2
 rw [x3,za,x4,za,x5,za,decide_eq_true (by omega),zT,za,Bool.not_true,zn]
 obtain ⟨O2,hl2,st2⟩:=l2.call (i:=0) rfl
 refine pl_read hl2 hok (by omega) (by rw [hBB]; omega) (by rw [hLL]; omega) fun H3 O3 s' cs' s3 hl3 hrd hnow=>?_
 have l3:Lo O H H3 [yY lb p (zp B L I) mine { P with s:=s',cs:=cs' },.box b1 (Zs fun _=>0) 88]:=st2 H3 _ O3 s3 hl3
 rw [y3,za,y4,za]
 generalize ZW P.s P.cs (1+L+((i / 16:Nat):Int))=c at hnow k
 refine l3.boxA fun b3 H4 _ l4=>?_
 refine l4.stAll (i:=2) rfl zJ hnow.size hnow.ok fun H5 l5=>?_
 have l5:Lo O H H5 [yY lb p (zp B L I) mine { P with s:=s',cs:=cs' },.box b1 (Zs fun _=>0) 88,.box b3 c 94]:=l5
 rw [zw,za,decide_eq_false (by omega),zn,zk,za,show ((64*(i % 16):Nat):Int)+64=((64*(i % 16)+64:Nat):Int) by omega,zv (by omega),sl_arr und1024 inf8_e inf8_s (by omega) (by omega) (by omega),za,show 64*(i % 16)+64 - 64*(i % 16)=64 by omega,show arrE (some 64) (.slice (some ⟨b3,64*(i % 16),none⟩) 64 (1024 - 64*(i % 16)))=some (.pointer (some ⟨b3,64*(i % 16),none⟩)) from rfl,za,Zp (l5.at (i:=2) rfl) (by rw [hnow.size]; omega),za]
 refine node_dec (cutN_is hnow (by omega)) fun H6 e6=>?_
 have e:Zs (Zu (c.extract (64*(i % 16)) (64*(i % 16)+64)) 0)=Zs (Zu c (64*(i % 16))):=yT fun j hj=>inoOf_cutN hnow (by omega) hj
 rw [e]
 refine (l5.ext e6).ret (i:=1) (K:=fun x H4=>R (.tuple #[x,.int .i64 0]) H4) rfl (zz _) (zz _) (Z0 _) fun H' l'=>?_
 obtain ⟨O',st,ha⟩:=Lo.close1 (x:=yY lb p (zp B L I) mine { P with s:=s',cs:=cs' }) (r:=[_,_]) l'
 exact k H' O' s' cs' st ha hrd
end
theorem sl_from {P:Program} {T e n:Nat} {i:TypeInfo} (hu:P.underlying T=some (.array n e)) (hi:P.info? e=some i) (hs:i.size=1) {b lo:Nat} (h3:lo<n):ZO P T (.pointer (some ⟨b,0,none⟩)) (some (zm lo)) none none=some (.slice (some ⟨b,lo,none⟩) (n - lo) (n - lo)):=by
 unfold ZO
 rw [hu]
 have q2:(0:Int)≤(lo:Int)∧(lo:Int)≤(n:Int):=by omega
 simp only [Zf,hiE,Option.bind_some,Int.toNat_natCast,hi,Option.map_some]
 rw [if_pos q2]
 simp only [Option.bind_some,Option.map_some,hs,Nat.mul_one]
 rw [if_neg (by omega)]
 simp only [Addr.add_mk,Nat.zero_add]
section
variable {S:Nat→Prop} {H0 H:Hp} {l:List Ob}
theorem Lo.unpack {r:List Ob} (h:Lo S H0 H (l++[.all r])):Lo S H0 H (l++r):=by
 obtain ⟨k,col,w,hc⟩:=h
 have hx:(l++[Ob.all r])[l.length]?=some (.all r):=by simp
 obtain ⟨⟨cr,wr,hr⟩,hO⟩:=w.get hx
 have hr:∀ b,cr b≠0→col b=l.length+1:=hr
 refine ⟨k,fun b=>if cr b≠0 then l.length+cr b else if col b≤l.length then col b else 0,⟨fun i x hx=>?_,fun b hb=>?_⟩,fun b hb hn=>hc b hb fun e=>hn ?_⟩
 · by_cases hi:i<l.length
   · have hx':(l++[Ob.all r])[i]?=some x:=by rw [List.getElem?_append_left hi]; rw [List.getElem?_append_left hi] at hx; exact hx
     have ho:=w.get hx'
     refine x.frame ho (fun _ _=>rfl) (Nat.le_refl _) (fun b hb=>?_) fun b hb=>?_
     · have hb:col b=i+1:=hb
       show (if cr b≠0 then l.length+cr b else if col b≤l.length then col b else 0)=i+1
       rw [if_neg (fun e=>by have:=hr b e; omega),if_pos (by omega)]; exact hb
     · have hb:(if cr b≠0 then l.length+cr b else if col b≤l.length then col b else 0)=i+1:=hb
       rcases Nat.lt_or_ge b H.size with h1 | h1
       · exact h1
       · rw [wr.out b h1,w.out b h1] at hb; simp at hb
   · rw [List.getElem?_append_right (by omega)] at hx
     have ho:=wr.get hx
     refine x.frame ho (fun _ _=>rfl) (Nat.le_refl _) (fun b hb=>?_) fun b hb=>?_
     · have hb:cr b=i - l.length+1:=hb
       show (if cr b≠0 then l.length+cr b else if col b≤l.length then col b else 0)=i+1
       rw [if_pos (by omega)]; omega
     · have hb:(if cr b≠0 then l.length+cr b else if col b≤l.length then col b else 0)=i+1:=hb
       rcases Nat.lt_or_ge b H.size with h1 | h1
       · exact h1
       · rw [wr.out b h1,w.out b h1] at hb; simp at hb
 · show (if cr b≠0 then l.length+cr b else if col b≤l.length then col b else 0)=0
   rw [wr.out b hb,w.out b hb]; simp
 · have hz:cr b=0:=by
     by_cases hz:cr b=0
     · exact hz
     · have:=hr b hz; omega
   simp [hz,e]
end
def wk (I:Int) (n:Nat):Nat:=max 1 (min n (I.toNat+1))
theorem ms_lt {n:Nat} {c:Int} (h:(n:Int)<c):(c - ((n+1:Nat):Int)).toNat<(c - (n:Int)).toNat:=by omega
section
variable {H:Hp} {R:Value→Hp→Prop} {lb p:Nat} {mine:Int} {O:Nat→Prop} {B L I:Int}
theorem undInts:Tryz.prog.underlying 106=some (.slice 3):=by kernel_rfl
end
section
variable {S:Nat→Prop} {H0 H H':Hp} {l r:List Ob}
theorem Lo.join (h:Lo S H0 H l) (m:Lx H H' r):Lo S H0 H' (l++r):=by
 have hp:Lx H H' [.all r]:=Lo.pack (l:=[]) m
 exact Lo.unpack (h.new m.ext0 (hp.outN (i:=0) rfl))
end
section
variable {B L I:Int}
theorem may_ids {its:List Itm} {fr sp:Int} {m0:Pm} {fs:List Fl} (hmay:MaySt B L I its fr sp m0 fs):(its.map (·.inum)).Nodup∧∀ t∈its,t.kind≠0:=by
 have hits0:=hmay.its
 have hfl:=hmay.files
 generalize Yg 0 (Zq m0 (zA m0 its (pg0 m0)) 0)=l0 at hits0 hfl
 have hids:its.map (·.inum)=(idsP B L I l0 I.toNat).map fun i:Nat=>(i:Int):=by
   rw [hits0,hfl.its,List.map_map]
   rfl
 refine ⟨?_,fun t ht=>?_⟩
 · rw [hids]
   have hr:((List.range I.toNat).map (·+1)).Nodup:=List.pairwise_map.2 (List.Pairwise.imp (R:=fun a b=>a≠b) (fun {a b} hab (e:a+1=b+1)=>hab (by omega)) List.nodup_range)
   have hp:(idsP B L I l0 I.toNat).Nodup:=List.Pairwise.filter _ hr
   exact List.pairwise_map.2 (List.Pairwise.imp (R:=fun (a b:Nat)=>a≠b) (fun {a b:Nat} hab (e:(a:Int)=(b:Int))=>hab (by omega)) hp)
 · rw [hits0] at ht
   obtain ⟨x,hx,rfl⟩:=List.mem_map.1 ht
   have h1:=(hfl.mem hx).2.2
   show x.f 0≠0
   rw [(hfl.is x hx).1]; exact h1
end
noncomputable def pl0 (B:Int) (l:List (Int × Blk)):PSt:=⟨dsOf B l,[],[],false,0,none,0,0⟩
section
variable {B L I:Int} {l:List (Int × Blk)}
theorem pl0_ok (hg:Zd B L I):POk (zp B L I) 1 (pl0 B l):=by
 obtain ⟨gL1,gL2,gI1,gI2,gB1,gB2,gD⟩:=id hg
 refine ⟨rfl,⟨by omega,rfl⟩,⟨List.nodup_nil,fun y hy=>(by cases hy)⟩,Int.le_refl B,⟨by show (1:Int)<_; omega,by show (0:Int)≤1; omega⟩,⟨rfl,gL1,gL2,gB2⟩,?_,?_,?_,fun a ha=>(by cases ha)⟩
 · show yk []≤((0:Nat):Int)
   rw [fastP_nil]; omega
 · show ((0:Nat):Int)≤L - 1; omega
 · show ((0:Nat):Int)≤L+32; omega
theorem pl0_view {n b:Int} (h:okL n b l) (a:Int):ZW (pl0 B l).s (pl0 B l).cs a=zN l a:=heldL_img h a
end
structure Sem (V:Int→Blk) (B L I:Int) (t:Itm):Prop where
 lo:1≤t.inum
 hi:t.inum≤I
 gd:GdF V (zp B L I).dataAt B (y8 V L t.inum.toNat)
 kind:y8 V L t.inum.toNat 0=t.kind
 size:(y8 V L t.inum.toNat 2:Int)=t.size
 k0:t.kind=1∨t.kind=2
 most:t.size≤67381248
 file:t.kind=1→∀ i,i<65802→cntV V (y8 V L t.inum.toNat) i=datB t.data i
 many:t.kind=2→(t.slots.length:Int)*16=t.size
 slot:t.kind=2→∀ (s:Nat) (e:Ent),t.slots[s]?=some e→yh V (y8 V L t.inum.toNat) (s / 64)≠0∧cutE (cntV V (y8 V L t.inum.toNat) (s / 64)) (16*(s % 64))=encE e∧encR e=0
section
variable {B L I:Int}
theorem may_sem {its:List Itm} {fr sp:Int} {m0 m:Pm} {fs:List Fl} (hmay:MaySt B L I its fr sp m0 fs) (hm:MOf m B L I) (hits:∀ t∈its,ZK t) (sd:Nat) {t:Itm} (ht:t∈its):Sem (imgV m its sd) B L I t:=by
 have hg:=hmay.ok
 obtain ⟨gL1,gL2,gI1,gI2,gB1,gB2,gD⟩:=id hg
 obtain ⟨hnd,hk⟩:=may_ids hmay
 obtain ⟨gd0,gd,two⟩:=laid_two hmay.mof hm hg hits hnd hmay.room 0 sd ht
 have hfull:(zA m its (pg0 m)).full=false:=(room_same hmay.mof hm hg hits).full.trans hmay.room
 obtain ⟨r1,r2,e3⟩:=laid_ino hm hg hits hnd hfull sd ht
 have h0:=(im_ok (sd:=0) (dv:=.slice none 0 0) (H:=#[]) hg hmay.mof hits hmay.mof.B)
 have hits0:=hmay.its
 have hfl:=hmay.files
 have hso:=hmay.sound
 have his0:∀ y∈Yg 0 (Zq m0 (zA m0 its (pg0 m0)) 0),IsB y.2:=by
   obtain ⟨_,_,_,h3⟩:=laid_low hmay.mof hg hits 0
   exact imgL_is _ 0 h3
 have hV0:imgV m0 its 0=zN (Yg 0 (Zq m0 (zA m0 its (pg0 m0)) 0)):=rfl
 rw [hV0] at gd0 two
 generalize Yg 0 (Zq m0 (zA m0 its (pg0 m0)) 0)=l0 at gd0 two hits0 hfl hso his0 hV0
 have hmem:=ht
 rw [hits0] at hmem
 obtain ⟨x,hx,hxt⟩:=List.mem_map.1 hmem
 have hxm:=hfl.mem hx
 have hxi:=hfl.is x hx
 have hin:t.inum=(x.i:Int):=by rw [← hxt]; rfl
 have hit:t.inum.toNat=x.i:=by omega
 have hf0:y8 (zN l0) L t.inum.toNat=x.f:=by rw [hit,hxi.1]; rfl
 rw [hf0] at gd0 two
 have hkd:t.kind=x.f 0:=by rw [← hxt]; rfl
 have hsz:t.size=(x.f 2:Int):=by rw [← hxt]; rfl
 have hxok:InoOk x.f:=by rw [hxi.1]; exact inoP_ok his0 x.i
 have hf2:=hxok 2 (by omega)
 simp only [fw,Nat.reduceLT,if_false,Nat.reducePow,Nat.lt_irrefl] at hf2
 have hnb:=hso.nodes.1 x.i (by omega)
 have hno:¬ oddP (rawP B L I l0 x.i) x.f:=fun ho=>hnb (.inl (.inl ⟨hxm.2.2,by rw [← hxi.1]; exact ho⟩))
 have hk2:x.f 0≤2:=Nat.le_of_not_lt fun hh=>hno (.inr (.inl hh))
 have hm2:x.f 2≤67381248:=Nat.le_of_not_lt fun hh=>hno (.inr (.inr (.inl hh)))
 have hk0:x.f 0≠0:=by rw [hxi.1]; exact hxm.2.2
 have hdat:∀ y∈x.sp,yP B L I y.2:=fun y hy=>hso.ptr y.2 (List.mem_flatMap.2 ⟨x,hx,List.mem_map.2 ⟨y,hy,rfl⟩⟩)
 have hcnt:∀ i,i<65802→cntV (imgV m its sd) (y8 (imgV m its sd) L t.inum.toNat) i=cntV (zN l0) x.f i:=fun i hi=>by
   unfold cntV
   rcases two i hi with ⟨h1,h2⟩ | ⟨h1,h2,h3⟩
   · rw [if_pos h1,if_pos h2]
   · rw [if_neg h1,if_neg h2]; exact h3.symm
 refine ⟨r1,r2,gd,?_,?_,by omega,by omega,fun h1 i hi=>?_,fun h2=>?_,fun h2 s e he=>?_⟩
 · have:=e3 0 (by omega)
   exact this
 · have:=e3 2 (by omega)
   have e4:yE t 2=(t.size % 4294967296).toNat:=rfl
   rw [e4] at this
   show ((y8 (imgV m its sd) L t.inum.toNat 2:Nat):Int)=t.size
   have e5:y8 (imgV m its sd) L t.inum.toNat 2=(t.size % 4294967296).toNat:=this
   rw [e5]; omega
 · rw [hcnt i hi]
   have hd:t.data=dataP l0 x x.sp.length:=by
     rw [← hxt]
     show (if x.f 0=2 then [] else dataP l0 x x.sp.length)=_
     rw [if_neg (by omega)]
   rw [hd]
   exact (datB_ptr hg hxi.2 hdat gd0 hi).symm
 all_goals
   have hsl:t.slots=ZE l0 x (x.f 2 / 16):=by
     rw [← hxt]
     show (if x.f 0=2 then ZE l0 x (x.f 2 / 16) else [])=_
     rw [if_pos (by omega)]
   have h16:x.f 2 % 16=0:=by
     by_cases hh:x.f 2 % 16=0
     · exact hh
     · exact absurd (.inr (.inr (.inr (.inr ⟨by omega,.inl hh⟩)))) hno
 · rw [hsl,yS,hsz]; omega
 · rw [hsl] at he
   have hs:s<x.f 2 / 16:=by
     rcases Nat.lt_or_ge s (x.f 2 / 16) with h | h
     · exact h
     · rw [List.getElem?_eq_none (by rw [yS]; exact h)] at he; cases he
   rw [Yw l0 x hs] at he
   injection he with he
   have hfine:YC l0 x (x.f 2 / 16):=Classical.byContradiction fun hh=>hso.slots x hx ⟨by omega,.inl hh⟩
   have hfs:=hfine s hs
   have hds:slotE (rawS l0 x s)=decE (rawS l0 x s):=by unfold slotE; rw [if_pos hfs]
   have hi:s / 64<65802:=by omega
   have hmap:mapP x.sp ((s / 64:Nat):Int)≠0:=fun hz=>by
     refine hso.hole x hx ?_
     unfold yB
     rw [if_neg (by omega),if_pos rfl]
     exact ⟨by omega,s / 64,by omega,hz⟩
   have hmp:=mapP_ptr hg gd0 hi
   rw [← hxi.2] at hmp
   have hp0:yh (zN l0) x.f (s / 64)≠0:=fun hz=>hmap (by rw [hmp,hz]; rfl)
   refine ⟨?_,?_,?_⟩
   · rcases two (s / 64) hi with ⟨h1,_⟩ | ⟨_,h3,_⟩
     · exact absurd h1 hp0
     · exact h3
   · rw [hcnt _ hi]
     have:cutE (cntV (zN l0) x.f (s / 64)) (16*(s % 64))=rawS l0 x s:=by
       unfold cntV rawS
       rw [if_neg hp0,hmp]
     rw [this,← he,hds,hfs.2]
   · rw [← he,hds]; exact hfs.1
theorem may_root1 {its:List Itm} {fr sp:Int} {m0:Pm} {fs:List Fl} (hmay:MaySt B L I its fr sp m0 fs):∃ t∈its,t.inum=1∧t.kind=2∧t.slots[0]?=some (1,dotS):=by
 obtain ⟨gL1,gL2,gI1,gI2,gB1,gB2,gD⟩:=id hmay.ok
 have hits0:=hmay.its
 have hfl:=hmay.files
 have hso:=hmay.sound
 generalize Yg 0 (Zq m0 (zA m0 its (pg0 m0)) 0)=l0 at hits0 hfl hso
 have hn1:=hso.nodes.1 1 (by omega)
 have hk2:y9 B L I l0 1 0=2:=by
   by_cases e:y9 B L I l0 1 0=2
   · exact e
   · exact absurd (.inr (.inr ⟨rfl,.inl e⟩)) hn1
 have hl0:y9 B L I l0 1 1≠0:=fun e=>hn1 (.inr (.inr ⟨rfl,.inr e⟩))
 obtain ⟨x,hx,hxi⟩:=hfl.has (i:=1) (by omega) (by omega) (by omega)
 have hxf:=(hfl.is x hx).1
 rw [hxi] at hxf
 have hnd:=nodes_nd gI1 hso.nodes hfl x hx
 have h32:32≤x.f 2:=hnd.2 (by rw [hxf]; exact hk2) (by rw [hxf]; exact hl0)
 have hbs:¬ Z3 l0 fs x:=fun hh=>hso.slots x hx ⟨by rw [hxf]; exact hk2,hh⟩
 have h0:enS l0 x 0=(x.i,dotS):=Classical.byContradiction fun hh=>hbs (.inr ⟨by rw [hxf]; exact hl0,.inl hh⟩)
 refine ⟨itP l0 x,?_,?_,?_,?_⟩
 · rw [hits0]; exact List.mem_map.2 ⟨x,hx,rfl⟩
 · show (x.i:Int)=1; omega
 · show x.f 0=2; rw [hxf]; exact hk2
 · show (if x.f 0=2 then ZE l0 x (x.f 2 / 16) else [])[0]?=_
   rw [if_pos (by rw [hxf]; exact hk2),Yw l0 x (by omega)]
   show some (enS l0 x 0)=_
   rw [h0,hxi]
end
theorem encE_dot:byt (encE (1,dotS)) 0=1∧byt (encE (1,dotS)) 1=0∧byt (encE (1,dotS)) 2=46∧byt (encE (1,dotS)) 3=0:=by
 have hn:nameE dotS=0:=by
   unfold nameE
   rw [if_neg (by decide),if_neg,if_neg (by decide)]
   rintro ⟨i,hi,h⟩
   have hi:i<1:=hi
   obtain rfl:i=0:=by omega
   have h46:sb dotS 0=46:=rfl
   rw [h46] at h
   omega
 unfold encE
 rw [if_neg (by decide),if_neg (by rw [hn]; decide)]
 have e:dotS.size=1:=rfl
 show byt (entL _ dotS dotS.size) 0=1∧_
 rw [e]
 exact ⟨rfl,rfl,rfl,rfl⟩
noncomputable def bytV (V:Int→Blk) (f:Ino) (p:Nat):Nat:=byt (cntV V f (p / 1024)) (p % 1024)
noncomputable def outC (V:Int→Blk) (f:Ino) (at_ n k:Nat):Array Value:=(Array.range n).map fun j=>.int .u8 ((if j<k then bytV V f (at_+j) else 0:Nat):Int)
theorem ZQ (V:Int→Blk) (f:Ino) (at_ n k:Nat):(outC V f at_ n k).size=n:=by simp [outC]
theorem YR {V:Int→Blk} {f:Ino} {at_ n k j:Nat} (h:j<n):(outC V f at_ n k)[j]?=some (.int .u8 ((if j<k then bytV V f (at_+j) else 0:Nat):Int)):=by
 unfold outC
 rw [Array.getElem?_map,Array.getElem?_range,if_pos h]; rfl
theorem outC_put {V:Int→Blk} {f:Ino} {at_ n k k':Nat} {c cs:Blk} (h1:k≤k') (h2:k'≤n) (hb:IsB c) (hi:(at_+k) % 1024+(k' - k)≤1024) (hc:cntV V f ((at_+k) / 1024)=c) (hcs:cs=c.extract ((at_+k) % 1024) ((at_+k) % 1024+(k' - k))):zZ (outC V f at_ n k) k cs=outC V f at_ n k':=by
 have hsz:cs.size=k' - k:=by rw [hcs,Array.size_extract]; have:=hb.size; omega
 apply Array.ext_getElem?
 intro j
 by_cases hj:j<n
 · rw [YR hj]
   by_cases h3:k≤j∧j<k'
   · rw [zU (by rw [ZQ,hsz]; omega),if_neg (by omega),if_pos (by rw [hsz]; omega),if_pos h3.2,hcs,Array.getElem?_extract,if_pos (by have:=hb.size; omega),hb.get (by omega)]
     unfold bytV
     rw [show (at_+j) / 1024=(at_+k) / 1024 by omega,hc,show (at_+j) % 1024=(at_+k) % 1024+(j - k) by omega]
   · rw [zU (by rw [ZQ,hsz]; omega)]
     by_cases h4:j<k
     · rw [if_pos h4,YR hj,if_pos h4,if_pos (by omega)]
     · rw [if_neg h4,if_neg (by rw [hsz]; omega),YR hj,if_neg h4,if_neg (by omega)]
 · rw [Array.getElem?_eq_none (by rw [z7 (by rw [ZQ,hsz]; omega),ZQ]; omega),Array.getElem?_eq_none (by rw [ZQ]; omega)]
theorem outC_hole {V:Int→Blk} {f:Ino} {at_ n k k':Nat} (h1:k≤k') (hi:(at_+k) % 1024+(k' - k)≤1024) (hc:cntV V f ((at_+k) / 1024)=zB):outC V f at_ n k=outC V f at_ n k':=by
 apply Array.ext_getElem?
 intro j
 by_cases hj:j<n
 · rw [YR hj,YR hj]
   by_cases h4:j<k
   · rw [if_pos h4,if_pos (by omega)]
   · rw [if_neg h4]
     by_cases h5:j<k'
     · rw [if_pos h5]
       unfold bytV
       rw [show (at_+j) / 1024=(at_+k) / 1024 by omega,hc]
       exact congrArg (fun x:Nat=>some (Value.int .u8 (x:Int))) (byt_zero 1024 _).symm
     · rw [if_neg h5]
 · rw [Array.getElem?_eq_none (by rw [ZQ]; omega),Array.getElem?_eq_none (by rw [ZQ]; omega)]
noncomputable def rdC (V:Int→Blk) (f:Ino) (at_ n:Nat):List (Array Value):=(List.range n).map fun j=>#[.int .u8 (bytV V f (at_+j):Nat)]
theorem rdC_len (V:Int→Blk) (f:Ino) (at_ n:Nat):(rdC V f at_ n).length=n:=by simp [rdC]
theorem rdC_get {V:Int→Blk} {f:Ino} {at_ n j:Nat} (h:j<n):(rdC V f at_ n)[j]?=some #[.int .u8 (bytV V f (at_+j):Nat)]:=by
 unfold rdC
 rw [List.getElem?_map,List.getElem?_range h]; rfl
theorem outC_sv {H:Hp} {T b:Nat} {V:Int→Blk} {f:Ino} {at_ n:Nat} (h:H[b]?=some (.cells (outC V f at_ n n) T)):Sv T 1 H (.slice (some ⟨b,0,none⟩) n n) (rdC V f at_ n):=by
 refine ⟨some ⟨b,0,none⟩,n,by rw [rdC_len],by rw [rdC_len]; exact Nat.le_refl _,fun v hv=>?_,rfl,_,h,by show 0+n*1≤_; rw [ZQ]; omega,fun i v hi=>?_⟩
 · obtain ⟨j,_,rfl⟩:=List.mem_map.1 hv; rfl
 · have hil:i<n:=by
     rcases Nat.lt_or_ge i n with h1 | h1
     · exact h1
     · rw [List.getElem?_eq_none (by rw [rdC_len]; exact h1)] at hi; cases hi
   rw [rdC_get hil] at hi
   injection hi with hi
   rw [← hi]
   refine yv rfl (by show 0+i*1+1≤_; rw [ZQ]; omega) fun j hj=>?_
   obtain rfl:j=0:=by omega
   rw [show 0+i*1+0=i by omega,YR hil,if_pos hil]; rfl
theorem copy_row2 {e:ZT} {b o dl c sb so sl c':Nat} {cs:Array Value} {H:Hp} {K:Value × Hp→Prop} (he:e.size=1) (hr:rowH H ⟨sb,so,none⟩ dl=some cs) (hn:dl≤sl) (hsz:cs.size=dl) (h:Pu (zj (some dl) (.pointer (some ⟨b,o,none⟩)) (.agg cs) H) fun H'=>K (.int .i64 (dl:Nat),H')) :
   Pu (copyE (some e) (.slice (some ⟨b,o,none⟩) dl c) (.slice (some ⟨sb,so,none⟩) sl c') H) K:=by
 unfold copyE
 simp only [lenX,Option.bind_some,cellsN,he,Nat.mul_one]
 rw [Nat.min_eq_right hn,hr]
 simp only [Option.bind_some]
 unfold zj at h
 simp only [zP,hsz,if_true] at h
 cases hp:putH H ⟨b,o,none⟩ cs with
 | none=>
   rw [hp] at h
   obtain ⟨v,he2,_⟩:=h
   cases he2
 | some H'=>
   rw [hp,za] at h
   rw [Option.map_some,za]
   exact h
theorem sl_piece {P:Program} {S e:TypeId} {i:TypeInfo} (hu:P.underlying S=some (.slice e)) (hi:P.info? e=some i) (hs:i.size=1) {b n lo hi':Nat} (h1:lo<hi') (h2:hi'≤n):ZO P S (.slice (some ⟨b,0,none⟩) n n) (some (zm lo)) (some (zm hi')) (some (zm hi'))=some (.slice (some ⟨b,lo,none⟩) (hi' - lo) (hi' - lo)):=by
 have b1:∀ d y:Nat,hi'≤y→Zf (some (zm (hi':Int))) d y=some hi':=fun d y hy=>by
   show (if (0:Int)≤(hi':Int)∧(hi':Int)≤(y:Int) then some (hi':Int).toNat else none)=_
   rw [if_pos (by omega),Int.toNat_natCast]
 have b2:Zf (some (zm (lo:Int))) 0 hi'=some lo:=by
   show (if (0:Int)≤(lo:Int)∧(lo:Int)≤(hi':Int) then some (lo:Int).toNat else none)=_
   rw [if_pos (by omega),Int.toNat_natCast]
 unfold ZO
 rw [hu]
 show (Zf (some (zm (hi':Int))) n n).bind _=_
 rw [b1 n n h2]
 show (Zf (some (zm (hi':Int))) n hi').bind _=_
 rw [b1 n hi' (Nat.le_refl _)]
 show (Zf (some (zm (lo:Int))) 0 hi').bind _=_
 rw [b2]
 show (P.info? e).map _=_
 rw [hi,Option.map_some,if_neg (by omega),hs,Nat.mul_one,Option.map_some,Addr.add_mk,Nat.zero_add]
noncomputable def dnV (V:Int→Blk):Nat→List Nat→Nat
 | b,[]=>b
 | b,p :: ps=>if b=0 then 0 else dnV V (p4 V b p) ps
noncomputable def dnN (V:Int→Blk):Nat→List Nat→Nat
 | b,[]=>if b=0 then 0 else 1
 | b,p :: ps=>if b=0 then 0 else dnN V (p4 V b p) ps+1
def dnG (V:Int→Blk) (da B:Int):Nat→List Nat→Prop
 | b,[]=>gdP da B b
 | b,p :: ps=>gdP da B b∧p<256∧(b≠0→dnG V da B (p4 V b p) ps)
theorem dnN_le (V:Int→Blk):∀ (ps:List Nat) (b:Nat),dnN V b ps≤ps.length+1
 | [],b=>by unfold dnN; split <;> simp
 | p :: ps,b=>by
   unfold dnN
   split
   · exact Nat.zero_le _
   · have:=dnN_le V ps (p4 V b p)
     rw [List.length_cons]; omega
theorem dnG.gd {V:Int→Blk} {da B:Int}:∀ {ps:List Nat} {b:Nat},dnG V da B b ps→gdP da B b
 | [],_,h=>h
 | _ :: _,_,h=>h.1
def topB (f:Ino) (i:Nat):Nat:=if i<10 then f (4+i) else if i<266 then f 14 else f 15
def topP (i:Nat):List Nat:=if i<10 then [] else if i<266 then [i - 10] else [(i - 266) / 256,(i - 266) % 256]
theorem topP_len (i:Nat):(topP i).length≤2:=by
 unfold topP
 split
 · simp
 · split <;> simp
theorem dnV_top (V:Int→Blk) (f:Ino) (i:Nat):dnV V (topB f i) (topP i)=yh V f i:=by
 unfold topB topP yh
 split
 · rfl
 · split <;> rfl
theorem dnG_top {V:Int→Blk} {da B:Int} {f:Ino} (h:GdF V da B f) {i:Nat} (hi:i<65802):dnG V da B (topB f i) (topP i):=by
 unfold topB topP
 split
 · exact h.d i (by omega)
 · split
   · exact ⟨h.s,by omega,fun h0=>h.sn h0 _ (by omega)⟩
   · exact ⟨h.t,by omega,fun h0=>⟨h.tn h0 _ (by omega),by omega,fun h1=>h.un h0 _ (by omega) h1 _ (by omega)⟩⟩
theorem pr1 {p lb r w:Nat}:(prC p lb r w)[1]?=some (z6 lb):=rfl
section
variable {H:Hp} {R:Value→Hp→Prop} {lb p:Nat} {mine:Int} {O:Nat→Prop} {B L I:Int} {x:Lay}
theorem pl_isB {P:PSt} (h:(yY lb p x mine P).at_ H O) (a:Int):IsB (ZW P.s P.cs a):=by
 obtain ⟨cb,mb,ov,wv,ha⟩:=h
 obtain ⟨_,Od,Oc,hd,hc,_⟩:=pl_pcs (r:=[]) (Lo.open ha)
 unfold ZW
 split
 · rename_i z hz
   exact hc.isB (List.mem_of_find?_eq_some hz)
 · exact hd.now_is a
end
end Go.Vc
