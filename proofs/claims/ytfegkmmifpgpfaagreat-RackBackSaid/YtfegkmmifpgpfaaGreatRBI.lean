/- Parts of a proof, joined in build order: a calculus of contracts, contracts of functions. -/
import Derived.Test.YtfegkmmifpgpfaaGreatRBH
import Derived.Test.YtfegkmmifpgpfaaGreatRBG
set_option linter.unusedVariables false
set_option linter.unusedSimpArgs false
namespace Go.Vc
open Go.Proofs Classical
def cutE (c:Blk) (o:Nat):Array Value:=c.extract o (o+16)
theorem cutE_is {c:Blk} (h:IsB c) {o:Nat} (ho:o+16≤1024):IsN 16 (cutE c o):=by
 unfold cutE
 refine ⟨by rw [Array.size_extract,h.size]; omega,fun i hi=>?_⟩
 rw [Array.getElem?_extract,if_pos (by rw [h.size]; omega)]
 exact h.cell _ (by omega)
theorem byt_cutE {c:Blk} (h:IsB c) {o:Nat} (ho:o+16≤1024) {i:Nat} (hi:i<16):byt (cutE c o) i=byt c (o+i):=by
 unfold byt cutE
 rw [Array.getElem?_extract,if_pos (by rw [h.size]; omega)]
noncomputable def rawS (l:List (Int × Blk)) (x:Fl) (s:Nat):Array Value:=cutE (zX l (mapP x.sp ((s / 64:Nat):Int))) (16*(s % 64))
noncomputable def ZQ (l:List (Int × Blk)) (x:Fl) (n:Nat):List Ent:=(List.range n).map fun s=>slotE (rawS l x s)
def YZ (l:List (Int × Blk)) (x:Fl) (n:Nat):Prop:=∀ s,s<n→fineE (rawS l x s)
theorem rawS_is {l:List (Int × Blk)} (h:∀ x∈l,IsB x.2) (x:Fl) (s:Nat):IsN 16 (rawS l x s):=cutE_is (Zw h _) (by omega)
theorem slotsP_len (l:List (Int × Blk)) (x:Fl) (n:Nat):(ZQ l x n).length=n:=by simp [ZQ]
theorem slotsP_succ (l:List (Int × Blk)) (x:Fl) (n:Nat):ZQ l x (n+1)=ZQ l x n++[slotE (rawS l x n)]:=by unfold ZQ; rw [List.range_succ,List.map_append]; rfl
theorem slotsP_get (l:List (Int × Blk)) (x:Fl) {n i:Nat} (h:i<n):(ZQ l x n)[i]?=some (slotE (rawS l x i)):=by unfold ZQ; rw [List.getElem?_map,List.getElem?_range h]; rfl
noncomputable def eEn:ZO:=orE (zK Tryz.prog 140)
set_option maxRecDepth 100000 in
theorem elEn:zK Tryz.prog 140=some eEn:=by kernel_rfl
set_option maxRecDepth 100000 in
theorem eEn_f:eEn.type=241∧eEn.size=2∧eEn.zero.size=2∧eEn.bytes=24:=⟨by kernel_rfl,by kernel_rfl,by kernel_rfl,by kernel_rfl⟩
section
variable {H:Hp} {R:Value→Hp→Prop} {d:Nat} {dv:Value} {B L I:Int} {l:List (Int × Blk)} {s:Value} {fs:List Fl}
theorem slots29 (h:Lk H d dv B L I l) {x:Fl} (hsub:Sr 2 H x.v (x.sp.map spC)) (hfew:x.sp.length≤66100) (hok:InoOk x.f) (k:∀ H' s',Ext H H'→New H H' (.sl 241 2 s' ((ZQ l x (x.f 2 / 16)).map ZS))→R (.tuple #[s',.bool (decide (YZ l x (x.f 2 / 16)))]) H'):Fc Tryz.prog 162 #[zW d,.agg (flC x)] H R:=by
 have h2:=hok 2 (by omega)
 simp only [fw,Nat.reduceLT,if_false,Nat.reducePow,Nat.lt_irrefl] at h2
 have f3:(flC x)[3]?=some (.int .u32 (x.f 2)):=rfl
 have f17:(flC x)[17]?=some x.v:=rfl
 refine fn162 ?_
 simp only [sh162,zu]
 refine (Lo.start _ H:Lx H H []).boxA fun b1 H1 _ l1=>?_
 have l1:=l1.nilS 241 2
 simp only [zg,Nat.zero_add,Nat.add_zero,Nat.reduceAdd,za,ZL,zero16,zeroEnt]
 generalize hn:x.f 2 / 16=n at k
 refine zy.mk (fun t H'=>∃ (i:Nat) (v:Value),i≤n∧t=(.bool (decide (YZ l x i)),v,zm i,())∧Lx H H' [.box b1 (flC x) 192,.sl 241 2 v ((ZQ l x i).map ZS)])
   (fun t _=>mi t.2.2.1 fun i=>(n - i).toNat) ⟨0,.slice none 0 0,by omega,by rw [decide_eq_true (show YZ l x 0 from fun s hs=>by omega)]; rfl,l1⟩ ?_
 rintro _ H2 ⟨i,v,hi,rfl,l2⟩
 rw [l2.ld (i:=0) rfl,f3,za,zE,za,zw (by omega),Zn (by decide),za,Zv (by omega),zh (by omega) (by omega),zt,za,ze]
 refine ⟨fun hlt=>?_,fun hge=>?_⟩
 · rw [l2.ld (i:=0) rfl,f17,za,zZ,za,zh (by omega) (by omega),Zn (by decide),za,Zv (by omega),zh (by omega) (by omega),show ((i:Int)*16 / 1024)=((i / 64:Nat):Int) by omega]
   refine mapped29 (hsub.ext l2.ext0) (by omega) ?_
   refine lk_at (h.ext l2.ext0) fun H3 e3=>?_
   have hraw:=rawS_is h.is x i
   have hby:∀ j,j<16→byt (rawS l x i) j=byt (zX l (mapP x.sp ((i / 64:Nat):Int))) (16*(i % 64)+j):=fun j hj=>byt_cutE (Zw h.is _) (by omega) hj
   have hbl:=Zw h.is (mapP x.sp ((i / 64:Nat):Int))
   have hsl:=slotE_lt hraw
   have hfs:YZ l x (i+1)↔YZ l x i∧fineE (rawS l x i):=⟨fun hh=>⟨fun s hs=>hh s (by omega),hh i (by omega)⟩,fun hh s hs=>by
     by_cases e:s=i
     · rw [e]; exact hh.2
     · exact hh.1 s (by omega)⟩
   have hsc:=slotsP_succ l x i
   generalize zX l (mapP x.sp ((i / 64:Nat):Int))=c at hbl hby
   generalize rawS l x i=r at hraw hby hsl hfs hsc
   refine (l2.ext e3).boxA fun b2 H4 _ l4=>?_
   refine l4.stAll (i:=2) rfl zF hbl.size hbl.ok fun H5 l5=>?_
   refine l5.boxA fun b3 H6 _ l6=>?_
   refine zy.mk (fun t H'=>∃ (j:Nat) (y:Array Value),j≤16∧t=(zm j,())∧IsN 16 y∧(∀ z,z<j→byt y z=byt r z)∧Lx H H' [.box b1 (flC x) 192,.sl 241 2 v ((ZQ l x i).map ZS),.box b2 c 65,.box b3 y 237])
     (fun t _=>mi t.1 fun j=>(16 - j).toNat) ⟨0,zR 16,by omega,rfl,Z3 16,fun z hz=>by omega,l6⟩ ?_
   rintro _ H7 ⟨j,y,hj,rfl,hy,hyz,l7⟩
   rw [zt,za,ze]
   refine ⟨fun hlt2=>?_,fun hge2=>?_⟩
   · rw [za,z9 (by decide),za,Ze (by omega),zk,za,zh (by omega) (by omega),show (((i:Int)*16) % 1024+(j:Int))=((16*(i % 64)+j:Nat):Int) by omega,zH (by omega),za,Nat.zero_add,Nat.mul_one,l7.ld (i:=2) rfl,hbl.get (by omega),za,zH (by omega),za,Nat.zero_add,Nat.mul_one]
     refine l7.st (i:=3) (j:=j) (v:=.int .u8 (byt c (16*(i % 64)+j))) rfl (by rw [hy.size]; omega) rfl rfl fun H8 l8=>?_
     rw [zk,za,zJ,zw (by omega)]
     refine ⟨⟨j+1,_,by omega,rfl,hy.set j (hbl.lt _),fun z hz=>?_,l8⟩,by simp only [zC]; omega⟩
     rw [hy.byt_set (by omega)]
     by_cases e:j=z
     · subst e
       rw [if_pos rfl]; exact (hby j (by omega)).symm
     · rw [if_neg e]; exact hyz z (by omega)
   · have ej:j=16:=by omega
     subst ej
     have e:y=r:=hy.ext hraw fun z hz=>hyz z hz
     subst e
     rw [l7.ldAll (i:=3) (n:=16) rfl hy.size,za]
     refine dec18 hy fun H9 e9=>?_
     rw [show zf (.tuple #[.agg (ZS (slotE y)),zm (if fineE y then 0 else 4)]) 0=some (.agg (ZS (slotE y))) from rfl,za,show zf (.tuple #[.agg (ZS (slotE y)),zm (if fineE y then 0 else 4)]) 1=some (zm (if fineE y then 0 else 4)) from rfl,za]
     refine (l7.ext e9).boxA fun b4 H10 _ l10=>?_
     refine l10.stAll (i:=4) (vs:=ZS (slotE y)) rfl rfl rfl (entC_okk _) fun H11 l11=>?_
     have l11:Lx H H11 [.box b1 (flC x) 192,.sl 241 2 v ((ZQ l x i).map ZS),.box b2 c 65,.box b3 y 237,.box b4 (ZS (slotE y)) 241]:=l11
     refine zT.mk (fun t H'=>H'=H11∧t.1=.bool (decide (YZ l x (i+1)))) ?_ ?_
     · rintro ⟨t,u⟩ H12 ⟨rfl,ht⟩
       simp only at ht
       subst ht
       rw [l11.ldAll (i:=4) (n:=2) rfl rfl,za]
       refine l11.appO elEn eEn_f (i:=1) rfl (by rfl) (by omega) (by omega) rfl (entC_okk _) (by rw [List.length_map,slotsP_len]; omega) fun s' H13 l13=>?_
       have l13:=l13.takeN 2
       rw [zk,za,zJ,zw (by omega)]
       refine ⟨⟨i+1,s',by omega,rfl,?_⟩,by simp only [zC]; omega⟩
       rw [hsc,List.map_append]
       exact l13
     · rw [ze]
       refine ⟨fun hf=>?_,fun hf=>⟨rfl,YP fun e=>hf (hfs.1 e).1⟩⟩
       rw [zA,za]
       refine ⟨rfl,y9 ?_⟩
       rw [hfs]
       constructor
       · intro h0
         refine ⟨hf,?_⟩
         by_cases e:fineE y
         · exact e
         · rw [if_neg e] at h0; omega
       · intro h0; rw [if_pos h0.2]
 · have ei:i=n:=by omega
   subst ei
   exact k H2 v l2.ext0 (l2.outN (i:=1) rfl)
def usedP (fs:List Fl) (a:Int):Prop:=∃ x∈fs,(x.i:Int)=a
theorem used29 (hf:Fls H s fs) {a:Int} (k:R (.bool (decide (usedP fs a))) H):Fc Tryz.prog 197 #[s,zm a] H R:=by
 have hfl:=hf.len
 refine fn197 ?_
 simp only [sh197,zu]
 refine zy.mk (fun t H'=>H'=H∧∃ i:Nat,i≤fs.length∧t=(zm i,())∧∀ x∈fs.take i,(x.i:Int)≠a) (fun t _=>mi t.1 fun i=>(fs.length - i).toNat) ⟨rfl,0,by omega,rfl,by simp⟩ ?_
 rintro _ H3 ⟨rfl,i,hi,rfl,hno⟩
 rw [hf.row.lenE yD,za,List.length_map,zt,za,ze]
 refine ⟨fun hlt=>?_,fun hge=>?_⟩
 · have hil:i<fs.length:=by omega
   have hei:(fs.map flC)[i]?=some (flC fs[i]):=by rw [List.getElem?_map,List.getElem?_eq_getElem hil]; rfl
   have htk:fs.take (i+1)=fs.take i++[fs[i]]:=List.take_succ_eq_append_getElem hil
   have hmem:fs[i]∈fs:=List.getElem_mem hil
   generalize fs[i]=x at hei htk hmem
   obtain ⟨b,o,ha,hcl,_⟩:=hf.row.el hei
   have h0:=hcl 0 (by omega)
   rw [Nat.add_zero] at h0
   rw [ha,za,zg,za,Nat.add_zero,h0,show (flC x)[0]?=some (zm x.i) from rfl,za,zA,za,ze]
   refine ⟨fun he=>?_,fun hne=>?_⟩
   · have e:decide (usedP fs a)=true:=decide_eq_true ⟨x,hmem,he⟩
     rw [e] at k; exact k
   · rw [zk,za,zJ,zw (by omega)]
     refine ⟨⟨rfl,i+1,by omega,rfl,fun y hy=>?_⟩,by simp only [zC]; omega⟩
     rw [htk] at hy
     rcases List.mem_append.1 hy with h1 | h1
     · exact hno y h1
     · rw [List.mem_singleton.1 h1]; exact hne
 · have ei:i=fs.length:=by omega
   subst ei
   rw [List.take_length] at hno
   have e:decide (usedP fs a)=false:=decide_eq_false fun ⟨x,hx,he⟩=>hno x hx he
   rw [e] at k; exact k
end
def dotS:ByteArray:=⟨#[46]⟩
def dotsS:ByteArray:=⟨#[46,46]⟩
noncomputable def enS (l:List (Int × Blk)) (x:Fl) (i:Nat):Ent:=slotE (rawS l x i)
def badEn (l:List (Int × Blk)) (fs:List Fl) (x:Fl) (i:Nat):Prop:=(enS l x i).1≠0∧(¬ usedP fs (enS l x i).1∨(1<i∧((enS l x i).2=dotS∨(enS l x i).2=dotsS))∨∃ k,k<i∧(enS l x k).2=(enS l x i).2)
def yt (l:List (Int × Blk)) (fs:List Fl) (x:Fl):Prop:=¬ YZ l x (x.f 2 / 16)∨(x.f 1≠0∧(enS l x 0≠(x.i,dotS)∨(enS l x 1).2≠dotsS∨∃ i,i<x.f 2 / 16∧badEn l fs x i))
theorem buildEnt2 (a:Nat):zv Tryz.prog 241 [(0,.int .u16 (a:Int)),(1,.string ⟨#[46]⟩)]=some (.agg (ZS (a,dotS))):=by kernel_rfl
def NdOk (fs:List Fl):Prop:=∀ x∈fs,x.f 2≤67381248∧(x.f 0=2→x.f 1≠0→32≤x.f 2)
abbrev Nm:=Nat × Nat
def nmC (x:Nm):Array Value:=#[zm x.1,zm x.2]
theorem nmC_ok (x:Nm):zG (nmC x):=by unfold zG; rw [← Array.all_toList]; rfl
noncomputable def eNm:ZO:=orE (zK Tryz.prog 225)
set_option maxRecDepth 100000 in
theorem elNm:zK Tryz.prog 225=some eNm:=by kernel_rfl
set_option maxRecDepth 100000 in
theorem eNm_f:eNm.type=262∧eNm.size=2∧eNm.zero.size=2∧eNm.bytes=16:=⟨by kernel_rfl,by kernel_rfl,by kernel_rfl,by kernel_rfl⟩
theorem undNms:Tryz.prog.underlying 225=some (.slice 262):=by kernel_rfl
theorem buildNm (a b:Nat):zv Tryz.prog 262 [(0,zm a),(1,zm b)]=some (.agg (nmC (a,b))):=by kernel_rfl
def isTree (x:Fl):Prop:=x.f 0=2∧x.f 1≠0
noncomputable def nmD (l:List (Int × Blk)) (x:Fl):Nat→List Nm
 | 0=>[]
 | n+1=>nmD l x n++(if 2≤n∧(enS l x n).1≠0 then [(x.i,(enS l x n).1)] else [])
theorem nmD_succ (l:List (Int × Blk)) (x:Fl) (n:Nat):nmD l x (n+1)=nmD l x n++(if 2≤n∧(enS l x n).1≠0 then [(x.i,(enS l x n).1)] else []):=rfl
theorem nmD_two (l:List (Int × Blk)) (x:Fl):∀ n,n≤2→nmD l x n=[]
 | 0,_=>rfl
 | n+1,h=>by rw [nmD_succ,nmD_two l x n (by omega),if_neg (fun e=>by omega)]; rfl
theorem nmD_len (l:List (Int × Blk)) (x:Fl):∀ n,(nmD l x n).length≤n
 | 0=>by simp [nmD]
 | n+1=>by
   have:=nmD_len l x n
   rw [nmD_succ,List.length_append]
   split <;> simp <;> omega
noncomputable def nmX (l:List (Int × Blk)) (x:Fl):List Nm:=if isTree x then nmD l x (x.f 2 / 16) else []
noncomputable def yu (l:List (Int × Blk)) (fs:List Fl):List Nm:=fs.flatMap (nmX l)
theorem namesP_app (l:List (Int × Blk)) (a b:List Fl):yu l (a++b)=yu l a++yu l b:=List.flatMap_append ..
theorem namesP_one (l:List (Int × Blk)) (x:Fl):yu l [x]=nmX l x:=by simp [yu]
theorem nmX_len (l:List (Int × Blk)) {x:Fl} (h:x.f 2≤67381248):(nmX l x).length≤4211328:=by
 unfold nmX
 split
 · have:=nmD_len l x (x.f 2 / 16); omega
 · simp
theorem namesP_len (l:List (Int × Blk)):∀ {fs:List Fl},NdOk fs→(yu l fs).length≤4211328*fs.length
 | [],_=>by simp [yu]
 | x :: r,h=>by
   have h1:=namesP_len l (fs:=r) fun y hy=>h y (List.mem_cons_of_mem _ hy)
   have h2:=nmX_len l (h x (List.mem_cons_self ..)).1
   have e:yu l (x :: r)=nmX l x++yu l r:=by simp [yu]
   rw [e,List.length_append,List.length_cons]; omega
section
variable {H:Hp} {R:Value→Hp→Prop} {d:Nat} {dv:Value} {B L I:Int} {l:List (Int × Blk)} {s:Value} {fs:List Fl}
set_option maxHeartbeats 1000000 in
theorem badSlots29 (h:Lk H d dv B L I l) (hf:Fls H s fs) {x:Fl} (hx:x∈fs) (hlk:x.f 1≠0→32≤x.f 2) (k:∀ H',Ext H H'→R (.bool (decide (yt l fs x))) H'):Fc Tryz.prog 184 #[zW d,s,.agg (flC x)] H R:=by
 have hnum:=hf.num x hx
 have hok:=hf.ok x hx
 have h2:=hok 2 (by omega)
 simp only [fw,Nat.reduceLT,if_false,Nat.reducePow,Nat.lt_irrefl] at h2
 have f0:(flC x)[0]?=some (zm x.i):=rfl
 have f2:(flC x)[2]?=some (.int .u16 (x.f 1)):=rfl
 refine fn184 ?_
 simp only [sh184,zu]
 refine (Lo.start _ H:Lx H H []).boxA fun b1 H1 _ l1=>?_
 have l1:Lx H H1 [.box b1 (flC x) 192]:=l1
 have fin:∀ {H'} (b:Bool),Ext H H'→(b=true↔yt l fs x)→R (.bool b) H':=fun {H'} b e hb=>by
   have:=k H' e
   rw [show decide (yt l fs x)=b from by rw [Bool.eq_iff_iff,decide_eq_true_eq,hb]] at this
   exact this
 rw [l1.ldAll (i:=0) (n:=18) rfl rfl,za]
 refine slots29 (h.ext l1.ext0) ((hf.sub x hx).ext l1.ext0) (hf.few x hx) hok fun H2 sv e2 n2=>?_
 have l2:Lx H H2 [.box b1 (flC x) 192,.sl 241 2 sv ((ZQ l x (x.f 2 / 16)).map ZS)]:=l1.new e2 n2
 have hgt:∀ i,i<x.f 2 / 16→((ZQ l x (x.f 2 / 16)).map ZS)[i]?=some (ZS (enS l x i)):=fun i hi=>by rw [List.getElem?_map,slotsP_get l x hi]; rfl
 have hlt16:∀ i,(enS l x i).1<65536:=fun i=>slotE_lt (rawS_is h.is x i)
 have hlen:((ZQ l x (x.f 2 / 16)).map ZS).length=x.f 2 / 16:=by rw [List.length_map,slotsP_len]
 rw [show zf (.tuple #[sv,.bool (decide (YZ l x (x.f 2 / 16)))]) 0=some sv from rfl,za,show zf (.tuple #[sv,.bool (decide (YZ l x (x.f 2 / 16)))]) 1=some (.bool (decide (YZ l x (x.f 2 / 16)))) from rfl,za,zM,za,Z8]
 refine ⟨fun hnf=>?_,fun hfi=>?_⟩
 · rw [decide_eq_false_iff_not] at hnf
   exact fin true l2.ext0 ⟨fun _=>.inl hnf,fun _=>rfl⟩
 · rw [decide_eq_true_eq] at hfi
   rw [zg,za,zg,za,l2.ld (i:=0) rfl,f2,za,zA,za,ze]
   refine ⟨fun h0=>fin false l2.ext0 ⟨fun e=>(by cases e),fun e=>?_⟩,fun h0=>?_⟩
   · rcases e with e | e
     · exact absurd hfi e
     · omega
   · have h0:x.f 1≠0:=by omega
     have h32:=hlk h0
     have hbad:yt l fs x↔(enS l x 0≠(x.i,dotS)∨(enS l x 1).2≠dotsS)∨∃ i,i<x.f 2 / 16∧badEn l fs x i:=by
       unfold yt
       constructor
       · rintro (e | ⟨_,e | e | e⟩)
         · exact absurd hfi e
         · exact .inl (.inl e)
         · exact .inl (.inr e)
         · exact .inr e
       · rintro ((e | e) | e)
         · exact .inr ⟨h0,.inl e⟩
         · exact .inr ⟨h0,.inr (.inl e)⟩
         · exact .inr ⟨h0,.inr (.inr e)⟩
     have sv2:=(l2.sv (i:=1) rfl).sr
     refine zT.mk (fun t H'=>H'=H2∧t.1=.bool (decide (enS l x 0≠(x.i,dotS)∨(enS l x 1).2≠dotsS))) ?_ ?_
     · rintro ⟨t,u⟩ H3 ⟨rfl,ht⟩
       simp only at ht
       subst ht
       rw [ze]
       refine ⟨fun hb=>fin true l2.ext0 ⟨fun _=>hbad.2 (.inl hb),fun _=>rfl⟩,fun hb=>?_⟩
       refine zy.mk (fun t H'=>Ext H3 H'∧∃ i:Nat,i≤x.f 2 / 16∧t=(zm i,())∧∀ j,j<i→¬ badEn l fs x j) (fun t _=>mi t.1 fun i=>(((x.f 2 / 16:Nat):Int) - i).toNat) ⟨Ext.refl _,0,by omega,rfl,fun j hj=>by omega⟩ ?_
       rintro _ H4 ⟨x4,i,hi,rfl,hno⟩
       have sv4:=sv2.ext x4
       rw [sv4.lenE undEnts,za,hlen,zt,za,ze]
       refine ⟨fun hlt=>?_,fun hge=>?_⟩
       · have hst:∀ j,j<i+1↔j<i∨j=i:=fun j=>by omega
         obtain ⟨b,o,ha,hcl,_⟩:=sv4.el (hgt i (by omega))
         have c0:=hcl 0 (by omega)
         have c1:=hcl 1 (by omega)
         rw [Nat.add_zero,show (ZS (enS l x i))[0]?=some (.int .u16 (enS l x i).1) from rfl] at c0
         rw [show (ZS (enS l x i))[1]?=some (.string (enS l x i).2) from rfl] at c1
         have hl16:=hlt16 i
         rw [ha,za,zg,za,Nat.add_zero,c0,za,zA,za,ze]
         refine ⟨fun hz=>?_,fun hz=>?_⟩
         · rw [zk,za,zJ,zw (by omega)]
           refine ⟨⟨x4,i+1,by omega,rfl,fun j hj=>?_⟩,by simp only [zC]; omega⟩
           rcases (hst j).1 hj with e | e
           · exact hno j e
           · rw [e]; exact fun e2=>e2.1 (by omega)
         · have hz:(enS l x i).1≠0:=by omega
           rw [za,zg,za,Nat.add_zero,c0,za,zE,za,zw (by omega)]
           refine used29 (hf.ext (l2.ext0.trans x4)) ?_
           refine zT.mk (fun t H'=>H'=H4∧t.1=.bool (decide (¬ usedP fs (enS l x i).1∨(1<i∧((enS l x i).2=dotS∨(enS l x i).2=dotsS))))) ?_ ?_
           · rintro ⟨t,u⟩ H5 ⟨rfl,ht⟩
             simp only at ht
             subst ht
             rw [ze]
             refine ⟨fun hb1=>fin true (l2.ext0.trans x4) ⟨fun _=>hbad.2 (.inr ⟨i,by omega,hz,?_⟩),fun _=>rfl⟩,fun hb1=>?_⟩
             · rcases hb1 with e | e
               · exact .inl e
               · exact .inr (.inl e)
             · refine zy.mk (fun t H'=>H'=H5∧∃ j:Nat,j≤i∧t=(zm j,())∧∀ z,z<j→(enS l x z).2≠(enS l x i).2) (fun t _=>mi t.1 fun j=>(i - j).toNat) ⟨rfl,0,by omega,rfl,fun z hz=>by omega⟩ ?_
               rintro _ H6 ⟨rfl,j,hj,rfl,hnz⟩
               rw [zt,za,ze]
               refine ⟨fun hlt2=>?_,fun hge2=>?_⟩
               · obtain ⟨b',o',ha',hcl',_⟩:=sv4.el (hgt j (by omega))
                 have c1':=hcl' 1 (by omega)
                 rw [show (ZS (enS l x j))[1]?=some (.string (enS l x j).2) from rfl] at c1'
                 rw [ha',za,zg,za,c1',za,za,zg,za,c1,za,str_cmp,za,ze]
                 refine ⟨fun he=>fin true (l2.ext0.trans x4) ⟨fun _=>hbad.2 (.inr ⟨i,by omega,hz,.inr (.inr ⟨j,by omega,he⟩)⟩),fun _=>rfl⟩,fun hne=>?_⟩
                 rw [zk,za,zJ,zw (by omega)]
                 refine ⟨⟨rfl,j+1,by omega,rfl,fun z hz=>?_⟩,by simp only [zC]; omega⟩
                 by_cases e:z=j
                 · rw [e]; exact hne
                 · exact hnz z (by omega)
               · rw [zk,za,zJ,zw (by omega)]
                 refine ⟨⟨x4,i+1,by omega,rfl,fun z hz2=>?_⟩,by simp only [zC]; omega⟩
                 rcases (hst z).1 hz2 with e | e
                 · exact hno z e
                 · rw [e]
                   rintro ⟨_,e2 | e2 | ⟨q,e3,e4⟩⟩
                   · exact hb1 (.inl e2)
                   · exact hb1 (.inr e2)
                   · exact hnz q (by omega) e4
           · rw [zM,za,Z8]
             refine ⟨fun hu=>⟨rfl,?_⟩,fun hu=>?_⟩
             · rw [decide_eq_false_iff_not] at hu
               exact Z5 (.inl hu)
             · rw [decide_eq_true_eq] at hu
               rw [zN,za,ze]
               refine ⟨fun h1=>?_,fun h1=>⟨rfl,YP fun e=>?_⟩⟩
               · rw [za,zg,za,c1,za,str_cmp,za,ze]
                 refine ⟨fun hd=>⟨rfl,Z5 (.inr ⟨by omega,.inl hd⟩)⟩,fun hd=>?_⟩
                 rw [za,zg,za,c1,za,str_cmp,za]
                 refine ⟨rfl,y9 ⟨fun e=>.inr ⟨by omega,.inr e⟩,fun e=>?_⟩⟩
                 rcases e with e | ⟨_,e | e⟩
                 · exact absurd hu e
                 · exact absurd e hd
                 · exact e
               · rcases e with e | e
                 · exact e hu
                 · omega
       · refine fin false (l2.ext0.trans x4) ⟨fun e=>(by cases e),fun e=>?_⟩
         rcases hbad.1 e with e | ⟨j,hj,e⟩
         · exact absurd e hb
         · exact absurd e (hno j (by omega))
     · obtain ⟨b,o,ha,hcl,hrow⟩:=sv2.el (hgt 0 (by omega))
       have hr:=hrow 0 2 (by omega)
       rw [Nat.add_zero,Y0 (c:=ZS (enS l x 0)) (n:=2) rfl] at hr
       rw [show (Value.int .i64 0)=(.int .i64 ((0:Nat):Int)) from rfl,ha,za,hr,za,zg,za,l2.ld (i:=0) rfl,f0,za,zE,za,Zu (by omega) (by omega),buildEnt2,za,yq,eqEnt,Option.map_some,za]
       rw [show (!decide (enS l x 0=(x.i,dotS)))=decide (enS l x 0≠(x.i,dotS)) from by rw [Bool.eq_iff_iff]; simp,ze]
       refine ⟨fun hb=>⟨rfl,Z5 (.inl hb)⟩,fun hb=>?_⟩
       obtain ⟨b',o',ha',hcl',hrow'⟩:=sv2.el (hgt 1 (by omega))
       have c1:=hcl' 1 (by omega)
       rw [show (Value.int .i64 1)=(.int .i64 ((1:Nat):Int)) from rfl,ha',za,zg,za,c1,show (ZS (enS l x 1))[1]?=some (.string (enS l x 1).2) from rfl,za,str_ncmp,za]
       refine ⟨rfl,y9 ⟨fun e=>.inr e,fun e=>?_⟩⟩
       rcases e with e | e
       · exact absurd e hb
       · exact e
theorem slotsC29 (h:Lk H d dv B L I l) (hf:Fls H s fs) (hnd:NdOk fs) (k:∀ H' s' ps,Ext H H'→New H H' (.sl 251 2 s' (ps.map (fC 13)))→(ps=[]↔∀ x∈fs,¬ (x.f 0=2∧yt l fs x))→R s' H'):Fc Tryz.prog 156 #[zW d,s] H R:=by
 have hfl:=hf.len
 refine fn156 ?_
 simp only [sh156,Yi,zu,za]
 refine (Lo.start _ H:Lx H H []).flts fun p H1 e1 l1=>?_
 have l1:Lx H H1 [ye p 13 []]:=l1
 simp only [zc,zg,Nat.zero_add,Nat.add_zero,Nat.reduceAdd,za]
 refine zy.mk (fun t H'=>∃ (i:Nat) (ps:List Int),i≤fs.length∧t=(zm i,())∧ps.length≤i∧(ps=[]↔∀ y∈fs.take i,¬ (y.f 0=2∧yt l fs y))∧Lx H H' [ye p 13 ps])
   (fun t _=>mi t.1 fun i=>(fs.length - i).toNat) ⟨0,[],by omega,rfl,by simp,by simp,l1⟩ ?_
 rintro _ H2 ⟨i,ps,hi,rfl,hpl,hps,l2⟩
 rw [hf.row.lenE yD,za,List.length_map,zt,za,ze]
 refine ⟨fun hlt=>?_,fun hge=>?_⟩
 · have hil:i<fs.length:=by omega
   have hei:(fs.map flC)[i]?=some (flC fs[i]):=by rw [List.getElem?_map,List.getElem?_eq_getElem hil]; rfl
   have htk:fs.take (i+1)=fs.take i++[fs[i]]:=List.take_succ_eq_append_getElem hil
   have hmem:fs[i]∈fs:=List.getElem_mem hil
   generalize fs[i]=x at hei htk hmem
   have hst:=ids_step (y:=x) (ys:=[]) hps
   rw [← htk] at hst
   obtain ⟨b,o,ha,hcl,hrow⟩:=(hf.ext l2.ext0).row.el hei
   have hr:=hrow 0 18 (by omega)
   rw [Nat.add_zero,Y0 (c:=flC x) (n:=18) rfl] at hr
   rw [ha,za,zg,za,zg,za,Nat.add_zero,hcl 1 (by omega),show (flC x)[1]?=some (.int .u16 (x.f 0)) from rfl,za,zA,za,ze]
   refine ⟨fun hk=>?_,fun hk=>?_⟩
   · have hk:x.f 0=2:=by omega
     rw [za,hr,za]
     refine badSlots29 (h.ext l2.ext0) (hf.ext l2.ext0) hmem ((hnd x hmem).2 hk) fun H3 e3=>?_
     have l3:=l2.ext e3
     rw [ze]
     refine ⟨fun hb=>?_,fun hb=>?_⟩
     · obtain ⟨b,o,ha',hcl,hrow⟩:=(hf.ext l3.ext0).row.el hei
       have h0:=hcl 0 (by omega)
       rw [Nat.add_zero] at h0
       rw [← ha .i64,ha' .i64,za,zg,za,Nat.add_zero,h0,show (flC x)[0]?=some (zm x.i) from rfl,za]
       obtain ⟨O,ho,st⟩:=l3.call (i:=0) rfl
       refine flt_add ho (by omega) fun H11 O11 ps' hne hle s11 h11=>?_
       have l11:=st H11 _ O11 s11 h11
       rw [zk,za,zJ,zw (by omega)]
       refine ⟨⟨i+1,ps',by omega,rfl,by omega,?_,l11⟩,by simp only [zC]; omega⟩
       rw [← hst]
       exact ⟨fun e=>absurd e hne,fun e=>absurd ⟨hk,hb⟩ e.2⟩
     · rw [zk,za,zJ,zw (by omega)]
       refine ⟨⟨i+1,ps,by omega,rfl,by omega,?_,l3⟩,by simp only [zC]; omega⟩
       rw [← hst]
       exact ⟨fun e=>⟨e,fun e2=>hb e2.2⟩,fun e=>e.1⟩
   · rw [zk,za,zJ,zw (by omega)]
     refine ⟨⟨i+1,ps,by omega,rfl,by omega,?_,l2⟩,by simp only [zC]; omega⟩
     rw [← hst]
     exact ⟨fun e=>⟨e,fun e2=>hk (by omega)⟩,fun e=>e.1⟩
 · have ei:i=fs.length:=by omega
   subst ei
   rw [List.take_length] at hps
   obtain ⟨s',hg,l15⟩:=l2.fltEnd (i:=0) rfl
   rw [zo hg]
   show Pu (some s') _
   rw [za]
   exact k H2 s' ps l2.ext0 (l15.outN (i:=0) rfl) hps
theorem names29 (h:Lk H d dv B L I l) (hf:Fls H s fs) (hnd:NdOk fs) (k:∀ H' s',Ext H H'→New H H' (.sl 262 2 s' ((yu l fs).map nmC))→R s' H'):Fc Tryz.prog 157 #[zW d,s] H R:=by
 have hfl:=hf.len
 refine fn157 ?_
 simp only [sh157,zu]
 have l1:=(Lo.start _ H:Lx H H []).nilS 262 2
 refine zy.mk (fun t H'=>∃ (i:Nat) (v:Value),i≤fs.length∧t=(v,zm i,())∧Lx H H' [.sl 262 2 v ((yu l (fs.take i)).map nmC)])
   (fun t _=>mi t.2.1 fun i=>(fs.length - i).toNat) ⟨0,.slice none 0 0,by omega,rfl,l1⟩ ?_
 rintro _ H2 ⟨i,v,hi,rfl,l2⟩
 rw [hf.row.lenE yD,za,List.length_map,zt,za,ze]
 refine ⟨fun hlt=>?_,fun hge=>?_⟩
 · have hil:i<fs.length:=by omega
   have hei:(fs.map flC)[i]?=some (flC fs[i]):=by rw [List.getElem?_map,List.getElem?_eq_getElem hil]; rfl
   have htk:fs.take (i+1)=fs.take i++[fs[i]]:=List.take_succ_eq_append_getElem hil
   have hmem:fs[i]∈fs:=List.getElem_mem hil
   have hpl:=namesP_len l (fs:=fs.take i) fun y hy=>hnd y (List.mem_of_mem_take hy)
   rw [List.length_take] at hpl
   generalize fs[i]=x at hei htk hmem
   have hok:=hf.ok x hmem
   have hnx:=hnd x hmem
   have hsz:=hnx.1
   have hnext:yu l (fs.take (i+1))=yu l (fs.take i)++nmX l x:=by rw [htk,namesP_app,namesP_one]
   obtain ⟨b,o,ha,hcl,hrow⟩:=(hf.ext l2.ext0).row.el hei
   have hr:=hrow 0 18 (by omega)
   rw [Nat.add_zero,Y0 (c:=flC x) (n:=18) rfl] at hr
   refine zT.mk (fun t H'=>H'=H2∧t.1=.bool (decide (¬ isTree x))) ?_ ?_
   · rintro ⟨t,u⟩ H3 ⟨rfl,ht⟩
     simp only at ht
     subst ht
     rw [ze]
     refine ⟨fun hb=>?_,fun hb=>?_⟩
     · rw [zk,za,zJ,zw (by omega)]
       refine ⟨⟨i+1,v,by omega,rfl,?_⟩,by simp only [zC]; omega⟩
       rw [hnext]
       unfold nmX
       rw [if_neg hb,List.append_nil]; exact l2
     · have hb:=Classical.not_not.1 hb
       have hxx:nmX l x=nmD l x (x.f 2 / 16):=by unfold nmX; rw [if_pos hb]
       have h32:=hnx.2 hb.1 hb.2
       rw [ha,za,hr,za]
       refine slots29 (h.ext l2.ext0) ((hf.sub x hmem).ext l2.ext0) (hf.few x hmem) hok fun H4 sv e4 n4=>?_
       have l4:=l2.new e4 n4
       have hlen:((ZQ l x (x.f 2 / 16)).map ZS).length=x.f 2 / 16:=by rw [List.length_map,slotsP_len]
       have hgt:∀ i,i<x.f 2 / 16→((ZQ l x (x.f 2 / 16)).map ZS)[i]?=some (ZS (enS l x i)):=fun i hi=>by rw [List.getElem?_map,slotsP_get l x hi]; rfl
       have hlt16:∀ i,(enS l x i).1<65536:=fun i=>slotE_lt (rawS_is h.is x i)
       rw [show zf (.tuple #[sv,.bool (decide (YZ l x (x.f 2 / 16)))]) 0=some sv from rfl,za,show zf (.tuple #[sv,.bool (decide (YZ l x (x.f 2 / 16)))]) 1=some (.bool (decide (YZ l x (x.f 2 / 16)))) from rfl,za]
       refine zy.mk (fun t H'=>∃ (j:Nat) (v:Value),2≤j∧j≤x.f 2 / 16∧t=(v,zm j,())∧Lx H H' [.sl 262 2 v ((yu l (fs.take i)++nmD l x j).map nmC),.sl 241 2 sv ((ZQ l x (x.f 2 / 16)).map ZS)])
         (fun t _=>mi t.2.1 fun j=>(((x.f 2 / 16:Nat):Int) - j).toNat) ⟨2,v,by omega,by omega,rfl,by rw [nmD_two l x 2 (by omega),List.append_nil]; exact l4⟩ ?_
       rintro _ H5 ⟨j,v5,hj1,hj2,rfl,l5⟩
       have sv5:=(l5.sv (i:=1) rfl).sr
       rw [sv5.lenE undEnts,za,hlen,zt,za,ze]
       refine ⟨fun hlt2=>?_,fun hge2=>?_⟩
       · obtain ⟨b2,o2,ha2,hcl2,_⟩:=sv5.el (hgt j (by omega))
         have c0:=hcl2 0 (by omega)
         rw [Nat.add_zero,show (ZS (enS l x j))[0]?=some (.int .u16 (enS l x j).1) from rfl] at c0
         have hl16:=hlt16 j
         have hsu:=nmD_succ l x j
         have hle:=nmD_len l x j
         rw [ha2,za,zg,za,Nat.add_zero,c0,za,zx,za,ze]
         refine ⟨fun hne=>?_,fun he=>?_⟩
         · rw [if_pos ⟨hj1,by omega⟩] at hsu
           obtain ⟨b3,o3,ha3,hcl3,_⟩:=(hf.ext l5.ext0).row.el hei
           have q0:=hcl3 0 (by omega)
           rw [Nat.add_zero] at q0
           rw [← ha .i64,ha3 .i64,za,zg,za,Nat.add_zero,q0,show (flC x)[0]?=some (zm x.i) from rfl,za,za,zg,za,Nat.add_zero,c0,za,zE,za,zw (by omega),buildNm,za]
           refine l5.appO elNm eNm_f (i:=0) rfl (by rfl) (by omega) (by omega) rfl (nmC_ok _) (by rw [List.length_map,List.length_append]; omega) fun s' H6 l6=>?_
           rw [zk,za,zJ,zw (by omega)]
           refine ⟨⟨j+1,s',by omega,by omega,rfl,?_⟩,by simp only [zC]; omega⟩
           rw [hsu,← List.append_assoc,List.map_append]
           exact l6
         · rw [if_neg (fun e=>by omega),List.append_nil] at hsu
           rw [zk,za,zJ,zw (by omega)]
           refine ⟨⟨j+1,v5,by omega,by omega,rfl,?_⟩,by simp only [zC]; omega⟩
           rw [hsu]; exact l5
       · have ej:j=x.f 2 / 16:=by omega
         subst ej
         rw [zk,za,zJ,zw (by omega)]
         refine ⟨⟨i+1,v5,by omega,rfl,?_⟩,by simp only [zC]; omega⟩
         rw [hnext,hxx]
         exact l5.takeN 1
   · rw [ha,za,zg,za,zg,za,Nat.add_zero,hcl 1 (by omega),show (flC x)[1]?=some (.int .u16 (x.f 0)) from rfl,za,zx,za,ze]
     refine ⟨fun hk=>⟨rfl,Z5 fun e=>hk (by have:=e.1; omega)⟩,fun hk=>?_⟩
     rw [za,zg,za,zg,za,hcl 2 (by omega),show (flC x)[2]?=some (.int .u16 (x.f 1)) from rfl,za,zA,za]
     refine ⟨rfl,y9 ⟨fun e e2=>e2.2 (by omega),fun e=>?_⟩⟩
     by_cases e2:x.f 1=0
     · omega
     · exact absurd ⟨by omega,e2⟩ e
 · have ei:i=fs.length:=by omega
   subst ei
   rw [List.take_length] at l2
   exact k H2 v l2.ext0 (l2.outN (i:=0) rfl)
end
theorem exists_least {Q:Nat→Prop} (h:∃ m,Q m):∃ m,Q m∧∀ k,Q k→m≤k:=by
 obtain ⟨m,hm⟩:=h
 induction m using Nat.strongRecOn with
 | _ m ih=>
   by_cases h2:∃ k,k<m∧Q k
   · obtain ⟨k,hk,hq⟩:=h2
     exact ih k hk hq
   · exact ⟨m,hm,fun k hk=>Nat.le_of_not_lt fun hlt=>h2 ⟨k,hlt,hk⟩⟩
noncomputable def leastM (Q:Nat→Prop):Nat:=if h:∃ m,Q m then Classical.choose (exists_least h) else 0
theorem leastM_is {Q:Nat→Prop} {m:Nat} (h:Q m):Q (leastM Q)∧leastM Q≤m:=by
 have h0:∃ m,Q m:=⟨m,h⟩
 unfold leastM
 rw [dif_pos h0]
 obtain ⟨h1,h2⟩:=Classical.choose_spec (exists_least h0)
 exact ⟨h1,h2 m h⟩
def parP (ns:List Nm) (a:Nat):Nat × Nat:=ns.foldl (fun p x=>if x.2=a then (x.1,p.2+1) else p) (0,0)
theorem parP_snoc (ns:List Nm) (x:Nm) (a:Nat):parP (ns++[x]) a=if x.2=a then (x.1,(parP ns a).2+1) else parP ns a:=by
 unfold parP; rw [List.foldl_append]; rfl
theorem parP_take (ns:List Nm) (a:Nat):∀ n,n≤ns.length→(parP (ns.take n) a).2≤n
 | 0,_=>by simp [parP]
 | n+1,h=>by
   have ih:=parP_take ns a n (by omega)
   rw [List.take_succ_eq_append_getElem (by omega),parP_snoc]
   split
   · show (parP (ns.take n) a).2+1≤n+1; omega
   · omega
noncomputable def kindP (fs:List Fl) (a:Nat):Nat:=((fs.find? fun x=>decide (x.i=a)).map (·.f 0)).getD 0
inductive Rch (ns:List Nm):Nat→Prop where
 | root:Rch ns 1
 | step {y:Nm}:y∈ns→Rch ns y.1→Rch ns y.2
def bC (b:Bool):Array Value:=#[.bool b]
def bN (c:Nat→Bool) (n:Nat):List (Array Value):=(List.range n).map fun b=>bC (c b)
theorem bN_len (c:Nat→Bool) (n:Nat):(bN c n).length=n:=by simp [bN]
theorem bN_get {c:Nat→Bool} {n b:Nat} (h:b<n):(bN c n)[b]?=some (bC (c b)):=by
 unfold bN; rw [List.getElem?_map,List.getElem?_range h]; rfl
theorem bN_set (c:Nat→Bool) (n y:Nat):(bN c n).set y (bC true)=bN (fun b=>if b=y then true else c b) n:=by
 apply List.ext_getElem?
 intro b
 by_cases hb:b<n
 · rw [bN_get hb]
   by_cases e:y=b
   · subst e
     rw [List.getElem?_set_self (by rw [bN_len]; exact hb),if_pos rfl]
   · rw [List.getElem?_set_ne e,bN_get hb,if_neg (Ne.symm e)]
 · rw [List.getElem?_eq_none (by rw [List.length_set,bN_len]; omega),List.getElem?_eq_none (by rw [bN_len]; omega)]
theorem bN_false (n:Nat):bN (fun _=>false) n=List.replicate n #[.bool false]:=by
 unfold bN; apply List.ext_getElem? ; intro b; by_cases hb:b<n
 · rw [List.getElem?_map,List.getElem?_range hb,List.getElem?_replicate,if_pos hb]; rfl
 · rw [List.getElem?_eq_none (by simp; omega),List.getElem?_eq_none (by simp; omega)]
def leftC (c:Nat→Bool):Nat→Nat
 | 0=>0
 | n+1=>leftC c n+if c n then 0 else 1
theorem leftC_set (c:Nat→Bool) {y:Nat} (hy:c y=false):∀ n,y<n→leftC (fun b=>if b=y then true else c b) n+1=leftC c n
 | 0,h=>by omega
 | n+1,h=>by
   have e1:leftC (fun b=>if b=y then true else c b) (n+1)=leftC (fun b=>if b=y then true else c b) n+if (if n=y then true else c n) then 0 else 1:=rfl
   have e2:leftC c (n+1)=leftC c n+if c n then 0 else 1:=rfl
   rw [e1,e2]
   by_cases hn:n=y
   · subst hn
     rw [if_pos rfl,if_pos rfl,hy]
     have key:∀ m,m≤n→leftC (fun b=>if b=n then true else c b) m=leftC c m:=by
       intro m
       induction m with
       | zero=>intro _; rfl
       | succ m ih=>
         intro hm
         show leftC (fun b=>if b=n then true else c b) m+(if (if m=n then true else c m) then 0 else 1)=leftC c m+if c m then 0 else 1
         rw [ih (by omega),show (if m=n then true else c m)=c m from if_neg (by omega)]
     rw [key n (Nat.le_refl _)]
     simp
   · rw [if_neg hn]
     have:=leftC_set c hy n (by omega)
     omega
section
variable {H:Hp} {R:Value→Hp→Prop} {d:Nat} {dv:Value} {B L I:Int} {l:List (Int × Blk)} {s nv:Value} {fs:List Fl} {ns:List Nm}
theorem parent29 (hn:Sr 2 H nv (ns.map nmC)) (hlen:ns.length<1099511627776) {a:Nat} (k:R (.tuple #[zm (parP ns a).1,zm (parP ns a).2]) H):Fc Tryz.prog 186 #[nv,zm a] H R:=by
 refine fn186 ?_
 simp only [sh186,zu]
 refine zy.mk (fun t H'=>H'=H∧∃ i:Nat,i≤ns.length∧t=(zm (parP (ns.take i) a).1,zm (parP (ns.take i) a).2,zm i,())) (fun t _=>mi t.2.2.1 fun i=>(ns.length - i).toNat) ⟨rfl,0,by omega,rfl⟩ ?_
 rintro _ H3 ⟨rfl,i,hi,rfl⟩
 rw [hn.lenE undNms,za,List.length_map,zt,za,ze]
 refine ⟨fun hlt=>?_,fun hge=>?_⟩
 · have hil:i<ns.length:=by omega
   have hei:(ns.map nmC)[i]?=some (nmC ns[i]):=by rw [List.getElem?_map,List.getElem?_eq_getElem hil]; rfl
   have htk:ns.take (i+1)=ns.take i++[ns[i]]:=List.take_succ_eq_append_getElem hil
   have hle:=parP_take ns a i (by omega)
   generalize ns[i]=x at hei htk
   have hsn:=parP_snoc (ns.take i) x a
   rw [← htk] at hsn
   obtain ⟨b,o,ha,hcl,_⟩:=hn.el hei
   have c0:=hcl 0 (by omega)
   rw [Nat.add_zero] at c0
   rw [ha,za,zg,za,hcl 1 (by omega),show (nmC x)[1]?=some (zm x.2) from rfl,za,zA,za,ze]
   refine ⟨fun he=>?_,fun hne=>?_⟩
   · rw [if_pos (by omega)] at hsn
     rw [za,zg,za,Nat.add_zero,c0,show (nmC x)[0]?=some (zm x.1) from rfl,za,zk,za,zJ,zw (by omega),zk,za,zJ,zw (by omega)]
     refine ⟨⟨rfl,i+1,by omega,?_⟩,by simp only [zC]; omega⟩
     rw [hsn]; rfl
   · rw [if_neg (by omega)] at hsn
     rw [zk,za,zJ,zw (by omega)]
     refine ⟨⟨rfl,i+1,by omega,?_⟩,by simp only [zC]; omega⟩
     rw [hsn]; rfl
 · have ei:i=ns.length:=by omega
   subst ei
   rw [List.take_length]; exact k
theorem kind29 (hf:Fls H s fs) {a:Nat} (k:R (.int .u16 (kindP fs a)) H):Fc Tryz.prog 187 #[s,zm a] H R:=by
 have hfl:=hf.len
 refine fn187 ?_
 simp only [sh187,zu]
 refine zy.mk (fun t H'=>H'=H∧∃ i:Nat,i≤fs.length∧t=(zm i,())∧∀ x∈fs.take i,x.i≠a) (fun t _=>mi t.1 fun i=>(fs.length - i).toNat) ⟨rfl,0,by omega,rfl,by simp⟩ ?_
 rintro _ H3 ⟨rfl,i,hi,rfl,hno⟩
 rw [hf.row.lenE yD,za,List.length_map,zt,za,ze]
 refine ⟨fun hlt=>?_,fun hge=>?_⟩
 · have hil:i<fs.length:=by omega
   have hei:(fs.map flC)[i]?=some (flC fs[i]):=by rw [List.getElem?_map,List.getElem?_eq_getElem hil]; rfl
   have htk:fs.take (i+1)=fs.take i++[fs[i]]:=List.take_succ_eq_append_getElem hil
   have hdr:fs.drop i=fs[i] :: fs.drop (i+1):=List.drop_eq_getElem_cons hil
   generalize fs[i]=x at hei htk hdr
   obtain ⟨b,o,ha,hcl,_⟩:=hf.row.el hei
   have h0:=hcl 0 (by omega)
   rw [Nat.add_zero] at h0
   rw [ha,za,zg,za,Nat.add_zero,h0,show (flC x)[0]?=some (zm x.i) from rfl,za,zA,za,ze]
   refine ⟨fun he=>?_,fun hne=>?_⟩
   · rw [za,zg,za,zg,za,Nat.add_zero,hcl 1 (by omega),show (flC x)[1]?=some (.int .u16 (x.f 0)) from rfl,za]
     have e:kindP fs a=x.f 0:=by
       unfold kindP
       rw [show fs=fs.take i++fs.drop i from (List.take_append_drop i fs).symm,List.find?_append,List.find?_eq_none.2 (fun y hy=>by simpa using hno y hy),hdr,List.find?_cons_of_pos (by simpa using (by omega:x.i=a))]
       rfl
     rw [← e]; exact k
   · rw [zk,za,zJ,zw (by omega)]
     refine ⟨⟨rfl,i+1,by omega,rfl,fun y hy=>?_⟩,by simp only [zC]; omega⟩
     rw [htk] at hy
     rcases List.mem_append.1 hy with h1 | h1
     · exact hno y h1
     · rw [List.mem_singleton.1 h1]; omega
 · have ei:i=fs.length:=by omega
   subst ei
   rw [List.take_length] at hno
   have e:kindP fs a=0:=by
     unfold kindP
     rw [List.find?_eq_none.2 (fun y hy=>by simpa using hno y hy)]; rfl
   rw [e] at k; exact k
set_option maxHeartbeats 1000000 in
theorem reached29 (h:Lk H d dv B L I l) (hn:Sr 2 H nv (ns.map nmC)) (hlen:ns.length<1099511627776) (hin:∀ y∈ns,(y.1:Int)≤I∧(y.2:Int)≤I) (k:∀ H' s',Ext H H'→New H H' (.sl 4 1 s' (bN (fun i=>decide (Rch ns i)) (I.toNat+1)))→R s' H'):Fc Tryz.prog 185 #[zW d,nv] H R:=by
 obtain ⟨gL1,gL2,gI1,gI2,gB1,gB2,gD⟩:=id h.ok
 have hI:(zp B L I).I=I:=rfl
 obtain ⟨In,eI⟩:∃ In:Nat,I=In:=⟨I.toNat,by omega⟩
 have eIt:I.toNat=In:=by omega
 rw [eIt] at k
 refine fn185 ?_
 simp only [sh185,zu,zc,zg,Nat.zero_add,Nat.add_zero,Nat.reduceAdd,za]
 rw [zo h.top,lkC4,za,hI,eI,zk,za,zJ,zw (by omega)]
 refine (Lo.start _ H:Lx H H []).make elBo eBo_f (by omega) (by omega) (by omega) fun b0 H1 _ l1=>?_
 rw [eBo_z,← bN_false] at l1
 generalize hsv:Value.slice (some ⟨b0,0,none⟩) (In+1) (In+1)=sv at l1
 have l1:Lx H H1 [.sl 4 1 sv (bN (fun _=>false) (In+1))]:=l1
 refine l1.put1 (i:=0) (j:=1) (u:=.bool true) rfl (bN_get (by omega)) (by unfold zG; rw [← Array.all_toList]; rfl) rfl rfl fun H2 l2=>?_
 have l2:Lx H H2 [.sl 4 1 sv (bN (fun b=>if b=1 then true else false) (In+1))]:=by rw [← bN_set]; exact l2
 let Q:Tup 1→Hp→Nat→Prop:=fun t H' m=>∃ (mo:Bool) (c:Nat→Bool),t=(.bool mo,())∧m=2*leftC c (In+1)+(if mo then 1 else 0)∧c 1=true∧(∀ i,c i=true→Rch ns i)∧(mo=false→∀ y∈ns,c y.1=true→c y.2=true)∧Lx H H' [.sl 4 1 sv (bN c (In+1))]
 refine zy.mk (fun t H'=>∃ m,Q t H' m) (fun t H'=>leastM (Q t H')) ⟨_,true,(fun b=>if b=1 then true else false),rfl,rfl,rfl,fun i hi=>?_,fun e=>(by cases e),l2⟩ ?_
 · have:i=1:=by
     by_cases e:i=1
     · exact e
     · simp [e] at hi
   rw [this]; exact .root
 rintro t H3 ⟨m,hm⟩
 obtain ⟨hq,-⟩:=leastM_is hm
 generalize leastM (Q t H3)=m0 at hq
 obtain ⟨mo,c,rfl,em,h1,hc,hmo,l3⟩:=hq
 rw [ZB]
 refine ⟨fun e=>?_,fun e=>?_⟩
 · subst e
   rw [if_pos rfl] at em
   refine zy.mk (fun t H'=>∃ (j:Nat) (mo:Bool) (c':Nat→Bool),j≤ns.length∧t=(.bool mo,zm j,())∧c' 1=true∧(∀ i,c' i=true→Rch ns i)∧leftC c' (In+1)+(if mo then 1 else 0)≤leftC c (In+1)∧(mo=false→∀ y∈ns.take j,c' y.1=true→c' y.2=true)∧Lx H H' [.sl 4 1 sv (bN c' (In+1))])
     (fun t _=>mi t.2.1 fun j=>(ns.length - j).toNat) ⟨0,false,c,by omega,rfl,h1,hc,by simp,by simp,l3⟩ ?_
   rintro _ H4 ⟨j,mo,c',hj,rfl,h1',hc',hle,hst,l4⟩
   have hn4:=hn.ext l4.ext0
   rw [hn4.lenE undNms,za,List.length_map,zt,za,ze]
   refine ⟨fun hlt=>?_,fun hge=>?_⟩
   · have hil:j<ns.length:=by omega
     have hei:(ns.map nmC)[j]?=some (nmC ns[j]):=by rw [List.getElem?_map,List.getElem?_eq_getElem hil]; rfl
     have htk:ns.take (j+1)=ns.take j++[ns[j]]:=List.take_succ_eq_append_getElem hil
     have hmem:ns[j]∈ns:=List.getElem_mem hil
     generalize ns[j]=y at hei htk hmem
     have hy:=hin y hmem
     obtain ⟨b,o,ha,hcl,_⟩:=hn4.el hei
     have c0:=hcl 0 (by omega)
     rw [Nat.add_zero,show (nmC y)[0]?=some (zm y.1) from rfl] at c0
     have c1:=hcl 1 (by omega)
     rw [show (nmC y)[1]?=some (zm y.2) from rfl] at c1
     have hg1:=bN_get (c:=c') (n:=In+1) (b:=y.1) (by omega)
     have hg2:=bN_get (c:=c') (n:=In+1) (b:=y.2) (by omega)
     refine zT.mk (fun t H'=>H'=H4∧t.1=.bool (c' y.1 && !c' y.2)) ?_ ?_
     · rintro ⟨t,u⟩ H5 ⟨rfl,ht⟩
       simp only at ht
       subst ht
       rw [ZB]
       refine ⟨fun hb=>?_,fun hb=>?_⟩
       · rw [Bool.and_eq_true,Bool.not_eq_true'] at hb
         rw [ha,za,zg,za,c1,za]
         refine l4.put1 (i:=0) (u:=.bool true) rfl hg2 (by unfold zG; rw [← Array.all_toList]; rfl) rfl rfl fun H6 l6=>?_
         have l6:Lx H H6 [.sl 4 1 sv (bN (fun b=>if b=y.2 then true else c' b) (In+1))]:=by rw [← bN_set]; exact l6
         have hlf:=leftC_set c' hb.2 (In+1) (by omega)
         rw [zk,za,zJ,zw (by omega)]
         refine ⟨⟨j+1,true,_,by omega,rfl,?_,fun i hi=>?_,?_,fun e=>(by cases e),l6⟩,by simp only [zC]; omega⟩
         · by_cases e:1=y.2
           · rw [if_pos e]
           · rw [if_neg e]; exact h1'
         · by_cases e:i=y.2
           · rw [e]; exact .step hmem (hc' _ hb.1)
           · rw [if_neg e] at hi; exact hc' i hi
         · simp only [if_true]
           split at hle <;> omega
       · rw [zk,za,zJ,zw (by omega)]
         refine ⟨⟨j+1,mo,c',by omega,rfl,h1',hc',hle,fun e z hz hz1=>?_,l4⟩,by simp only [zC]; omega⟩
         rw [htk] at hz
         rcases List.mem_append.1 hz with h3 | h3
         · exact hst e z h3 hz1
         · rw [List.mem_singleton.1 h3] at hz1 ⊢
           rw [hz1] at hb
           simpa using hb
     · have svr:=(l4.sv (i:=0) rfl).sr
       obtain ⟨b1,o1,ha1,hcl1,_⟩:=svr.el hg1
       have d0:=hcl1 0 (by omega)
       rw [Nat.add_zero,show (bC (c' y.1))[0]?=some (.bool (c' y.1)) from rfl] at d0
       rw [ha,za,zg,za,Nat.add_zero,c0,za,ha1,za,d0,za,ZB]
       refine ⟨fun hb=>?_,fun hb=>⟨rfl,by rw [hb]; rfl⟩⟩
       obtain ⟨b2,o2,ha2,hcl2,_⟩:=svr.el hg2
       have d1:=hcl2 0 (by omega)
       rw [Nat.add_zero,show (bC (c' y.2))[0]?=some (.bool (c' y.2)) from rfl] at d1
       rw [za,zg,za,c1,za,ha2,za,d1,za,zM,za]
       exact ⟨rfl,by rw [hb]; rfl⟩
   · have ej:j=ns.length:=by omega
     subst ej
     rw [List.take_length] at hst
     have hq:Q (.bool mo,()) H4 (2*leftC c' (In+1)+(if mo then 1 else 0)):=⟨mo,c',rfl,rfl,h1',hc',hst,l4⟩
     refine ⟨⟨_,hq⟩,Nat.lt_of_le_of_lt (leastM_is hq).2 ?_⟩
     rw [em]
     split at hle <;> simp_all <;> omega
 · have e2:bN c (In+1)=bN (fun i=>decide (Rch ns i)) (In+1):=by
     have:c=fun i=>decide (Rch ns i):=by
       funext i
       rw [Bool.eq_iff_iff,decide_eq_true_eq]
       refine ⟨hc i,fun hr=>?_⟩
       induction hr with
       | root=>exact h1
       | step hy _ ih=>exact hmo e _ hy ih
     rw [this]
   rw [e2] at l3
   exact k H3 sv l3.ext0 (l3.outN (i:=0) rfl)
end
def yC (l:List (Int × Blk)) (ns:List Nm) (x:Fl):Prop:=
 isTree x∧if x.i=1 then (parP ns 1).2≠0∨(enS l x 1).1≠1 else (parP ns x.i).2≠1∨(enS l x 1).1≠(parP ns x.i).1∨¬ Rch ns x.i
noncomputable def subsP (fs:List Fl) (a:Nat) (ns:List Nm):Nat:=ns.countP fun y=>decide (y.1=a∧kindP fs y.2=2)
theorem subsP_snoc (fs:List Fl) (a:Nat) (ns:List Nm) (y:Nm):subsP fs a (ns++[y])=subsP fs a ns+if y.1=a∧kindP fs y.2=2 then 1 else 0:=by
 unfold subsP
 rw [List.countP_append,List.countP_singleton]
 simp only [decide_eq_true_eq]
theorem subsP_le (fs:List Fl) (a:Nat) (ns:List Nm):subsP fs a ns≤ns.length:=List.countP_le_length
noncomputable def linksP (fs:List Fl) (ns:List Nm) (x:Fl):Nat:=if isTree x then 2+subsP fs x.i ns else (parP ns x.i).2
theorem zeroFile:zD Tryz.prog 192=some (.agg (flC ⟨0,fun _=>0,.slice none 0 0,[]⟩)):=by kernel_rfl
section
variable {H:Hp} {R:Value→Hp→Prop} {d:Nat} {dv:Value} {B L I:Int} {l:List (Int × Blk)} {s nv:Value} {fs:List Fl} {ns:List Nm}
theorem Fls.okC (hf:Fls H s fs) {x:Fl} (hx:x∈fs):zG (flC x):=by
 obtain ⟨b,c,e⟩:=(hf.sub x hx).len
 exact flC_ok e
set_option maxHeartbeats 1000000 in
theorem tree29 (h:Lk H d dv B L I l) (hf:Fls H s fs) (hnd:NdOk fs) (hI:∀ x∈fs,(x.i:Int)≤I) (hn:Sr 2 H nv (ns.map nmC)) (hlen:ns.length<1099511627776) (hin:∀ y∈ns,(y.1:Int)≤I∧(y.2:Int)≤I) (k:∀ H' s' ps,Ext H H'→New H H' (.sl 251 2 s' (ps.map (fC 14)))→(ps=[]↔∀ x∈fs,¬ yC l ns x)→R s' H'):Fc Tryz.prog 158 #[zW d,s,nv] H R:=by
 have hfl:=hf.len
 obtain ⟨gL1,gL2,gI1,gI2,gB1,gB2,gD⟩:=id h.ok
 refine fn158 ?_
 simp only [sh158,Yi,zeroFile,zu,za]
 refine (Lo.start _ H:Lx H H []).flts fun p H1 e1 l1=>?_
 refine reached29 (h.ext l1.ext0) (hn.ext l1.ext0) hlen hin fun H2 rv e2 n2=>?_
 have l2:Lx H H2 [ye p 14 [],.sl 4 1 rv (bN (fun i=>decide (Rch ns i)) (I.toNat+1))]:=l1.new e2 n2
 refine zy.mk (fun t H'=>∃ (i:Nat) (ps:List Int),i≤fs.length∧t=(zm i,())∧ps.length≤i∧(ps=[]↔∀ y∈fs.take i,¬ yC l ns y)∧Lx H H' [ye p 14 ps,.sl 4 1 rv (bN (fun i=>decide (Rch ns i)) (I.toNat+1))])
   (fun t _=>mi t.1 fun i=>(fs.length - i).toNat) ⟨0,[],by omega,rfl,by simp,by simp,l2⟩ ?_
 rintro _ H3 ⟨i,ps,hi,rfl,hpl,hps,l3⟩
 rw [hf.row.lenE yD,za,List.length_map,zt,za,ze]
 refine ⟨fun hlt=>?_,fun hge=>?_⟩
 · have hil:i<fs.length:=by omega
   have hei:(fs.map flC)[i]?=some (flC fs[i]):=by rw [List.getElem?_map,List.getElem?_eq_getElem hil]; rfl
   have htk:fs.take (i+1)=fs.take i++[fs[i]]:=List.take_succ_eq_append_getElem hil
   have hmem:fs[i]∈fs:=List.getElem_mem hil
   generalize fs[i]=x at hei htk hmem
   have hst:=ids_step (y:=x) (ys:=[]) hps
   rw [← htk] at hst
   have hxI:=hI x hmem
   have hnx:=hnd x hmem
   obtain ⟨b,o,ha,hcl,hrow⟩:=(hf.ext l3.ext0).row.el hei
   have hr:=hrow 0 18 (by omega)
   rw [Nat.add_zero,Y0 (c:=flC x) (n:=18) rfl] at hr
   have f0:(flC x)[0]?=some (zm x.i):=rfl
   have f1:(flC x)[1]?=some (.int .u16 (x.f 0)):=rfl
   have f2:(flC x)[2]?=some (.int .u16 (x.f 1)):=rfl
   rw [ha,za,hr,za]
   refine l3.boxA fun b1 H4 _ l4=>?_
   refine l4.stAll (i:=2) (vs:=flC x) rfl rfl rfl (hf.okC hmem) fun H5 l5=>?_
   have l5:Lx H H5 [ye p 14 ps,.sl 4 1 rv (bN (fun i=>decide (Rch ns i)) (I.toNat+1)),.box b1 (flC x) 192]:=l5
   simp only [zc,zg,Nat.zero_add,Nat.add_zero,Nat.reduceAdd,za]
   have keep:∀ {H':Hp} {l':List Ob},¬ yC l ns x→Lx H H' ([ye p 14 ps,.sl 4 1 rv (bN (fun i=>decide (Rch ns i)) (I.toNat+1))]++l')→Pu (zn (some (.int .i64)) .add (zm i) (.int .i64 1)) fun x14=>(fun (t:Tup 1) H'=>(∃ (i:Nat) (ps:List Int),i≤fs.length∧t=(zm i,())∧ps.length≤i∧(ps=[]↔∀ y∈fs.take i,¬ yC l ns y)∧Lx H H' [ye p 14 ps,.sl 4 1 rv (bN (fun i=>decide (Rch ns i)) (I.toNat+1))])∧mi t.1 (fun i=>(fs.length - i).toNat)<mi (zm i) (fun i=>(fs.length - i).toNat)) (x14,()) H':=by
     intro H' l' hb l6
     rw [zk,za,zJ i,zw (v:=i+1) (by omega)]
     refine ⟨⟨i+1,ps,by omega,rfl,by omega,?_,l6.take⟩,by simp only [zC]; omega⟩
     rw [← hst]
     exact ⟨fun e=>⟨e,hb⟩,fun e=>e.1⟩
   have more:∀ {H':Hp} {l':List Ob} {n:Int},yC l ns x→Lx H H' ([ye p 14 ps,.sl 4 1 rv (bN (fun i=>decide (Rch ns i)) (I.toNat+1))]++l')→Fc Tryz.prog 180 #[zW p,zm n] H' fun _ H''=>Pu (zn (some (.int .i64)) .add (zm i) (.int .i64 1)) fun x14=>(fun (t:Tup 1) H'=>(∃ (i:Nat) (ps:List Int),i≤fs.length∧t=(zm i,())∧ps.length≤i∧(ps=[]↔∀ y∈fs.take i,¬ yC l ns y)∧Lx H H' [ye p 14 ps,.sl 4 1 rv (bN (fun i=>decide (Rch ns i)) (I.toNat+1))])∧mi t.1 (fun i=>(fs.length - i).toNat)<mi (zm i) (fun i=>(fs.length - i).toNat)) (x14,()) H'':=by
     intro H' l' n hb l6
     obtain ⟨O,ho,st⟩:=(l6.take).call (i:=0) rfl
     refine flt_add ho (by omega) fun H11 O11 ps' hne hle s11 h11=>?_
     have l11:=st H11 _ O11 s11 h11
     rw [zk,za,zJ i,zw (v:=i+1) (by omega)]
     refine ⟨⟨i+1,ps',by omega,rfl,by omega,?_,l11⟩,by simp only [zC]; omega⟩
     rw [← hst]
     exact ⟨fun e=>absurd e hne,fun e=>absurd hb e.2⟩
   refine zT.mk (fun t H'=>H'=H5∧t.1=.bool (decide (¬ isTree x))) ?_ ?_
   · rintro ⟨t,u⟩ H6 ⟨rfl,ht⟩
     simp only at ht
     subst ht
     rw [ze]
     refine ⟨fun hb=>keep (l':=[_]) (fun e=>hb e.1) l5,fun hb=>?_⟩
     have hb:=Classical.not_not.1 hb
     have h32:=hnx.2 hb.1 hb.2
     rw [l5.ldAll (i:=2) (n:=18) rfl rfl,za]
     refine slots29 (h.ext l5.ext0) ((hf.sub x hmem).ext l5.ext0) (hf.few x hmem) (hf.ok x hmem) fun H7 sv e7 n7=>?_
     have l7:=l5.new e7 n7
     have l7:Lx H H7 [ye p 14 ps,.sl 4 1 rv (bN (fun i=>decide (Rch ns i)) (I.toNat+1)),.box b1 (flC x) 192,.sl 241 2 sv ((ZQ l x (x.f 2 / 16)).map ZS)]:=l7
     have hgt:((ZQ l x (x.f 2 / 16)).map ZS)[1]?=some (ZS (enS l x 1)):=by rw [List.getElem?_map,slotsP_get l x (by omega)]; rfl
     have hl16:(enS l x 1).1<65536:=slotE_lt (rawS_is h.is x 1)
     obtain ⟨b2,o2,ha2,hcl2,_⟩:=(l7.sv (i:=3) rfl).sr.el hgt
     have c0:=hcl2 0 (by omega)
     rw [Nat.add_zero,show (ZS (enS l x 1))[0]?=some (.int .u16 (enS l x 1).1) from rfl] at c0
     rw [show zf (.tuple #[sv,.bool (decide (YZ l x (x.f 2 / 16)))]) 0=some sv from rfl,za,show zf (.tuple #[sv,.bool (decide (YZ l x (x.f 2 / 16)))]) 1=some (.bool (decide (YZ l x (x.f 2 / 16)))) from rfl,za]
     rw [l7.ld (i:=2) rfl,f0,za]
     refine parent29 (hn.ext l7.ext0) hlen ?_
     have hpt:=parP_take ns x.i ns.length (Nat.le_refl _)
     rw [List.take_length] at hpt
     rw [show zf (.tuple #[zm (parP ns x.i).1,zm (parP ns x.i).2]) 0=some (zm (parP ns x.i).1) from rfl,za,show zf (.tuple #[zm (parP ns x.i).1,zm (parP ns x.i).2]) 1=some (zm (parP ns x.i).2) from rfl,za,l7.ld (i:=2) rfl,f0,za,zA,za,ze]
     refine ⟨fun hx1=>?_,fun hx1=>?_⟩
     · have hx1:x.i=1:=by omega
       have hbt:yC l ns x↔(parP ns x.i).2≠0∨(enS l x 1).1≠1:=by
         unfold yC; rw [if_pos hx1,hx1]; exact ⟨fun e=>e.2,fun e=>⟨hb,e⟩⟩
       refine zT.mk (fun t H'=>H'=H7∧t.1=.bool (decide (yC l ns x))) ?_ ?_
       · rintro ⟨t,u⟩ H8 ⟨rfl,ht⟩
         simp only at ht
         subst ht
         rw [ze]
         exact ⟨fun hbd=>more (l':=[_,_]) (n:=1) hbd l7,fun hbd=>keep (l':=[_,_]) hbd l7⟩
       · rw [zx,za,ze]
         refine ⟨fun h0=>⟨rfl,Z5 (hbt.2 (.inl (by omega)))⟩,fun h0=>?_⟩
         have ha1:zi (some (none,2)) sv (.int .i64 1)=some (.pointer (some ⟨b2,o2,none⟩)):=ha2 .i64
         rw [ha1,za,zg,za,Nat.add_zero,c0,za,zx,za]
         refine ⟨rfl,y9 ⟨fun e=>hbt.2 (.inr (by omega)),fun e=>?_⟩⟩
         rcases hbt.1 e with e | e <;> omega
     · have hx1:x.i≠1:=by omega
       have hbt:yC l ns x↔(parP ns x.i).2≠1∨(enS l x 1).1≠(parP ns x.i).1∨¬ Rch ns x.i:=by
         unfold yC; rw [if_neg hx1]; exact ⟨fun e=>e.2,fun e=>⟨hb,e⟩⟩
       refine zT.mk (fun t H'=>H'=H7∧t.1=.bool (decide (yC l ns x))) ?_ ?_
       · rintro ⟨t,u⟩ H8 ⟨rfl,ht⟩
         simp only at ht
         subst ht
         rw [ze]
         refine ⟨fun hbd=>?_,fun hbd=>keep (l':=[_,_]) hbd l7⟩
         rw [l7.ld (i:=2) rfl,f0,za]
         exact more (l':=[_,_]) (n:=x.i) hbd l7
       · rw [zx,za,ze]
         refine ⟨fun h0=>⟨rfl,Z5 (hbt.2 (.inl (by omega)))⟩,fun h0=>?_⟩
         have ha1:zi (some (none,2)) sv (.int .i64 1)=some (.pointer (some ⟨b2,o2,none⟩)):=ha2 .i64
         rw [ha1,za,zg,za,Nat.add_zero,c0,za,zE,za,zw (by omega),zx,za,ze]
         refine ⟨fun h3=>⟨rfl,Z5 (hbt.2 (.inr (.inl (by omega))))⟩,fun h3=>?_⟩
         have hgr:=bN_get (c:=fun i=>decide (Rch ns i)) (n:=I.toNat+1) (b:=x.i) (by omega)
         obtain ⟨b4,o4,ha4,hcl4,_⟩:=(l7.sv (i:=1) rfl).sr.el hgr
         have d0:=hcl4 0 (by omega)
         rw [Nat.add_zero,show (bC (decide (Rch ns x.i)))[0]?=some (.bool (decide (Rch ns x.i))) from rfl] at d0
         rw [za,ha4,za,d0,za,zM,za]
         refine ⟨rfl,?_⟩
         show Value.bool (!decide (Rch ns x.i))=_
         congr 1
         rw [Bool.eq_iff_iff,decide_eq_true_eq,hbt]
         constructor
         · intro e; exact .inr (.inr (by simpa using e))
         · rintro (e | e | e)
           · omega
           · omega
           · simpa using e
   · rw [l5.ld (i:=2) rfl,f1,za,zx,za,ze]
     refine ⟨fun hk=>⟨rfl,Z5 fun e=>hk (by have:=e.1; omega)⟩,fun hk=>?_⟩
     rw [l5.ld (i:=2) rfl,f2,za,zA,za]
     refine ⟨rfl,y9 ⟨fun e e2=>e2.2 (by omega),fun e=>?_⟩⟩
     by_cases e2:x.f 1=0
     · omega
     · exact absurd ⟨by omega,e2⟩ e
 · have ei:i=fs.length:=by omega
   subst ei
   rw [List.take_length] at hps
   obtain ⟨s',hg,l15⟩:=l3.fltEnd (i:=0) rfl
   simp only [zc,zg,Nat.zero_add,Nat.add_zero,Nat.reduceAdd,za]
   rw [zo hg]
   show Pu (some s') _
   rw [za]
   exact k H3 s' ps l3.ext0 (l15.outN (i:=0) rfl) hps
set_option maxHeartbeats 1000000 in
theorem links29 (hf:Fls H s fs) (hn:Sr 2 H nv (ns.map nmC)) (hlen:ns.length<1099511627776) (k:∀ H' s' ps,Ext H H'→New H H' (.sl 251 2 s' (ps.map (fC 15)))→(ps=[]↔∀ x∈fs,¬ x.f 1≠linksP fs ns x)→R s' H'):Fc Tryz.prog 159 #[zW d,s,nv] H R:=by
 have hfl:=hf.len
 refine fn159 ?_
 simp only [sh159,Yi,zeroFile,zu,za]
 refine (Lo.start _ H:Lx H H []).flts fun p H1 e1 l1=>?_
 have l1:Lx H H1 [ye p 15 []]:=l1
 refine zy.mk (fun t H'=>∃ (i:Nat) (ps:List Int),i≤fs.length∧t=(zm i,())∧ps.length≤i∧(ps=[]↔∀ y∈fs.take i,¬ y.f 1≠linksP fs ns y)∧Lx H H' [ye p 15 ps])
   (fun t _=>mi t.1 fun i=>(fs.length - i).toNat) ⟨0,[],by omega,rfl,by simp,by simp,l1⟩ ?_
 rintro _ H3 ⟨i,ps,hi,rfl,hpl,hps,l3⟩
 rw [hf.row.lenE yD,za,List.length_map,zt,za,ze]
 refine ⟨fun hlt=>?_,fun hge=>?_⟩
 · have hil:i<fs.length:=by omega
   have hei:(fs.map flC)[i]?=some (flC fs[i]):=by rw [List.getElem?_map,List.getElem?_eq_getElem hil]; rfl
   have htk:fs.take (i+1)=fs.take i++[fs[i]]:=List.take_succ_eq_append_getElem hil
   have hmem:fs[i]∈fs:=List.getElem_mem hil
   generalize fs[i]=x at hei htk hmem
   have hst:=ids_step (y:=x) (ys:=[]) hps
   rw [← htk] at hst
   obtain ⟨b,o,ha,hcl,hrow⟩:=(hf.ext l3.ext0).row.el hei
   have hr:=hrow 0 18 (by omega)
   rw [Nat.add_zero,Y0 (c:=flC x) (n:=18) rfl] at hr
   have f0:(flC x)[0]?=some (zm x.i):=rfl
   have f1:(flC x)[1]?=some (.int .u16 (x.f 0)):=rfl
   have f2:(flC x)[2]?=some (.int .u16 (x.f 1)):=rfl
   have hok:=(hf.ok x hmem) 1 (by omega)
   simp only [fw,Nat.reduceLT,if_true,Nat.reducePow] at hok
   rw [ha,za,hr,za]
   refine l3.boxA fun b1 H4 _ l4=>?_
   refine l4.stAll (i:=1) (vs:=flC x) rfl rfl rfl (hf.okC hmem) fun H5 l5=>?_
   have l5:Lx H H5 [ye p 15 ps,.box b1 (flC x) 192]:=l5
   simp only [zc,zg,Nat.zero_add,Nat.add_zero,Nat.reduceAdd,za]
   rw [l5.ld (i:=1) rfl,f0,za]
   refine parent29 (hn.ext l5.ext0) hlen ?_
   have hpt:=parP_take ns x.i ns.length (Nat.le_refl _)
   rw [List.take_length] at hpt
   rw [show zf (.tuple #[zm (parP ns x.i).1,zm (parP ns x.i).2]) 0=some (zm (parP ns x.i).1) from rfl,za,show zf (.tuple #[zm (parP ns x.i).1,zm (parP ns x.i).2]) 1=some (zm (parP ns x.i).2) from rfl,za]
   refine zT.mk (fun t H'=>t.1=zm (linksP fs ns x)∧Lx H H' [ye p 15 ps,.box b1 (flC x) 192]) ?_ ?_
   · rintro ⟨t,u⟩ H6 ⟨ht,l6⟩
     simp only at ht
     subst ht
     rw [l6.ld (i:=1) rfl,f2,za,zE,za,zw (by omega),zx,za,ze]
     refine ⟨fun hb=>?_,fun hb=>?_⟩
     · rw [l6.ld (i:=1) rfl,f0,za]
       obtain ⟨O,ho,st⟩:=(l6.takeN 1).call (i:=0) rfl
       refine flt_add ho (by omega) fun H11 O11 ps' hne hle s11 h11=>?_
       have l11:=st H11 _ O11 s11 h11
       rw [zk,za,zJ,zw (by omega)]
       refine ⟨⟨i+1,ps',by omega,rfl,by omega,?_,l11⟩,by simp only [zC]; omega⟩
       rw [← hst]
       exact ⟨fun e=>absurd e hne,fun e=>absurd (by omega) e.2⟩
     · rw [zk,za,zJ,zw (by omega)]
       refine ⟨⟨i+1,ps,by omega,rfl,by omega,?_,l6.takeN 1⟩,by simp only [zC]; omega⟩
       rw [← hst]
       exact ⟨fun e=>⟨e,by omega⟩,fun e=>e.1⟩
   · refine zT.mk (fun t H'=>H'=H5∧t.1=.bool (decide (isTree x))) ?_ ?_
     · rintro ⟨t,u⟩ H6 ⟨rfl,ht⟩
       simp only at ht
       subst ht
       rw [ze]
       refine ⟨fun hb=>?_,fun hb=>?_⟩
       · have hlk:linksP fs ns x=2+subsP fs x.i ns:=by unfold linksP; rw [if_pos hb]
         refine zy.mk (fun t H'=>H'=H6∧∃ j:Nat,j≤ns.length∧t=(zm ((2+subsP fs x.i (ns.take j):Nat):Int),zm j,())) (fun t _=>mi t.2.1 fun j=>(ns.length - j).toNat) ⟨rfl,0,by omega,rfl⟩ ?_
         rintro _ H7 ⟨rfl,j,hj,rfl⟩
         have hn7:=hn.ext l5.ext0
         rw [hn7.lenE undNms,za,List.length_map,zt,za,ze]
         refine ⟨fun hlt2=>?_,fun hge2=>?_⟩
         · have hjl:j<ns.length:=by omega
           have hej:(ns.map nmC)[j]?=some (nmC ns[j]):=by rw [List.getElem?_map,List.getElem?_eq_getElem hjl]; rfl
           have htj:ns.take (j+1)=ns.take j++[ns[j]]:=List.take_succ_eq_append_getElem hjl
           generalize ns[j]=y at hej htj
           have hsn:=subsP_snoc fs x.i (ns.take j) y
           rw [← htj] at hsn
           have hsl:=subsP_le fs x.i (ns.take j)
           rw [List.length_take] at hsl
           obtain ⟨b2,o2,ha2,hcl2,_⟩:=hn7.el hej
           have c0:=hcl2 0 (by omega)
           rw [Nat.add_zero,show (nmC y)[0]?=some (zm y.1) from rfl] at c0
           have c1:=hcl2 1 (by omega)
           rw [show (nmC y)[1]?=some (zm y.2) from rfl] at c1
           refine zT.mk (fun t H'=>H'=H7∧t.1=.bool (decide (y.1=x.i∧kindP fs y.2=2))) ?_ ?_
           · rintro ⟨t,u⟩ H8 ⟨rfl,ht⟩
             simp only at ht
             subst ht
             rw [ze]
             refine ⟨fun hc=>?_,fun hc=>?_⟩
             · rw [if_pos hc] at hsn
               rw [zk,za,zJ,zw (by omega),zk,za,zJ,zw (by omega)]
               refine ⟨⟨rfl,j+1,by omega,?_⟩,by simp only [zC]; omega⟩
               rw [hsn]; rfl
             · rw [if_neg hc] at hsn
               rw [zk,za,zJ j,zw (v:=j+1) (by omega)]
               refine ⟨⟨rfl,j+1,by omega,?_⟩,by simp only [zC]; omega⟩
               rw [hsn]; rfl
           · rw [ha2,za,zg,za,Nat.add_zero,c0,za,l5.ld (i:=1) rfl,f0,za,zA,za,ze]
             refine ⟨fun he=>?_,fun he=>⟨rfl,YP fun e=>he (by omega)⟩⟩
             rw [za,zg,za,c1,za]
             refine kind29 (hf.ext l5.ext0) ?_
             rw [zA,za]
             exact ⟨rfl,y9 (by omega)⟩
         · have ej:j=ns.length:=by omega
           subst ej
           rw [List.take_length]
           exact ⟨by rw [hlk],l5⟩
       · refine ⟨?_,l5⟩
         unfold linksP
         rw [if_neg hb]
     · rw [l5.ld (i:=1) rfl,f1,za,zA,za,ze]
       refine ⟨fun hk=>?_,fun hk=>⟨rfl,YP fun e=>hk (by have:=e.1; omega)⟩⟩
       rw [l5.ld (i:=1) rfl,f2,za,zx,za]
       refine ⟨rfl,y9 ⟨fun e=>⟨by omega,by omega⟩,fun e=>?_⟩⟩
       have:=e.2; omega
 · have ei:i=fs.length:=by omega
   subst ei
   rw [List.take_length] at hps
   obtain ⟨s',hg,l15⟩:=l3.fltEnd (i:=0) rfl
   simp only [zc,zg,Nat.zero_add,Nat.add_zero,Nat.reduceAdd,za]
   rw [zo hg]
   show Pu (some s') _
   rw [za]
   exact k H3 s' ps l3.ext0 (l15.outN (i:=0) rfl) hps
end
section
variable {P:Program} {S:Nat→Prop} {H0 H:Hp} {l:List Ob}
theorem Lo.appOX {e:ZO} {ty T n by':Nat} {K:Value→Hp→Prop} (h:Lo S H0 H l) (he:zK P ty=some e) (hf:e.type=T∧e.size=n∧e.zero.size=n∧e.bytes=by') {i:Nat} {s v:Value} {c:Array Value} {vs:List (Array Value)} (hi:l[i]?=some (.sl T n s vs)) (hv:v.cells=c) (hn:0<n∧n≤2 ^ 24) (hby:0<by') (hc:c.size=n) (hok:zG c)
   (hlim:(vs.length+1)*by'≤2 ^ 47) (k:∀ s' H',Lo S H0 H' (l.set i (.sl T n s' (vs++[c])))→K s' H'):Pu (zK P ty) fun x=>Pu (zI (some x) 1 [(0,v)]) fun cs=>NewS x.type 1 cs H fun x2 H2=>ForX true H2 fun H3=>Ys (zK P ty) s x2 H3 K:=by
 obtain ⟨f1,f2,f3,f4⟩:=hf
 rw [he,za,newS_one (by omega) (by omega) (by rw [hv,hc,f2]),za,hv]
 refine newS_i fun b H2 hb e2 hs2 g=>?_
 rw [zq]
 intro H3 e3
 exact ((h.ext e2).ext e3).app hi f1 f2 f3 (by omega) ((Sv.single g hc).ext e3) (by simpa using hok) (by rw [f4]; simpa using hlim) k
end
theorem New.subs2 {H H':Hp} {T n T' n':Nat} {s:Value} {vs:List (Array Value)} (h:New H H' (.sl T n s vs)):New H H' (.subs [⟨.slice none 0 0,T',n',[]⟩,⟨s,T,n,vs⟩]):=by
 obtain ⟨O,ho,hn⟩:=h
 refine ⟨O,⟨fun x hx=>?_,ho.2⟩,hn⟩
 rcases List.mem_cons.1 hx with e | e
 · rw [e]; exact ⟨Sv.nil T' n' H',fun b hb=>by cases hb⟩
 · rw [List.mem_singleton.1 e]; exact ho.1
theorem New.subs2' {H H':Hp} {T n T' n':Nat} {s:Value} {vs:List (Array Value)} (h:New H H' (.sl T n s vs)):New H H' (.subs [⟨s,T,n,vs⟩,⟨.slice none 0 0,T',n',[]⟩]):=by
 obtain ⟨O,ho,hn⟩:=h
 refine ⟨O,⟨fun x hx=>?_,ho.2⟩,hn⟩
 rcases List.mem_cons.1 hx with e | e
 · rw [e]; exact ho.1
 · rw [List.mem_singleton.1 e]; exact ⟨Sv.nil T' n' H',fun b hb=>by cases hb⟩
theorem mlt {n j:Nat} (h:j<n):((n:Int) - ((j+1:Nat):Int)).toNat<((n:Int) - (j:Int)).toNat:=by omega
def bitP (B L I:Int) (fs:List Fl) (a:Nat):Prop:=(a:Int)<(zp B L I).dataAt∨((a:Int)<B∧0<ownC (Zb fs) a)
def bitOk (B L I:Int) (l:List (Int × Blk)) (fs:List Fl) (a:Nat):Prop:=bitB (zX l ((zp B L I).bitsAt+((a / 8192:Nat):Int))) (a % 8192)=decide (bitP B L I fs a)
noncomputable def dataP (l:List (Int × Blk)) (x:Fl) (n:Nat):List (Int × Blk):=((x.sp.take n).filter fun y=>decide (0≤y.1)).map fun y=>(y.1,zX l y.2)
theorem dataP_len (l:List (Int × Blk)) (x:Fl) (n:Nat):(dataP l x n).length≤n:=by
 unfold dataP
 rw [List.length_map]
 refine Nat.le_trans (List.length_filter_le _ _) ?_
 rw [List.length_take]; omega
noncomputable def itP (l:List (Int × Blk)) (x:Fl):Itm:=⟨x.i,x.f 0,x.f 1,x.f 2,x.f 3,if x.f 0=2 then [] else dataP l x x.sp.length,if x.f 0=2 then ZQ l x (x.f 2 / 16) else []⟩
theorem zeroItm:zD Tryz.prog 142=some (.agg (YD ⟨0,0,0,0,0,[],[]⟩ (.slice none 0 0) (.slice none 0 0))):=by kernel_rfl
theorem buildItm (a b c d e:Int):zv Tryz.prog 142 [(0,zm a),(1,.int .u16 b),(2,zm c),(3,zm d),(4,zm e)]=some (.agg #[zm a,.int .u16 b,zm c,zm d,zm e,.slice none 0 0,.slice none 0 0]):=by kernel_rfl
theorem itmC_ok {t:Itm} {b b':Option Addr} {n n' c c':Nat}:zG (YD t (.slice b n c) (.slice b' n' c')):=by unfold zG; rw [← Array.all_toList]; rfl
section
variable {H:Hp} {R:Value→Hp→Prop} {d:Nat} {dv:Value} {B L I:Int} {l:List (Int × Blk)} {s nv:Value} {fs:List Fl} {ns:List Nm}
set_option maxRecDepth 100000 in
set_option maxHeartbeats 1000000 in
theorem wrongBits29 (h:Lk H d dv B L I l) (hf:Fls H s fs) (hd:∀ y∈Zb fs,isDat B L I y) (k:∀ H' s' ps,Ext H H'→New H H' (.sl 251 2 s' (ps.map (fC 11)))→(ps=[]↔∀ a:Nat,(a:Int)<8192*(zp B L I).bitsBlocks→bitOk B L I l fs a)→R s' H'):Fc Tryz.prog 155 #[zW d,s] H R:=by
 obtain ⟨gL1,gL2,gI1,gI2,gB1,gB2,gD⟩:=id h.ok
 obtain ⟨Bn,eB⟩:∃ Bn:Nat,B=Bn:=⟨B.toNat,by omega⟩
 have eBt:B.toNat=Bn:=by omega
 have hBB:(zp B L I).bitsBlocks=(B+8191) / 8192:=rfl
 have hDA:(zp B L I).dataAt=1+L+(I+16) / 16+(B+8191) / 8192:=rfl
 have hBA:(zp B L I).bitsAt=1+L+(I+16) / 16:=rfl
 obtain ⟨Kn,eK⟩:∃ Kn:Nat,(zp B L I).bitsBlocks=Kn:=⟨(zp B L I).bitsBlocks.toNat,by omega⟩
 have hKn:Kn≤129:=by omega
 refine fn155 ?_
 simp only [sh155,zu,ZL,zc,zg,Nat.zero_add,Nat.add_zero,Nat.reduceAdd,za]
 refine owned29 h hf hd fun H1 ov e1 n1=>?_
 rw [eBt] at n1
 have l1:Lx H H1 [.sl 3 1 ov (cN (ownC (Zb fs)) Bn)]:=((Lo.start _ H:Lx H H []).new e1 n1)
 have l1:=l1.nilS 251 2
 refine zy.mk (fun t H'=>∃ (i:Nat) (v:Value) (ps:List Int),i≤Kn∧t=(v,zm i,())∧ps.length≤8192*i∧(ps=[]↔∀ a:Nat,a<8192*i→bitOk B L I l fs a)∧Lx H H' [.sl 3 1 ov (cN (ownC (Zb fs)) Bn),.sl 251 2 v (ps.map (fC 11))])
   (fun t _=>mi t.2.1 fun i=>(Kn - i).toNat) ⟨0,.slice none 0 0,[],by omega,rfl,by simp,by simp,l1⟩ ?_
 rintro _ H2 ⟨i,v,ps,hi,rfl,hpl,hps,l2⟩
 have h2:=h.ext l2.ext0
 rw [zo h2.top,lkC9,za,eK,zt,za,ze]
 refine ⟨fun hlt=>?_,fun hge=>?_⟩
 · rw [zo h2.top,lkC8,za,zk,za,zh (by omega) (by omega)]
   refine lk_at h2 fun H3 e3=>?_
   have hbl:=Zw h.is ((zp B L I).bitsAt+(i:Int))
   have hbo:∀ j,j<8192→(bitOk B L I l fs (8192*i+j)↔bitB (zX l ((zp B L I).bitsAt+(i:Int))) j=decide (bitP B L I fs (8192*i+j))):=fun j hj=>by
     unfold bitOk
     rw [show (8192*i+j) / 8192=i by omega,show (8192*i+j) % 8192=j by omega]
   generalize zX l ((zp B L I).bitsAt+(i:Int))=c at hbl hbo
   refine (l2.ext e3).boxA fun b2 H4 _ l4=>?_
   refine l4.stAll (i:=2) rfl zF hbl.size hbl.ok fun H5 l5=>?_
   refine zy.mk (fun t H'=>∃ (j:Nat) (v:Value) (ps:List Int),j≤8192∧t=(v,zm j,())∧ps.length≤8192*i+j∧(ps=[]↔∀ a:Nat,a<8192*i+j→bitOk B L I l fs a)∧Lx H H' [.sl 3 1 ov (cN (ownC (Zb fs)) Bn),.sl 251 2 v (ps.map (fC 11)),.box b2 c 65])
     (fun t _=>mi t.2.1 fun j=>(((8192:Nat):Int) - j).toNat) ⟨0,v,ps,by omega,rfl,by omega,hps,l5⟩ ?_
   rintro _ H6 ⟨j,v,ps,hj,rfl,hpl,hps,l6⟩
   have hst:∀ a,a<8192*i+(j+1)↔a<8192*i+j∨a=8192*i+j:=fun a=>by omega
   rw [zt,za,ze]
   refine ⟨fun hlt2=>?_,fun hge2=>?_⟩
   · rw [zZ,za,zh (by omega) (by omega),zk,za,zh (by omega) (by omega),show (8192*(i:Int)+(j:Int))=((8192*i+j:Nat):Int) by omega]
     have hbo:=hbo j (by omega)
     have hpd:bitP B L I fs (8192*i+j)↔((8192*i+j:Nat):Int)<(zp B L I).dataAt∨(((8192*i+j:Nat):Int)<B∧0<ownC (Zb fs) (8192*i+j)):=Iff.rfl
     generalize hat:8192*i+j=at' at hbo hpd hst hpl hps
     have hjn:j<8192:=by omega
     refine zT.mk (fun t H'=>H'=H6∧t.1=.bool (decide (bitP B L I fs at'))) ?_ ?_
     · rintro ⟨t,u⟩ H7 ⟨rfl,ht⟩
       simp only at ht
       subst ht
       rw [l6.ldAll (i:=2) (n:=1024) rfl hbl.size,za]
       refine has_ok hbl (by omega) fun H8 e8=>?_
       have l8:=l6.ext e8
       rw [binE_neb,za,ZB]
       refine ⟨fun hb=>?_,fun hb=>?_⟩
       · have hb:¬ bitOk B L I l fs at':=fun e=>by rw [hbo.1 e] at hb; simp at hb
         rw [buildFlt,za]
         refine l8.appO elFlt eFlt_f (i:=1) rfl (by rfl) (by omega) (by omega) rfl (fC_ok _ _) (by rw [List.length_map]; omega) fun v3 H9 l9=>?_
         rw [zk,za,zJ,zw (by omega)]
         refine ⟨⟨j+1,v3,ps++[(at':Int)],by omega,rfl,by rw [List.length_append]; simp only [List.length_cons,List.length_nil]; omega,⟨fun e=>absurd (List.append_eq_nil_iff.1 e).2 (List.cons_ne_nil _ _),fun hh=>absurd (hh at' ((hst at').2 (.inr rfl))) hb⟩,?_⟩,by simp only [zC]; exact mlt (n:=8192) hjn⟩
         rw [List.map_append]; exact l9
       · have hb:bitOk B L I l fs at':=hbo.2 (by simpa using hb)
         rw [zk,za,zJ,zw (by omega)]
         refine ⟨⟨j+1,v,ps,by omega,rfl,by omega,⟨fun e a ha=>?_,fun hh=>hps.2 fun a ha=>hh a ((hst a).2 (.inl ha))⟩,l8⟩,by simp only [zC]; exact mlt (n:=8192) hjn⟩
         rcases (hst a).1 ha with e2 | e2
         · exact hps.1 e a e2
         · rw [e2]; exact hb
     · have h6:=h.ext l6.ext0
       rw [zo h6.top,lkC10,za,zt,za,ze]
       refine ⟨fun h1=>⟨rfl,Z5 (hpd.2 (.inl h1))⟩,fun h1=>?_⟩
       rw [(l6.sv (i:=0) rfl).lenE undIn,za,cN_len,zt,za,ze]
       refine ⟨fun h3=>?_,fun h3=>⟨rfl,YP fun e=>?_⟩⟩
       · have hg:=cN_get (c:=ownC (Zb fs)) (n:=Bn) (b:=at') (by omega)
         obtain ⟨b3,o3,ha3,hcl3,_⟩:=(l6.sv (i:=0) rfl).sr.el hg
         have hc0:=hcl3 0 (by omega)
         rw [Nat.add_zero] at hc0
         rw [ha3,za,hc0,show (nC (ownC (Zb fs) at'))[0]?=some (zm (ownC (Zb fs) at')) from rfl,za,zN,za]
         refine ⟨rfl,y9 ?_⟩
         rw [hpd]
         omega
       · rcases hpd.1 e with e | e <;> omega
   · have ej:8192*i+j=8192*(i+1):=by omega
     rw [ej] at hps hpl
     rw [zk,za,zJ,zw (by omega)]
     exact ⟨⟨i+1,v,ps,by omega,rfl,hpl,hps,l6.takeN 2⟩,by simp only [zC]; omega⟩
 · have ei:i=Kn:=by omega
   subst ei
   refine k H2 v ps l2.ext0 (l2.outN (i:=1) rfl) ?_
   rw [hps,eK]
   exact ⟨fun hh a ha=>hh a (by omega),fun hh a ha=>hh a (by omega)⟩
set_option maxHeartbeats 1000000 in
theorem item29 (h:Lk H d dv B L I l) {x:Fl} (hsub:Sr 2 H x.v (x.sp.map spC)) (hfew:x.sp.length≤66100) (hok:InoOk x.f) (hokc:zG (flC x)) (k:∀ H' v1 v2,Ext H H'→New H H' (.subs [⟨v1,149,1025,(itP l x).data.map zO⟩,⟨v2,241,2,(itP l x).slots.map ZS⟩])→R (.agg (YD (itP l x) v1 v2)) H'):Fc Tryz.prog 119 #[zW d,.agg (flC x)] H R:=by
 have h1:=hok 1 (by omega)
 have h2:=hok 2 (by omega)
 have h3:=hok 3 (by omega)
 simp only [fw,Nat.reduceLT,if_false,if_true,Nat.reducePow,Nat.lt_irrefl] at h1 h2 h3
 have f0:(flC x)[0]?=some (zm x.i):=rfl
 have f1:(flC x)[1]?=some (.int .u16 (x.f 0)):=rfl
 have f2:(flC x)[2]?=some (.int .u16 (x.f 1)):=rfl
 have f3:(flC x)[3]?=some (.int .u32 (x.f 2)):=rfl
 have f4:(flC x)[4]?=some (.int .u32 (x.f 3)):=rfl
 have f17:(flC x)[17]?=some x.v:=rfl
 refine fn119 ?_
 simp only [sh119,zu,zeroItm,za]
 refine (Lo.start _ H:Lx H H []).boxA fun b1 H1 _ l1=>?_
 refine l1.boxA fun b2 H2 _ l2=>?_
 simp only [zg,Nat.zero_add,Nat.add_zero,Nat.reduceAdd,za]
 rw [l2.ld (i:=0) rfl,f0,za,l2.ld (i:=0) rfl,f1,za,l2.ld (i:=0) rfl,f2,za,zE,za,zw (by omega),l2.ld (i:=0) rfl,f3,za,zE,za,zw (by omega),l2.ld (i:=0) rfl,f4,za,zE,za,zw (by omega),buildItm,za]
 refine l2.boxA fun b3 H3 _ l3=>?_
 refine l3.stAll (i:=2) (vs:=YD (itP l x) (.slice none 0 0) (.slice none 0 0)) rfl rfl rfl itmC_ok fun H4 l4=>?_
 have l4:Lx H H4 [.box b1 (flC x) 192,.box b2 (YD ⟨0,0,0,0,0,[],[]⟩ (.slice none 0 0) (.slice none 0 0)) 142,.box b3 (YD (itP l x) (.slice none 0 0) (.slice none 0 0)) 142]:=l4
 have g1:∀ {v1 v2:Value},(YD (itP l x) v1 v2)[1]?=some (.int .u16 (x.f 0)):=rfl
 have g5:∀ {v1 v2:Value},(YD (itP l x) v1 v2)[5]?=some v1:=rfl
 rw [zg,za,l4.ld (i:=2) rfl,g1,za,zA,za,ze]
 refine ⟨fun hk=>?_,fun hk=>?_⟩
 · have hk:x.f 0=2:=by omega
   have hdt:(itP l x).data=[]:=by unfold itP; simp only [hk,if_true]
   have hsl:(itP l x).slots=ZQ l x (x.f 2 / 16):=by unfold itP; simp only [hk,if_true]
   rw [l4.ldAll (i:=0) (n:=18) rfl rfl,za]
   refine slots29 (h.ext l4.ext0) (hsub.ext l4.ext0) hfew hok fun H5 sv e5 n5=>?_
   have l5:=l4.new e5 n5
   rw [show zf (.tuple #[sv,.bool (decide (YZ l x (x.f 2 / 16)))]) 0=some sv from rfl,za,show zf (.tuple #[sv,.bool (decide (YZ l x (x.f 2 / 16)))]) 1=some (.bool (decide (YZ l x (x.f 2 / 16)))) from rfl,za,zg,za]
   have hone:=(l5.sv (i:=3) rfl).one
   obtain ⟨bb,cc,esv⟩:=(l5.sv (i:=3) rfl).len
   refine l5.st (i:=2) (j:=6) (v:=sv) rfl (by exact (by decide:6<7)) hone.2 hone.1 fun H6 l6=>?_
   have l6:Lx H H6 [.box b1 (flC x) 192,.box b2 (YD ⟨0,0,0,0,0,[],[]⟩ (.slice none 0 0) (.slice none 0 0)) 142,.box b3 (YD (itP l x) (.slice none 0 0) sv) 142,.sl 241 2 sv ((ZQ l x (x.f 2 / 16)).map ZS)]:=l6
   rw [l6.ldAll (i:=2) (n:=7) rfl rfl,za]
   refine l6.ret (i:=1) rfl rfl rfl (by rw [esv]; exact itmC_ok) fun H' l'=>?_
   refine k H' (.slice none 0 0) sv l'.ext0 ?_
   rw [hdt,hsl]
   exact (l'.outN (i:=3) rfl).subs2
 · have hk:x.f 0≠2:=by omega
   have hdt:(itP l x).data=dataP l x x.sp.length:=by unfold itP; simp only [hk,if_false]
   have hsl:(itP l x).slots=[]:=by unfold itP; simp only [hk,if_false]
   have l4:=l4.nilS 149 1025
   refine zy.mk (fun t H'=>∃ (i:Nat) (v1:Value),i≤x.sp.length∧t=(zm i,())∧Lx H H' [.box b1 (flC x) 192,.box b2 (YD ⟨0,0,0,0,0,[],[]⟩ (.slice none 0 0) (.slice none 0 0)) 142,.box b3 (YD (itP l x) v1 (.slice none 0 0)) 142,.sl 149 1025 v1 ((dataP l x i).map zO)])
     (fun t _=>mi t.1 fun i=>(x.sp.length - i).toNat) ⟨0,.slice none 0 0,by omega,rfl,l4⟩ ?_
   rintro _ H5 ⟨i,v1,hi,rfl,l5⟩
   rw [l5.ld (i:=0) rfl,f17,za,hsub.lenE YR,za,List.length_map,zt,za,ze]
   refine ⟨fun hlt=>?_,fun hge=>?_⟩
   · have hjl:i<x.sp.length:=by omega
     have hej:(x.sp.map spC)[i]?=some (spC x.sp[i]):=by rw [List.getElem?_map,List.getElem?_eq_getElem hjl]; rfl
     have htj:x.sp.take (i+1)=x.sp.take i++[x.sp[i]]:=List.take_succ_eq_append_getElem hjl
     generalize x.sp[i]=y at hej htj
     have hds:dataP l x (i+1)=dataP l x i++(if 0≤y.1 then [(y.1,zX l y.2)] else []):=by
       unfold dataP
       rw [htj,List.filter_append,List.map_append]
       congr 1
       by_cases e:0≤y.1 <;> simp [e]
     have hdl:=dataP_len l x i
     obtain ⟨b6,o6,ha6,hcl6,_⟩:=(hsub.ext l5.ext0).el hej
     have c0:=hcl6 0 (by omega)
     rw [Nat.add_zero,show (spC y)[0]?=some (zm y.1) from rfl] at c0
     have c1:=hcl6 1 (by omega)
     rw [show (spC y)[1]?=some (zm y.2) from rfl] at c1
     rw [za,ha6,za,zg,za,Nat.add_zero,c0,za,zU,za,ze]
     refine ⟨fun hp=>?_,fun hp=>?_⟩
     · rw [if_pos hp] at hds
       have hbl:=Zw h.is y.2
       rw [zg,za,l5.ld (i:=2) rfl,g5,za,za,ha6,za,zg,za,Nat.add_zero,c0,za,za,ha6,za,zg,za,c1,za]
       refine ⟨.agg (zX l y.2),fun H'' e''=>lk_at (h.ext (l5.ext0.trans e'')) fun H3 e3=>⟨rfl,e3⟩,?_⟩
       rw [build_held hbl,za,zq]
       intro H9 e9
       refine (l5.ext e9).appOX elHeld eHeld_f (i:=3) (c:=zO (y.1,zX l y.2)) rfl rfl (by omega) (by omega) (ZC hbl) (heldC_ok hbl) (by rw [List.length_map]; omega) fun s' H12 l12=>?_
       rw [za,zq]
       intro H13 e13
       have l13:=l12.ext e13
       have hone:=(l13.sv (i:=3) rfl).one
       refine l13.st (i:=2) (j:=5) (v:=s') rfl (by exact (by decide:5<7)) hone.2 hone.1 fun H14 l14=>?_
       rw [zq]
       intro H15 e15
       rw [zk,za,zJ,zw (by omega)]
       refine ⟨⟨i+1,s',by omega,rfl,?_⟩,by simp only [zC]; omega⟩
       rw [hds,List.map_append]
       exact l14.ext e15
     · rw [if_neg hp,List.append_nil] at hds
       rw [zk,za,zJ,zw (by omega)]
       refine ⟨⟨i+1,v1,by omega,rfl,?_⟩,by simp only [zC]; omega⟩
       rw [hds]; exact l5
   · have ei:i=x.sp.length:=by omega
     subst ei
     obtain ⟨bb,cc,esv⟩:=(l5.sv (i:=3) rfl).len
     rw [l5.ldAll (i:=2) (n:=7) rfl rfl,za]
     refine l5.ret (i:=1) rfl rfl rfl (by rw [esv]; exact itmC_ok) fun H' l'=>?_
     refine k H' v1 (.slice none 0 0) l'.ext0 ?_
     rw [hdt,hsl]
     exact (l'.outN (i:=3) rfl).subs2'
end
structure Sound (B L I:Int) (l:List (Int × Blk)) (fs:List Fl):Prop where
 nodes:NodesOk B L I l
 ptr:∀ y∈Zb fs,isDat B L I y
 twice:∀ b:Nat,(b:Int)<B→ownC (Zb fs) b≤1
 alone:∀ kd∈([7,8,9,10]:List Int),∀ x∈fs,¬ yQ l kd x
 bits:∀ a:Nat,(a:Int)<8192*(zp B L I).bitsBlocks→bitOk B L I l fs a
 hole:∀ x∈fs,¬ yQ l 12 x
 slots:∀ x∈fs,¬ (x.f 0=2∧yt l fs x)
 tree:∀ x∈fs,¬ yC l (yu l fs) x
 links:∀ x∈fs,¬ x.f 1≠linksP fs (yu l fs) x
theorem nodes_nd {B L I:Int} {l:List (Int × Blk)} {fs:List Fl} (hI:1≤I) (h:NodesOk B L I l) (hf:FlsOk B L I l I.toNat fs):NdOk fs:=by
 intro x hx
 have hm:=hf.mem hx
 have hb:=h.1 x.i (by omega)
 have e:=(hf.is x hx).1
 have hno:¬ oddP (rawP B L I l x.i) (Yl B L I l x.i):=fun ho=>hb (.inl (.inl ⟨hm.2.2,ho⟩))
 rw [← e] at hno
 unfold oddP at hno
 refine ⟨?_,fun h0 h1=>?_⟩
 · exact Nat.le_of_not_lt fun hh=>hno (.inr (.inr (.inl hh)))
 · exact Nat.le_of_not_lt fun hh=>hno (.inr (.inr (.inr (.inr ⟨h0,.inr ⟨h1,.inl hh⟩⟩))))
theorem names_in {B L I:Int} {l:List (Int × Blk)} {fs:List Fl} (hI:1≤I) (hf:FlsOk B L I l I.toNat fs) (hs:∀ x∈fs,¬ (x.f 0=2∧yt l fs x)):∀ y∈yu l fs,(y.1:Int)≤I∧(y.2:Int)≤I:=by
 intro y hy
 obtain ⟨x,hx,hy⟩:=List.mem_flatMap.1 hy
 have hm:=hf.mem hx
 unfold nmX at hy
 split at hy
 · rename_i ht
   have hb:=hs x hx
   have key:∀ n,n≤x.f 2 / 16→y∈nmD l x n→y.1=x.i∧∃ i,i<x.f 2 / 16∧(enS l x i).1≠0∧y.2=(enS l x i).1:=by
     intro n
     induction n with
     | zero=>intro _ h; cases h
     | succ n ih=>
       intro hn h
       rw [nmD_succ] at h
       rcases List.mem_append.1 h with h1 | h1
       · exact ih (by omega) h1
       · split at h1
         · rename_i h2
           rw [List.mem_singleton.1 h1]
           exact ⟨rfl,n,by omega,h2.2,rfl⟩
         · cases h1
   obtain ⟨e1,i,hi,hne,e2⟩:=key _ (Nat.le_refl _) hy
   have hu:usedP fs (enS l x i).1:=by
     by_cases hu:usedP fs (enS l x i).1
     · exact hu
     · exact absurd ⟨ht.1,.inr ⟨ht.2,.inr (.inr ⟨i,hi,hne,.inl hu⟩)⟩⟩ hb
   obtain ⟨z,hz,e3⟩:=hu
   have:=hf.mem hz
   rw [e1,e2]
   exact ⟨by omega,by omega⟩
 · cases hy
theorem elKd:zK Tryz.prog 223=some ⟨219,1,1,#[.int .u8 0]⟩:=by kernel_rfl
theorem undKds:Tryz.prog.underlying 223=some (.slice 219):=by kernel_rfl
theorem newKds:zI (some ⟨219,1,1,#[.int .u8 0]⟩) 4 [(0,(.int .u8 7)),(1,(.int .u8 8)),(2,(.int .u8 9)),(3,(.int .u8 10))]=some #[.int .u8 7,.int .u8 8,.int .u8 9,.int .u8 10]:=by kernel_rfl
def kdC (n:Int):Array Value:=#[.int .u8 n]
theorem kds_sr {H:Hp} {b:Nat} {T:TypeId} (g:H[b]?=some (.cells #[.int .u8 7,.int .u8 8,.int .u8 9,.int .u8 10] T)):Sr 1 H (.slice (some ⟨b,0,none⟩) 4 4) (([7,8,9,10]:List Int).map kdC):=by
 refine ⟨_,4,rfl,by decide,fun _=>⟨b,0,rfl,fun i v hi=>?_⟩⟩
 have r:∀ j,j<4→rowH H ⟨b,0+j*1,none⟩ 1=some ((#[.int .u8 7,.int .u8 8,.int .u8 9,.int .u8 10]:Array Value).extract j (j+1)):=fun j hj=>by
   unfold rowH
   simp only [g]
   rw [if_pos ⟨trivial,by show 0+j*1+1≤4; omega⟩,Nat.zero_add,Nat.mul_one]
 match i,hi with
 | 0,hi=>rw [r 0 (by omega)]; injection hi with hi; rw [← hi]; rfl
 | 1,hi=>rw [r 1 (by omega)]; injection hi with hi; rw [← hi]; rfl
 | 2,hi=>rw [r 2 (by omega)]; injection hi with hi; rw [← hi]; rfl
 | 3,hi=>rw [r 3 (by omega)]; injection hi with hi; rw [← hi]; rfl
section
variable {H:Hp} {R:Value→Hp→Prop} {d:Nat} {dv:Value} {B L I:Int} {l:List (Int × Blk)} {s nv:Value} {fs:List Fl} {ns:List Nm}
theorem Yw {H H':Hp} {s:Value} {ps:List Int} {kd:Int} (h:New H H' (.sl 251 2 s (ps.map (fC kd)))):lenE Tryz.prog 131 s=some (zm ps.length):=by
 rw [h.sv.lenE undFlts,List.length_map]
theorem yJ {ps:List Int}:(0:Int)<(ps.length:Int)↔ps≠[]:=by
 cases ps with
 | nil=>simp
 | cons a r=>simp
set_option maxHeartbeats 1000000 in
theorem wrongs29 (h:Lk H d dv B L I l) (k:∀ H' s' (ps:List Int) kd fs,Ext H H'→New H H' (.sl 251 2 s' (ps.map (fC kd)))→FlsOk B L I l I.toNat fs→(ps=[]↔Sound B L I l fs)→R s' H'):Fc Tryz.prog 117 #[zW d] H R:=by
 obtain ⟨gL1,gL2,gI1,gI2,gB1,gB2,gD⟩:=id h.ok
 have hgo:∃ fs,FlsOk B L I l I.toNat fs:=by
   have:∀ n,∃ fs,FlsOk B L I l n fs:=fun n=>by
     induction n with
     | zero=>exact ⟨[],rfl,fun x hx=>by cases hx⟩
     | succ n ih=>
       obtain ⟨fs,hfs⟩:=ih
       by_cases e:Yl B L I l (n+1) 0=0
       · exact ⟨fs,hfs.skip e⟩
       · exact ⟨_,hfs.add (x:=⟨n+1,Yl B L I l (n+1),.bool false,Ya B L I l (Yl B L I l (n+1))⟩) rfl rfl rfl e⟩
   exact this _
 refine fn117 ?_
 simp only [sh117,zu]
 refine lk_nodes h fun H1 s1 p1 e1 n1 q1=>?_
 rw [Yw n1,za,zN,za,ze]
 refine ⟨fun hp=>?_,fun hp=>?_⟩
 · have hp:=yJ.1 hp
   obtain ⟨fs,hfs⟩:=hgo
   exact k H1 s1 p1 4 fs e1 n1 hfs ⟨fun e=>absurd e hp,fun e=>absurd (q1.2 e.nodes) hp⟩
 have hN:NodesOk B L I l:=q1.1 (Classical.not_not.1 fun e=>hp (yJ.2 e))
 refine lk_files (h.ext e1) fun H2 fv fs e2 n2 hfs=>?_
 have hf2:Fls H2 fv fs:=files_fr (h.ext e1) (by omega) hfs n2
 have hnd:=nodes_nd gI1 hN hfs
 have x2:=e1.trans e2
 refine pointers29 (h.ext x2) hf2 fun H3 s3 p3 e3 n3 q3=>?_
 have x3:=x2.trans e3
 have stop:∀ {H':Hp} {s':Value} {ps:List Int} {kd:Int} {Hm:Hp},Ext H Hm→Ext Hm H'→New Hm H' (.sl 251 2 s' (ps.map (fC kd)))→ps≠[]→(Sound B L I l fs→ps=[])→R s' H':=fun xm em nm hp hq=>k _ _ _ _ fs (xm.trans em) (nm.old xm.le) hfs ⟨fun e=>absurd e hp,fun e=>absurd (hq e) hp⟩
 have e0:∀ {ps:List Int},¬ (0:Int)<(ps.length:Int)→ps=[]:=fun hp=>Classical.not_not.1 fun e=>hp (yJ.2 e)
 rw [Yw n3,za,zN,za,ze]
 refine ⟨fun hp=>stop x2 e3 n3 (yJ.1 hp) fun S=>q3.2 S.ptr,fun hp=>?_⟩
 have hP:=q3.1 (e0 hp)
 refine twice29 (h.ext x3) (hf2.ext e3) hP fun H4 s4 p4 e4 n4 q4=>?_
 have x4:=x3.trans e4
 have f4:=(hf2.ext e3).ext e4
 rw [Yw n4,za,zN,za,ze]
 refine ⟨fun hp=>stop x3 e4 n4 (yJ.1 hp) fun S=>q4.2 S.twice,fun hp=>?_⟩
 have hT:=q4.1 (e0 hp)
 rw [elKd,za,newKds,za]
 refine newS_i fun b H5 hb e5 hs5 g5=>?_
 have x5:=x4.trans e5
 have f5:=f4.ext e5
 have sr5:=kds_sr g5
 refine zy.mk (fun t H'=>Ext H5 H'∧∃ i:Nat,i≤4∧t=(zm i,())∧∀ kd∈([7,8,9,10]:List Int).take i,∀ x∈fs,¬ yQ l kd x) (fun t _=>mi t.1 fun i=>(4 - i).toNat) ⟨Ext.refl _,0,by omega,rfl,by simp⟩ ?_
 rintro _ H6 ⟨e6,i,hi,rfl,hal⟩
 have x6:=x5.trans e6
 have f6:=f5.ext e6
 have sr6:=sr5.ext e6
 rw [sr6.lenE undKds,za,show ((([7,8,9,10]:List Int).map kdC).length:Int)=4 from rfl,zt,za,ze]
 refine ⟨fun hlt=>?_,fun hge=>?_⟩
 · have hil:i<4:=by omega
   have hei:(([7,8,9,10]:List Int).map kdC)[i]?=some (kdC ([7,8,9,10]:List Int)[i]):=by rw [List.getElem?_map,List.getElem?_eq_getElem hil]; rfl
   have htk:([7,8,9,10]:List Int).take (i+1)=([7,8,9,10]:List Int).take i++[([7,8,9,10]:List Int)[i]]:=List.take_succ_eq_append_getElem hil
   have hmem:([7,8,9,10]:List Int)[i]∈([7,8,9,10]:List Int):=List.getElem_mem hil
   generalize ([7,8,9,10]:List Int)[i]=kd at hei htk hmem
   have hkd:kd≠1000:=by
     rintro rfl
     simp at hmem
   obtain ⟨b2,o2,ha2,hcl2,_⟩:=sr6.el hei
   have c0:=hcl2 0 (by omega)
   rw [Nat.add_zero,show (kdC kd)[0]?=some (.int .u8 kd) from rfl] at c0
   rw [ha2,za,c0,za]
   refine files29 (h.ext x6) f6 hkd fun H7 s7 p7 e7 n7 q7=>?_
   rw [Yw n7,za,zN,za,ze]
   refine ⟨fun hp=>stop x6 e7 n7 (yJ.1 hp) fun S=>q7.2 (S.alone kd hmem),fun hp=>?_⟩
   rw [zk,za,zJ,zw (by omega)]
   refine ⟨⟨e6.trans e7,i+1,by omega,rfl,fun z hz=>?_⟩,by simp only [zC]; omega⟩
   rw [htk] at hz
   rcases List.mem_append.1 hz with h1 | h1
   · exact hal z h1
   · rw [List.mem_singleton.1 h1]; exact q7.1 (e0 hp)
 · have ei:i=4:=by omega
   subst ei
   have hA:∀ kd∈([7,8,9,10]:List Int),∀ x∈fs,¬ yQ l kd x:=hal
   refine wrongBits29 (h.ext x6) f6 hP fun H8 s8 p8 e8 n8 q8=>?_
   have x8:=x6.trans e8
   have f8:=f6.ext e8
   rw [Yw n8,za,zN,za,ze]
   refine ⟨fun hp=>stop x6 e8 n8 (yJ.1 hp) fun S=>q8.2 S.bits,fun hp=>?_⟩
   have hB:=q8.1 (e0 hp)
   refine files29 (h.ext x8) f8 (by decide) fun H9 s9 p9 e9 n9 q9=>?_
   have x9:=x8.trans e9
   have f9:=f8.ext e9
   rw [Yw n9,za,zN,za,ze]
   refine ⟨fun hp=>stop x8 e9 n9 (yJ.1 hp) fun S=>q9.2 S.hole,fun hp=>?_⟩
   have hH:=q9.1 (e0 hp)
   refine slotsC29 (h.ext x9) f9 hnd fun H10 s10 p10 e10 n10 q10=>?_
   have x10:=x9.trans e10
   have f10:=f9.ext e10
   rw [Yw n10,za,zN,za,ze]
   refine ⟨fun hp=>stop x9 e10 n10 (yJ.1 hp) fun S=>q10.2 S.slots,fun hp=>?_⟩
   have hS:=q10.1 (e0 hp)
   refine names29 (h.ext x10) f10 hnd fun H11 nv e11 n11=>?_
   have x11:=x10.trans e11
   have f11:=f10.ext e11
   have sn:=n11.sv.sr
   have hnl:=namesP_len l hnd
   have hfl:=f11.len
   have hin:=names_in gI1 hfs hS
   refine tree29 (h.ext x11) f11 hnd (fun x hx=>by have:=hfs.mem hx; omega) sn (by omega) hin fun H12 s12 p12 e12 n12 q12=>?_
   have x12:=x11.trans e12
   rw [Yw n12,za,zN,za,ze]
   refine ⟨fun hp=>stop x11 e12 n12 (yJ.1 hp) fun S=>q12.2 S.tree,fun hp=>?_⟩
   have hTr:=q12.1 (e0 hp)
   refine links29 (f11.ext e12) (sn.ext e12) (by omega) fun H13 s13 p13 e13 n13 q13=>?_
   exact k H13 s13 p13 15 fs (x12.trans e13) (n13.old x12.le) hfs ⟨fun e=>⟨hN,hP,hT,hA,hB,hH,hS,hTr,q13.1 e⟩,fun S=>q13.2 S.links⟩
end
def a3 (f:Nat→Int):Array Value:=#[zm (f 0),zm (f 1),zm (f 2)]
theorem a3_get (f:Nat→Int) {i:Nat} (h:i<3):(a3 f)[i]?=some (zm (f i)):=by
 match i,h with
 | 0,_=>rfl
 | 1,_=>rfl
 | 2,_=>rfl
theorem a3_set (f:Nat→Int) {i:Nat} (h:i<3) (v:Int):(a3 f).setIfInBounds i (zm v)=a3 fun j=>if j=i then v else f j:=by
 match i,h with
 | 0,_=>rfl
 | 1,_=>rfl
 | 2,_=>rfl
theorem zero3:zD Tryz.prog 252=some (.agg (a3 fun _=>0)):=by kernel_rfl
theorem buildGeo (a b c:Int):zv Tryz.prog 23 [(0,zm a),(1,zm b),(2,zm c)]=some (.agg #[zm a,zm b,zm c]):=by kernel_rfl
section
variable {H:Hp} {R:Value→Hp→Prop} {d:Nat} {dv:Value} {B L I:Int} {l:List (Int × Blk)}
theorem whole05 (hB:1≤B∧B≤1048576) (hrd:Sr 1025 H dv (l.map zO)) (hl:okL B (-1) l) (hlen:l.length≤1048576) (k:∀ H',Ext H H'→R (zm 0) H'):Fc Tryz.prog 147 #[.agg #[zm B,dv]] H R:=by
 refine fn147 ?_
 simp only [sh147,ZL,zeroHeld,za,zu]
 refine (Lo.start _ H:Lx H H []).boxA fun b1 H1 _ l1=>?_
 have d0:(#[zm B,dv]:Array Value)[0]?=some (zm B):=rfl
 have d1:(#[zm B,dv]:Array Value)[1]?=some dv:=rfl
 have l1:Lx H H1 [.box b1 #[zm B,dv] 81]:=l1
 simp only [zg,Nat.zero_add,Nat.add_zero,za]
 refine zT.mk (fun t H'=>H'=H1∧t.1=.bool false) ?_ ?_
 · rintro ⟨t,u⟩ H2 ⟨rfl,ht⟩
   simp only at ht
   subst ht
   rw [zl]
   refine l1.boxA fun b2 H3 _ l3=>?_
   refine zy.mk (fun t H'=>∃ (i:Nat) (p:Int),i≤l.length∧t=(zm p,zm i,())∧okL B p (l.drop i)∧Lx H H' [.box b1 #[zm B,dv] 81,.box b2 zB 65])
     (fun t _=>mi t.2.1 fun i=>(l.length - i).toNat) ⟨0,-1,by omega,rfl,hl,l3⟩ ?_
   rintro _ H4 ⟨i,p,hi,rfl,hdr,l4⟩
   have h4:=hrd.ext l4.ext0
   rw [l4.ld (i:=0) rfl,d1,za,h4.lenE yT,za,List.length_map,zt,za,ze]
   refine ⟨fun hlt=>?_,fun hge=>k H4 l4.ext0⟩
   have hil:i<l.length:=by omega
   have hei:(l.map zO)[i]?=some (zO l[i]):=by rw [List.getElem?_map,List.getElem?_eq_getElem hil]; rfl
   have hdrop:l.drop i=l[i] :: l.drop (i+1):=List.drop_eq_getElem_cons hil
   generalize l[i]=x at hei hdrop
   rw [hdrop] at hdr
   obtain ⟨q1,q2,q3,q4,q5⟩:=hdr
   obtain ⟨b,o,ha,hcl,hrow⟩:=h4.el hei
   have hr:=hrow 0 1025 (by omega)
   rw [Nat.add_zero,Y0 (c:=zO x) (n:=1025) (ZC q4)] at hr
   rw [za,ha,za,hr,za]
   refine l4.boxA fun b3 H5 _ l5=>?_
   refine l5.stAll (i:=2) rfl ZU (ZC q4) (heldC_ok q4) fun H6 l6=>?_
   have l6:Lx H H6 [.box b1 #[zm B,dv] 81,.box b2 zB 65,.box b3 (zO x) 149]:=l6
   simp only [zg,Nat.zero_add,Nat.add_zero,za]
   refine zT.mk (fun t H'=>H'=H6∧t.1=.bool false) ?_ ?_
   · rintro ⟨t,u⟩ H7 ⟨rfl,ht⟩
     simp only at ht
     subst ht
     rw [zl,l6.ld (i:=2) rfl,Ye,za,zk,za,zJ,zw (by omega)]
     exact ⟨⟨i+1,x.1,by omega,rfl,q5,l6.takeN 2⟩,by simp only [zC]; omega⟩
   · rw [l6.ld (i:=2) rfl,Ye,za,yX,za,decide_eq_false (by omega),zl,za,l6.ld (i:=0) rfl,d0,za,zU,za,decide_eq_false (by omega),zl]
     rw [Zj (l6.at (i:=2) rfl) (by rw [ZC q4]; omega),za,YY q4,l6.ldAll (i:=1) (n:=1024) rfl zF,za,eqXE_eql,eqB rowB q4 Zl,Option.map_some,za,decide_eq_false q3]
     exact ⟨rfl,rfl⟩
 · rw [l1.ld (i:=0) rfl,d0,za,zt,za,decide_eq_false (by omega),zl,za,zN,za,decide_eq_false (by omega)]
   exact ⟨rfl,rfl⟩
theorem dec3 (hg:Zo B L I) (k:∀ H',Ext H H'→R (.tuple #[.agg (zp B L I).cells,zm 0]) H'):Fc Tryz.prog 149 #[.agg (ZP (zp B L I)),zm B] H R:=by
 obtain ⟨gL1,gL2,gI1,gI2,gB1,gB2,gD⟩:=id hg
 have hnum:∀ i,i<3→(leB (ZP (zp B L I)) (8+4*i) 4:Int)=numI (zp B L I) i:=fun i hi=>by
   have h1:=supN_num (zp B L I) 9 (by omega) i (by omega)
   have h2:=numI_ok hg i
   show ((leB (supN (zp B L I) 9) (8+4*i) 4:Nat):Int)=_
   rw [h1]; omega
 have hb:IsB (ZP (zp B L I)):=YT _ 9
 refine fn149 ?_
 simp only [sh149,yj,buildLay,zero3,ZL,za,zu]
 generalize hc:ZP (zp B L I)=c at hnum hb
 refine (Lo.start _ H:Lx H H []).boxA fun b1 H1 _ l1=>?_
 refine l1.boxA fun b2 H2 _ l2=>?_
 refine l2.boxA fun b3 H3 _ l3=>?_
 refine zy.mk (fun t H'=>∃ (i:Nat) (f:Nat→Int),i≤3∧t=(zm i,())∧(∀ j,j<i→f j=numI (zp B L I) j)∧(∀ j,i≤j→f j=0)∧Lx H H' [.box b1 c 65,.box b2 zLay 62,.box b3 (a3 f) 252])
   (fun t _=>mi t.1 fun i=>(3 - i).toNat) ⟨0,fun _=>0,by omega,rfl,fun j hj=>by omega,fun j _=>rfl,l3⟩ ?_
 rintro _ H4 ⟨i,f,hi,rfl,hf1,hf2,l4⟩
 rw [zt,za,ze]
 refine ⟨fun hlt=>?_,fun hge=>?_⟩
 · refine zy.mk (fun t H'=>∃ (j:Nat),j≤4∧t=(zm (3 - (j:Int)),())∧Lx H H' [.box b1 c 65,.box b2 zLay 62,.box b3 (a3 fun z=>if z=i then (leB c (8+4*i+(4 - j)) j:Nat) else f z) 252])
     (fun t _=>mi t.1 fun x=>(x+1).toNat) ⟨0,by omega,rfl,by
       have e:(fun z=>if z=i then ((leB c (8+4*i+(4 - 0)) 0:Nat):Int) else f z)=f:=by
         funext z
         by_cases hz:z=i
         · rw [if_pos hz,hf2 z (by omega)]; rfl
         · rw [if_neg hz]
       rw [e]; exact l4⟩ ?_
   rintro _ H5 ⟨j,hj,rfl,l5⟩
   have hv:=leB_lt (c:=c) hb.lt j (8+4*i+(4 - j))
   have hv2:256 ^ j≤256 ^ 4:=Nat.pow_le_pow_right (by omega) hj
   generalize hv3:leB c (8+4*i+(4 - j)) j=v at hv l5
   rw [zU,za,ze]
   refine ⟨fun hge=>?_,fun hlt2=>?_⟩
   · have hv4:256 ^ j≤256 ^ 3:=Nat.pow_le_pow_right (by omega) (by omega)
     rw [zH (by omega),za,Nat.zero_add,Nat.mul_one,l5.ld (i:=2) rfl,a3_get _ (by omega),if_pos rfl,za,zZ,za,zh (x:=256*(v:Int)) (by omega) (by omega),zZ,za,zh (x:=4*(i:Int)) (by omega) (by omega),zk,za,zh (by omega) (by omega),zk,za,zh (by omega) (by omega),show ((8:Int)+4*(i:Int)+(3 - (j:Int)))=((8+4*i+(3 - j):Nat):Int) by omega,zH (by omega),za,Nat.zero_add,Nat.mul_one,l5.ld (i:=0) rfl,hb.get (by omega),za,zE,za]
     have hbl:=hb.lt (8+4*i+(3 - j))
     rw [zw (by omega),zk,za,zh (by omega) (by omega),za]
     refine l5.st (i:=2) (j:=i) (v:=zm (256*(v:Int)+(byt c (8+4*i+(3 - j)):Int))) rfl (by show i<3; omega) rfl rfl fun H6 l6=>?_
     rw [zV,za,zh (by omega) (by omega)]
     refine ⟨⟨j+1,by omega,?_,?_⟩,by simp only [zC]; omega⟩
     · rw [show (3 - (j:Int) - 1)=3 - ((j+1:Nat):Int) by omega]; rfl
     · have e1:leB c (8+4*i+(4 - (j+1))) (j+1)=byt c (8+4*i+(3 - j))+256*v:=by
         show byt c (8+4*i+(4 - (j+1)))+256*leB c (8+4*i+(4 - (j+1))+1) j=_
         rw [show 8+4*i+(4 - (j+1))+1=8+4*i+(4 - j) by omega,hv3,show 8+4*i+(4 - (j+1))=8+4*i+(3 - j) by omega]
       rw [a3_set _ (by omega)] at l6
       have e2:(fun z=>if z=i then 256*(v:Int)+(byt c (8+4*i+(3 - j)):Int) else if z=i then (v:Int) else f z)=fun z=>if z=i then ((leB c (8+4*i+(4 - (j+1))) (j+1):Nat):Int) else f z:=by
         funext z
         by_cases hz:z=i
         · rw [if_pos hz,if_pos hz,e1]; omega
         · rw [if_neg hz,if_neg hz,if_neg hz]
       rw [← e2]; exact l6
   · have ej:j=4:=by omega
     subst ej
     rw [Nat.sub_self,Nat.add_zero] at hv3
     rw [zk,za,zJ,zw (by omega)]
     refine ⟨⟨i+1,_,by omega,rfl,fun z hz=>?_,fun z hz=>?_,l5⟩,by simp only [zC]; omega⟩
     · by_cases e:z=i
       · simp only [e,if_true]
         rw [← hv3]; exact hnum i (by omega)
       · simp only [e,if_false]; exact hf1 z (by omega)
     · simp only [show z≠i by omega,if_false]; exact hf2 z (by omega)
 · have ei:i=3:=by omega
   subst ei
   have e0:f 0=B:=hf1 0 (by omega)
   have e1:f 1=L:=hf1 1 (by omega)
   have e2:f 2=I:=hf1 2 (by omega)
   have a0:∀ {k:IntKind},zi (some (some 3,1)) (.pointer (some ⟨b3,0,none⟩)) (.int k 0)=some (.pointer (some ⟨b3,0,none⟩)):=fun {k}=>by
     have:=@zH 3 1 b3 0 0 k (by omega)
     simpa using this
   have a1:∀ {k:IntKind},zi (some (some 3,1)) (.pointer (some ⟨b3,0,none⟩)) (.int k 1)=some (.pointer (some ⟨b3,1,none⟩)):=fun {k}=>by
     have:=@zH 3 1 b3 0 1 k (by omega)
     simpa using this
   have a2:∀ {k:IntKind},zi (some (some 3,1)) (.pointer (some ⟨b3,0,none⟩)) (.int k 2)=some (.pointer (some ⟨b3,2,none⟩)):=fun {k}=>by
     have:=@zH 3 1 b3 0 2 k (by omega)
     simpa using this
   rw [a0,za,l4.ld (i:=2) rfl,a3_get f (by omega),za,a1,za,l4.ld (i:=2) rfl,a3_get f (by omega),za,a2,za,l4.ld (i:=2) rfl,a3_get f (by omega),za,e0,e1,e2,buildGeo,za]
   refine of3 (by omega) (fun H5 e5 _=>?_) (fun H5 e5 hno=>absurd hg hno)
   rw [show zf (.tuple #[.agg (zp B L I).cells,.int .i64 0]) 0=some (.agg (zp B L I).cells) from rfl,za,show zf (.tuple #[.agg (zp B L I).cells,.int .i64 0]) 1=some (zm 0) from rfl,za]
   refine (l4.ext e5).boxA fun b4 H6 _ l6=>?_
   refine l6.stAll (i:=3) rfl rfl (Lay.size _) (Lay.cok _) fun H7 l7=>?_
   rw [l7.ldAll (i:=3) (n:=9) rfl (Lay.size _),za]
   refine enc3 (by omega) hg fun H8 e8=>?_
   rw [hc,show zf (.tuple #[.agg c,zm 0]) 0=some (.agg c) from rfl,za,show zf (.tuple #[.agg c,zm 0]) 1=some (zm 0) from rfl,za]
   refine (l7.ext e8).boxA fun b5 H9 _ l9=>?_
   refine l9.stAll (i:=4) rfl zF hb.size hb.ok fun H10 l10=>?_
   have l10:Lx H H10 [.box b1 c 65,.box b2 zLay 62,.box b3 (a3 f) 252,.box b4 (zp B L I).cells 62,.box b5 c 65]:=l10
   refine zT.mk (fun t H'=>H'=H10∧t.1=.bool false) ?_ ?_
   · rintro ⟨t,u⟩ H11 ⟨rfl,ht⟩
     simp only at ht
     subst ht
     rw [zl,l10.ldAll (i:=3) (n:=9) rfl (Lay.size _),za]
     exact l10.ret (i:=1) (K:=fun x H4=>R (.tuple #[x,zm 0]) H4) rfl rfl (Lay.size _) (Lay.cok _) fun H' l'=>k H' l'.ext0
   · rw [zx,za,decide_eq_false (by omega),zl,za,zl,l10.ldAll (i:=4) (n:=1024) rfl hb.size,za,l10.ldAll (i:=0) (n:=1024) rfl hb.size,za,yq,eqB rowB hb hb,Option.map_some,za]
     simp only [decide_true,Bool.not_true,zl]
     rw [za,l10.ld (i:=2) rfl,a3_get f (by omega),za,e0,zN,za,decide_eq_false (by omega)]
     exact ⟨trivial,rfl⟩
end
theorem buildDisk (B B' L I a b c d e f:Int) (x:Option Addr) (n m:Nat):zv Tryz.prog 188 [(0,.agg #[zm B,.slice x n m]),(1,.agg (Lay.cells ⟨B',L,I,a,b,c,d,e,f⟩)),(2,.agg zHd)]=some (.agg #[zm B,.slice x n m,zm B',zm L,zm I,zm a,zm b,zm c,zm d,zm e,zm f,.slice none 0 0]):=by kernel_rfl
theorem zHd_ok:zG zHd:=by unfold zG; rw [← Array.all_toList]; rfl
section
variable {H:Hp} {R:Value→Hp→Prop} {d:Nat} {dv:Value} {B L I:Int} {l:List (Int × Blk)}
theorem inside1 {a:Int} (k:R (.bool (decide (0≤a∧a<1024))) H):Fc Tryz.prog 198 #[zm a] H R:=by
 refine fn198 ?_
 simp only [sh198]
 rw [zU,za,ze]
 refine ⟨fun h=>?_,fun h=>?_⟩
 · rw [zt,za,show decide (a<1024)=decide (0≤a∧a<1024) from dec_dec ⟨fun e=>⟨h,e⟩,fun e=>e.2⟩]; exact k
 · rw [show decide (0≤a∧a<1024)=false from decide_eq_false fun e=>h e.1] at k; exact k
theorem u32z (k:∀ H',Ext H H'→R (.int .u32 0) H'):Fc Tryz.prog 172 #[.agg zB,zm 0] H R:=by
 refine fn172 ?_
 simp only [sh172]
 refine (Lo.start _ H:Lx H H []).boxA fun b1 H1 _ l1=>?_
 rw [l1.ldAll (i:=0) (n:=1024) rfl zF,za]
 refine fn193 ?_
 simp only [sh193,zu]
 refine l1.boxA fun b2 H2 _ l2=>?_
 refine zT.mk (fun t H'=>H'=H2∧t.1=.bool false) ?_ ?_
 · rintro ⟨t,u⟩ H3 ⟨rfl,ht⟩
   simp only at ht
   subst ht
   rw [zl,zV,za,zh (by omega) (by omega)]
   refine zy.mk (fun t H'=>H'=H3∧∃ j:Nat,j≤4∧t=(.int .u32 0,zm (3 - (j:Int)),())) (fun t _=>mi t.2.1 fun x=>(x+1).toNat) ⟨rfl,0,by omega,rfl⟩ ?_
   rintro _ H4 ⟨rfl,j,hj,rfl⟩
   rw [zU,za,ze]
   refine ⟨fun hge=>?_,fun hlt=>k _ l2.ext0⟩
   rw [zZ,za,Zm (by omega) (by omega),zk,za,zh (by omega) (by omega),show (0:Int)+(3 - (j:Int))=((3 - j:Nat):Int) by omega,zH (by omega),za,Nat.zero_add,Nat.mul_one,l2.ld (i:=1) rfl,zB_get (by omega),za,zE,za,Zm (by omega) (by omega),zk,za,Zm (by omega) (by omega),zV,za,zh (by omega) (by omega)]
   refine ⟨⟨rfl,j+1,by omega,?_⟩,by simp only [zC]; omega⟩
   rw [show (3 - (j:Int) - 1)=3 - ((j+1:Nat):Int) by omega]; rfl
 · refine inside1 ?_
   rw [decide_eq_true (by omega),zM,za,Bool.not_true,zl,zk,za,zh (by omega) (by omega),zV,za,zh (by omega) (by omega)]
   refine inside1 ?_
   rw [decide_eq_true (by omega),zM,za,Bool.not_true]
   exact ⟨rfl,rfl⟩
theorem may7 {x:Lay} (hL:1≤x.L∧x.L≤9223372036854775807) (k:∀ H',Ext H H'→R (.bool true) H'):Fc Tryz.prog 173 #[.agg x.cells,.agg zHd] H R:=by
 refine fn173 ?_
 simp only [sh173,zu]
 refine (Lo.start _ H:Lx H H []).boxA fun b1 H1 _ l1=>?_
 refine l1.boxA fun b2 H2 _ l2=>?_
 have z0:zHd[0]?=some (.slice none 0 0):=rfl
 have x1:x.cells[1]?=some (zm x.L):=rfl
 simp only [zg,Nat.zero_add,Nat.add_zero,za]
 rw [l2.ld (i:=1) rfl,z0,za,lenNilInts,za,l2.ld (i:=0) rfl,x1,za,zV,za,zh (by omega) (by omega),zN,za,decide_eq_false (by omega),zl]
 refine zy.mk (fun t H'=>H'=H2∧t=(zm 0,())) (fun _ _=>0) ⟨rfl,rfl⟩ ?_
 rintro _ H3 ⟨rfl,rfl⟩
 rw [l2.ld (i:=1) rfl,z0,za,lenNilInts,za,zt,za,decide_eq_false (by omega),zl]
 exact k _ l2.ext0
theorem dec7 (hg:Zo B L I) (k:∀ H',Ext H H'→R (.tuple #[.agg zHd,zm 0]) H'):Fc Tryz.prog 133 #[.agg (zp B L I).cells,.agg zB] H R:=by
 obtain ⟨gL1,gL2,gI1,gI2,gB1,gB2,gD⟩:=id hg
 have c1:(zp B L I).cells[1]?=some (zm L):=rfl
 refine fn133 ?_
 simp only [sh133,zeroHd,za,zu]
 refine (Lo.start _ H:Lx H H []).boxA fun b1 H1 _ l1=>?_
 refine l1.boxA fun b2 H2 _ l2=>?_
 refine l2.boxA fun b3 H3 _ l3=>?_
 rw [l3.ldAll (i:=0) (n:=9) rfl (Lay.size _),za]
 refine fits3 (by omega) hg fun H4 e4=>?_
 have l4:=l3.ext e4
 rw [zM,za,Bool.not_true,zl,l4.ldAll (i:=1) (n:=1024) rfl zF,za]
 refine u32z fun H5 e5=>?_
 have l5:=l4.ext e5
 rw [zE,za,zh (by omega) (by omega),zg,za,zg,za,Nat.zero_add,l5.ld (i:=0) rfl,c1,za,zV,za,zh (by omega) (by omega),zN,za,decide_eq_false (by omega),zl]
 refine l5.boxA fun b6 H6 _ l6=>?_
 refine zy.mk (fun t H'=>H'=H6∧t=(zm 0,())) (fun _ _=>0) ⟨rfl,rfl⟩ ?_
 rintro _ H7 ⟨rfl,rfl⟩
 rw [zt,za,decide_eq_false (by omega),zl,l6.ldAll (i:=0) (n:=9) rfl (Lay.size _),za,l6.ldAll (i:=3) (n:=1) rfl rfl,za]
 refine may7 (x:=zp B L I) (show 1≤L∧L≤9223372036854775807 by omega) fun H8 e8=>?_
 have l8:=l6.ext e8
 rw [zM,za,Bool.not_true,zl,l8.ldAll (i:=3) (n:=1) rfl rfl,za]
 exact l8.ret (i:=2) (K:=fun x H4=>R (.tuple #[x,zm 0]) H4) rfl rfl rfl zHd_ok fun H' l'=>k H' l'.ext0
structure ImOk (H:Hp) (dv:Value) (B L I:Int) (l:List (Int × Blk)):Prop where
 rd:Sr 1025 H dv (l.map zO)
 whole:okL B (-1) l
 is:∀ x∈l,IsB x.2
 len:l.length≤1048576
 ok:Zo B L I
 sup:zX l 0=ZP (zp B L I)
 hd:zX l 1=zB
set_option maxHeartbeats 1000000 in
theorem open29 (h:ImOk H dv B L I l) (k:∀ H' d,Ext H H'→Lk H' d dv B L I l→R (.tuple #[zW d,.slice none 0 0]) H'):Fc Tryz.prog 116 #[.agg #[zm B,dv]] H R:=by
 obtain ⟨gL1,gL2,gI1,gI2,gB1,gB2,gD⟩:=id h.ok
 have hsup:IsB (ZP (zp B L I)):=YT _ 9
 obtain ⟨vb,vc,ev⟩:=h.rd.len
 have d0:(#[zm B,dv]:Array Value)[0]?=some (zm B):=rfl
 have c3:(zp B L I).cells[3]?=some (zm 1):=rfl
 refine fn116 ?_
 simp only [sh116,zu]
 refine (Lo.start _ H:Lx H H []).boxA fun b1 H1 _ l1=>?_
 have l1:Lx H H1 [.box b1 #[zm B,dv] 81]:=l1
 rw [l1.ldAll (i:=0) (n:=2) rfl rfl,za]
 refine whole05 ⟨gB1,gB2⟩ (h.rd.ext l1.ext0) h.whole h.len fun H2 e2=>?_
 have l2:=l1.ext e2
 rw [zx,za,decide_eq_false (by omega),zl,l2.ldAll (i:=0) (n:=2) rfl rfl,za]
 refine ⟨.agg (ZP (zp B L I)),fun H'' e''=>at05 (h.rd.ext (l2.ext0.trans e'')) h.is h.len fun H3 e3=>⟨by rw [h.sup],e3⟩,?_⟩
 rw [zg,za,Nat.zero_add,l2.ld (i:=0) rfl,d0,za]
 have x3:∀ {a b:Value},zf (.tuple #[a,b]) 0=some a:=rfl
 have x4:∀ {a b:Value},zf (.tuple #[a,b]) 1=some b:=rfl
 have fin:∀ {H':Hp} {b2 b3:Nat},Lx H H' [.box b1 #[zm B,dv] 81,.box b2 (zp B L I).cells 62,.box b3 zHd 151] →
     Pu (zb (some (some 2)) (zW b1) H') fun x77=>Pu (zb (some (some 9)) (zW b2) H') fun x78=>Pu (zb (some (some 1)) (zW b3) H') fun x79=>Pu (zv Tryz.prog 188 [(0,x77),(1,x78),(2,x79)]) fun x80=>Box 188 x80 H' fun x81 H55=>R (.tuple #[x81,(.slice none 0 0)]) H55:=by
   intro H' b2 b3 l3
   rw [l3.ldAll (i:=0) (n:=2) rfl rfl,za,l3.ldAll (i:=1) (n:=9) rfl (Lay.size _),za,l3.ldAll (i:=2) (n:=1) rfl rfl,za]
   subst ev
   unfold zp
   rw [buildDisk,za]
   refine l3.boxA fun d H4 e4 l4=>?_
   exact k H4 d l4.ext0 ⟨l4.at (i:=3) rfl,h.rd.ext l4.ext0,h.is,h.len,h.ok⟩
 have qz:∀ {H':Hp},Ext H H'→QC true Tryz.prog 150 #[.agg #[zm B,dv],zm 1] H' (.agg zB):=fun e H'' e''=>at05 (h.rd.ext (e.trans e'')) h.is h.len fun H3 e3=>⟨by rw [h.hd],e3⟩
 refine ⟨?_,?_,trivial⟩
 · rw [zq]
   intro H3 e3
   refine dec3 h.ok fun H4 e4=>?_
   rw [x3,za,x4,za,zq]
   intro H5 e5
   rw [yj,za]
   refine (((l2.ext e3).ext e4).ext e5).boxA fun b2 H6 _ l6=>?_
   rw [zq]
   intro H7 e7
   refine (l6.ext e7).stAll (i:=1) (n:=9) rfl rfl (Lay.size _) (Lay.cok _) fun H8 l8=>?_
   rw [zq]
   intro H9 e9
   have l9:Lx H H9 [.box b1 #[zm B,dv] 81,.box b2 (zp B L I).cells 62]:=l8.ext e9
   rw [zx,za,decide_eq_false (by omega),zl,l9.ldAll (i:=1) (n:=9) rfl (Lay.size _),za,l9.ldAll (i:=0) (n:=2) rfl rfl,za,zg,za,Nat.zero_add,l9.ld (i:=1) rfl,c3,za]
   refine ⟨_,qz l9.ext0,?_⟩
   refine ⟨?_,?_,trivial⟩
   · rw [zq]
     intro K1 f1
     refine dec7 h.ok fun K2 f2=>?_
     rw [x3,za,x4,za,zq]
     intro K3 f3
     rw [zeroHd,za]
     refine (((l9.ext f1).ext f2).ext f3).boxA fun b3 K4 _ l10=>?_
     rw [zq]
     intro K5 f5
     refine (l10.ext f5).stAll (i:=2) (n:=1) rfl rfl rfl zHd_ok fun K6 l11=>?_
     rw [zq]
     intro K7 f7
     rw [zx,za,decide_eq_false (by omega),zl]
     exact fin (l11.ext f7)
   · rw [zq]
     intro K1 f1
     rw [zeroHd,za]
     refine (l9.ext f1).boxA fun b3 K2 _ l10=>?_
     rw [zq]
     intro K3 f3
     refine dec7 h.ok fun K4 f4=>?_
     rw [x3,za,x4,za,zq]
     intro K5 f5
     refine (((l10.ext f3).ext f4).ext f5).stAll (i:=2) (n:=1) rfl rfl rfl zHd_ok fun K6 l11=>?_
     rw [zq]
     intro K7 f7
     rw [zx,za,decide_eq_false (by omega),zl]
     exact fin (l11.ext f7)
 · rw [zq]
   intro H3 e3
   rw [yj,za]
   refine (l2.ext e3).boxA fun b2 H4 _ l4=>?_
   rw [zq]
   intro H5 e5
   refine dec3 h.ok fun H6 e6=>?_
   rw [x3,za,x4,za,zq]
   intro H7 e7
   refine (((l4.ext e5).ext e6).ext e7).stAll (i:=1) (n:=9) rfl rfl (Lay.size _) (Lay.cok _) fun H8 l8=>?_
   rw [zq]
   intro H9 e9
   have l9:Lx H H9 [.box b1 #[zm B,dv] 81,.box b2 (zp B L I).cells 62]:=l8.ext e9
   rw [zx,za,decide_eq_false (by omega),zl,l9.ldAll (i:=1) (n:=9) rfl (Lay.size _),za,l9.ldAll (i:=0) (n:=2) rfl rfl,za,zg,za,Nat.zero_add,l9.ld (i:=1) rfl,c3,za]
   refine ⟨_,qz l9.ext0,?_⟩
   refine ⟨?_,?_,trivial⟩
   · rw [zq]
     intro K1 f1
     refine dec7 h.ok fun K2 f2=>?_
     rw [x3,za,x4,za,zq]
     intro K3 f3
     rw [zeroHd,za]
     refine (((l9.ext f1).ext f2).ext f3).boxA fun b3 K4 _ l10=>?_
     rw [zq]
     intro K5 f5
     refine (l10.ext f5).stAll (i:=2) (n:=1) rfl rfl rfl zHd_ok fun K6 l11=>?_
     rw [zq]
     intro K7 f7
     rw [zx,za,decide_eq_false (by omega),zl]
     exact fin (l11.ext f7)
   · rw [zq]
     intro K1 f1
     rw [zeroHd,za]
     refine (l9.ext f1).boxA fun b3 K2 _ l10=>?_
     rw [zq]
     intro K3 f3
     refine dec7 h.ok fun K4 f4=>?_
     rw [x3,za,x4,za,zq]
     intro K5 f5
     refine (((l10.ext f3).ext f4).ext f5).stAll (i:=2) (n:=1) rfl rfl rfl zHd_ok fun K6 l11=>?_
     rw [zq]
     intro K7 f7
     rw [zx,za,decide_eq_false (by omega),zl]
     exact fin (l11.ext f7)
end
abbrev Ei:=Itm × Value × Value
def iN (e:Ei):Nel:=⟨YD e.1 e.2.1 e.2.2,[⟨e.2.1,149,1025,e.1.data.map zO⟩,⟨e.2.2,241,2,e.1.slots.map ZS⟩]⟩
def stC (iv:Value) (f s:Int):Array Value:=#[iv,zm f,zm s]
theorem zeroSt:zD Tryz.prog 26=some (.agg (stC (.slice none 0 0) 0 0)):=by kernel_rfl
theorem buildSt0:zv Tryz.prog 26 []=some (.agg (stC (.slice none 0 0) 0 0)):=by kernel_rfl
theorem buildSt (a b:Int):zv Tryz.prog 26 [(1,zm a),(2,zm b)]=some (.agg (stC (.slice none 0 0) a b)):=by kernel_rfl
theorem stC_ok {b:Option Addr} {n c:Nat} {f s:Int}:zG (stC (.slice b n c) f s):=by unfold zG; rw [← Array.all_toList]; rfl
noncomputable def eItm:ZO:=orE (zK Tryz.prog 24)
set_option maxRecDepth 100000 in
theorem elItm:zK Tryz.prog 24=some eItm:=by kernel_rfl
set_option maxRecDepth 100000 in
theorem eItm_f:eItm.type=142∧eItm.size=7∧eItm.zero.size=7∧eItm.bytes=88:=⟨by kernel_rfl,by kernel_rfl,by kernel_rfl,by kernel_rfl⟩
noncomputable def idsP (B L I:Int) (l:List (Int × Blk)) (n:Nat):List Nat:=((List.range n).map (·+1)).filter fun i=>decide (Yl B L I l i 0≠0)
noncomputable def itI (B L I:Int) (l:List (Int × Blk)) (i:Nat):Itm:=itP l ⟨i,Yl B L I l i,.bool false,Ya B L I l (Yl B L I l i)⟩
theorem FlsOk.its {B L I:Int} {l:List (Int × Blk)} {n:Nat} {fs:List Fl} (h:FlsOk B L I l n fs):fs.map (itP l)=(idsP B L I l n).map (itI B L I l):=by
 have e:idsP B L I l n=fs.map (·.i):=h.ids.symm
 rw [e,List.map_map]
 refine List.map_congr_left fun x hx=>?_
 obtain ⟨h1,h2⟩:=h.is x hx
 obtain ⟨i,f,v,sp⟩:=x
 simp only at h1 h2
 subst h1
 subst h2
 rfl
theorem FlsOk.blks {B L I:Int} {l:List (Int × Blk)} {n:Nat} {fs:List Fl} (h:FlsOk B L I l n fs):Zb fs=(idsP B L I l n).flatMap fun i=>(Ya B L I l (Yl B L I l i)).map (·.2):=by
 have e:idsP B L I l n=fs.map (·.i):=h.ids.symm
 have key:∀ gs:List Fl,(∀ x∈gs,x∈fs)→Zb gs=(gs.map (·.i)).flatMap fun i=>(Ya B L I l (Yl B L I l i)).map (·.2):=by
   intro gs
   induction gs with
   | nil=>intro _; rfl
   | cons x r ih=>
     intro hg
     obtain ⟨h1,h2⟩:=h.is x (hg x (List.mem_cons_self ..))
     have e1:Zb (x :: r)=x.sp.map (·.2)++Zb r:=by simp [Zb]
     rw [e1,ih fun y hy=>hg y (List.mem_cons_of_mem _ hy),List.map_cons,List.flatMap_cons,h2,h1]
 rw [e]; exact key fs fun x hx=>hx
theorem FlsOk.lenI {B L I:Int} {l:List (Int × Blk)} {n:Nat} {fs:List Fl} (h:FlsOk B L I l n fs):fs.length=(idsP B L I l n).length:=by
 have e:idsP B L I l n=fs.map (·.i):=h.ids.symm
 rw [e,List.length_map]
section
variable {H:Hp} {R:Value→Hp→Prop} {d:Nat} {dv:Value} {B L I:Int} {l:List (Int × Blk)}
theorem st_at {H H':Hp} {iv:Value} {es:List Ei} (h:New H H' (.nest 142 7 iv (es.map iN))):StAt H' iv (es.map (·.1)):=by
 refine ⟨es.map fun e=>YD e.1 e.2.1 e.2.2,?_,by simp,fun i t ht=>?_⟩
 · have:=h.nest_sv.sr
   rw [List.map_map] at this
   exact this
 · rw [List.getElem?_map] at ht
   cases he:es[i]? with
   | none=>rw [he] at ht; cases ht
   | some e=>
     rw [he] at ht
     injection ht with ht
     have hm:iN e∈es.map iN:=List.mem_map.2 ⟨e,List.mem_of_getElem? he,rfl⟩
     refine ⟨e.2.1,e.2.2,by rw [List.getElem?_map,he,← ht]; rfl,?_,?_⟩
     · rw [← ht]; exact (h.nest_sub _ hm _ (List.mem_cons_self ..)).sr
     · rw [← ht]; exact (h.nest_sub _ hm _ (List.mem_cons_of_mem _ (List.mem_cons_self ..))).sr
set_option maxHeartbeats 1000000 in
theorem look29 (h:ImOk H dv B L I l)
   (kbad:∀ H' s' (n:Nat) fs,Ext H H'→n≠0→lenE Tryz.prog 131 s'=some (zm n)→FlsOk B L I l I.toNat fs→¬ Sound B L I l fs→R (.tuple #[.agg (stC (.slice none 0 0) 0 0),s']) H')
   (k:∀ H' iv (es:List Ei) fs,Ext H H'→FlsOk B L I l I.toNat fs→Sound B L I l fs→es.map (·.1)=fs.map (itP l)→New H H' (.nest 142 7 iv (es.map iN))→R (.tuple #[.agg (stC iv (B - (zp B L I).dataAt - ((Zb fs).length:Nat)) (I - (fs.length:Nat))),.slice none 0 0]) H') :
   Fc Tryz.prog 74 #[.agg #[zm B,dv]] H R:=by
 obtain ⟨gL1,gL2,gI1,gI2,gB1,gB2,gD⟩:=id h.ok
 have hDA:(zp B L I).dataAt=1+L+(I+16) / 16+(B+8191) / 8192:=rfl
 have hBB:(zp B L I).B=B:=rfl
 have hII:(zp B L I).I=I:=rfl
 have x3:∀ {a b:Value},zf (.tuple #[a,b]) 0=some a:=rfl
 have x4:∀ {a b:Value},zf (.tuple #[a,b]) 1=some b:=rfl
 refine fn74 ?_
 simp only [sh74,zeroSt,buildSt0,za,zu]
 refine (Lo.start _ H:Lx H H []).boxA fun b1 H1 _ l1=>?_
 refine l1.boxA fun b2 H2 _ l2=>?_
 have l2:Lx H H2 [.box b1 #[zm B,dv] 81,.box b2 (stC (.slice none 0 0) 0 0) 26]:=l2
 rw [l2.ldAll (i:=0) (n:=2) rfl rfl,za]
 have hx:∀ {H'},Ext H H'→ImOk H' dv B L I l:=fun e=>⟨h.rd.ext e,h.whole,h.is,h.len,h.ok,h.sup,h.hd⟩
 refine open29 (hx l2.ext0) fun H3 d e3 lk=>?_
 have l3:=l2.ext e3
 rw [x3,za,x4,za,show yg Tryz.prog 181 true .eql (zW d) (.pointer none) H3=some (.bool false) from yO (e:=188) (by kernel_rfl),za,zl]
 refine wrongs29 lk fun H4 s4 ps kd fs e4 n4 hfs q4=>?_
 have l4:=l3.ext e4
 rw [Yw n4,za,zN,za,ze]
 refine ⟨fun hp=>?_,fun hp=>?_⟩
 · have hne:=yJ.1 hp
   refine l4.ret (i:=1) (K:=fun x H4=>R (.tuple #[x,s4]) H4) rfl rfl rfl stC_ok fun H' l'=>kbad H' s4 ps.length fs l'.ext0 ?_ (Yw n4) hfs fun S=>hne (q4.2 S)
   rintro e
   exact hne (List.length_eq_zero_iff.1 e)
 · have hs:=q4.1 (Classical.not_not.1 fun e=>hp (yJ.2 e))
   refine lk_files (lk.ext e4) fun H5 fv fs2 e5 n5 hfs2=>?_
   have hf5:=files_fr (lk.ext e4) (by omega) hfs2 n5
   have lk5:=(lk.ext e4).ext e5
   have l5:=l4.ext e5
   have hfl:=hf5.len
   have hbl:=blksP_len hf5.few
   simp only [zc,zg,Nat.zero_add,Nat.add_zero,Nat.reduceAdd,za]
   rw [zo lk5.top,lkC2,za,zo lk5.top,lkC10,za,zV,za,zo lk5.top,lkC4,za,hf5.row.lenE yD,za,List.length_map,zV,za,hBB,hII,zh (x:=B - (zp B L I).dataAt) (by omega) (by omega),zh (x:=I - (fs2.length:Int)) (by omega) (by omega),buildSt,za,zq]
   intro H6 e6
   refine ((Lo.start _ H5:Lx H5 H5 []).ext e6).boxA fun b3 H7 _ l7=>?_
   rw [zq]
   intro H8 e8
   refine (l7.ext e8).stAll (i:=0) (n:=3) rfl rfl rfl stC_ok fun H9 l9=>?_
   rw [zq]
   intro H10 e10
   have l10:=(l9.ext e10).new (Ext.refl _) (New.nilN H10 142 7)
   have s0:∀ {iv:Value} {f s:Int},(stC iv f s)[0]?=some iv:=rfl
   have s1:∀ {iv:Value} {f s:Int},(stC iv f s)[1]?=some (zm f):=rfl
   refine zy.mk (fun t H'=>∃ (i:Nat) (iv:Value) (es:List Ei),i≤fs2.length∧t=(zm i,())∧es.map (·.1)=(fs2.take i).map (itP l)∧Lx H5 H' [.box b3 (stC iv (B - (zp B L I).dataAt - ((Zb (fs2.take i)).length:Nat)) (I - (fs2.length:Nat))) 26,.nest 142 7 iv (es.map iN)])
     (fun t _=>mi t.1 fun i=>(fs2.length - i).toNat) ⟨0,.slice none 0 0,[],by omega,rfl,rfl,by
       have e0:B - (zp B L I).dataAt - ((Zb (fs2.take 0)).length:Nat)=B - (zp B L I).dataAt:=by simp [Zb]
       rw [e0]; exact l10⟩ ?_
   rintro _ H11 ⟨i,iv,es,hi,rfl,hes,l11⟩
   have hf11:=hf5.ext l11.ext0
   have lk11:=lk5.ext l11.ext0
   rw [za,zt,za,ze]
   refine ⟨fun hlt=>?_,fun hge=>?_⟩
   · have hil:i<fs2.length:=by omega
     have hei:(fs2.map flC)[i]?=some (flC fs2[i]):=by rw [List.getElem?_map,List.getElem?_eq_getElem hil]; rfl
     have htk:fs2.take (i+1)=fs2.take i++[fs2[i]]:=List.take_succ_eq_append_getElem hil
     have hmem:fs2[i]∈fs2:=List.getElem_mem hil
     have hpl:=blksP_len (fs:=fs2.take i) fun y hy=>hf5.few y (List.mem_of_mem_take hy)
     rw [List.length_take] at hpl
     have hel:es.length≤i:=by
       have:=congrArg List.length hes
       rw [List.length_map,List.length_map,List.length_take] at this; omega
     generalize fs2[i]=x at hei htk hmem
     have hbt:(Zb (fs2.take (i+1))).length=(Zb (fs2.take i)).length+x.sp.length:=by rw [htk,blksP_app,blksP_one,List.length_append,List.length_map]
     have hfew:=hf5.few x hmem
     obtain ⟨bv,cv,exv⟩:=(hf5.sub x hmem).len
     obtain ⟨b,o,ha,hcl,hrow⟩:=hf11.row.el hei
     have hr:=hrow 0 18 (by omega)
     rw [Nat.add_zero,Y0 (c:=flC x) (n:=18) rfl] at hr
     refine zT.mk (fun _ H'=>∃ (iv':Value) (e:Ei),e.1=itP l x∧Lx H5 H' [.box b3 (stC iv' (B - (zp B L I).dataAt - ((Zb (fs2.take i)).length:Nat)) (I - (fs2.length:Nat))) 26,.nest 142 7 iv' ((es++[e]).map iN)]) ?_ ?_
     · rintro t H12 ⟨iv',e,he,l12⟩
       obtain ⟨b',o',ha',hcl',_⟩:=(hf5.ext l12.ext0).row.el hei
       simp only [zg,Nat.zero_add,Nat.add_zero,za]
       rw [l12.ld (i:=0) rfl,s1,za,ha',za,zg,za,hcl' 17 (by omega),show (flC x)[17]?=some x.v from rfl,za,(hf5.sub x hmem).lenE YR,za,List.length_map,zV,za,zh (by omega) (by omega)]
       refine l12.st (i:=0) (j:=1) (v:=zm (B - (zp B L I).dataAt - ((Zb (fs2.take i)).length:Nat) - (x.sp.length:Int))) rfl (by exact (by decide:1<3)) rfl rfl fun H13 l13=>?_
       rw [zk,za,zJ,zw (by omega)]
       refine ⟨⟨i+1,iv',es++[e],by omega,rfl,?_,?_⟩,by simp only [zC]; omega⟩
       · rw [htk,List.map_append,List.map_append,hes]
         show _++[e.1]=_++[itP l x]
         rw [he]
       · have e2:B - (zp B L I).dataAt - ((Zb (fs2.take i)).length:Nat) - (x.sp.length:Int)=B - (zp B L I).dataAt - ((Zb (fs2.take (i+1))).length:Nat):=by rw [hbt]; omega
         rw [← e2]; exact l13
     · simp only [zg,Nat.zero_add,Nat.add_zero,za]
       rw [ha,za,hr,za]
       have fin:∀ {H':Hp} {v1 v2:Value} {C:Hp→Prop},Lx H5 H' [.box b3 (stC iv (B - (zp B L I).dataAt - ((Zb (fs2.take i)).length:Nat)) (I - (fs2.length:Nat))) 26,.nest 142 7 iv (es.map iN),.subs [⟨v1,149,1025,(itP l x).data.map zO⟩,⟨v2,241,2,(itP l x).slots.map ZS⟩]] →
           (∀ H'' iv' ,Lx H5 H'' [.box b3 (stC iv' (B - (zp B L I).dataAt - ((Zb (fs2.take i)).length:Nat)) (I - (fs2.length:Nat))) 26,.nest 142 7 iv' ((es++[(itP l x,v1,v2)]).map iN)]→C H'') →
           ForX true H' fun H27=>Pu (zK Tryz.prog 24) fun x64=>Pu (zI (some x64) 1 [(0,.agg (YD (itP l x) v1 v2))]) fun x65=>NewS x64.type 1 x65 H27 fun x66 H28=>ForX true H28 fun H29=>Ys (zK Tryz.prog 24) iv x66 H29 fun x67 H30=>ForX true H30 fun H31=>Pu (zj (some 1) (zW b3) x67 H31) fun H32=>ForX true H32 fun H33=>C H33:=by
         intro H' v1 v2 C l6 hk
         rw [zq]
         intro H27 e27
         obtain ⟨q1,w1,ew1⟩:=((l6.ssub (i:=2) rfl) _ (List.mem_cons_self ..)).len
         obtain ⟨q2,w2,ew2⟩:=((l6.ssub (i:=2) rfl) _ (List.mem_cons_of_mem _ (List.mem_cons_self ..))).len
         simp only at ew1 ew2
         subst ew1
         subst ew2
         refine (l6.ext e27).nestAppX elItm (i:=1) (j:=2) (by decide) (x:=iN (itP l x,_,_)) rfl rfl eItm_f (by omega) (by omega) rfl rfl itmC_ok (by rw [List.length_map]; omega) fun s' H30 l30=>?_
         have l30:=l30.takeN 2
         rw [zq]
         intro H31 e31
         obtain ⟨q3,w3,ew3⟩:=(l30.nsv (i:=1) rfl).len
         have hone:=(l30.nsv (i:=1) rfl).one
         refine (l30.ext e31).st (i:=0) (j:=0) (v:=s') rfl (by exact (by decide:0<3)) hone.2 hone.1 fun H32 l32=>?_
         rw [zq]
         intro H33 e33
         refine hk H33 s' ?_
         rw [List.map_append]
         exact l32.ext e33
       refine ⟨?_,?_,trivial⟩
       · rw [l11.ld (i:=0) rfl,s0,za,zq]
         intro H25 e25
         refine item29 (lk11.ext e25) ((hf11.ext e25).sub x hmem) hfew (hf5.ok x hmem) (flC_ok exv) fun H26 v1 v2 e26 n26=>?_
         refine fin ((l11.ext e25).new e26 n26) ?_
         exact fun H'' iv' l'=>⟨iv',_,rfl,l'⟩
       · rw [zq]
         intro H25 e25
         refine item29 (lk11.ext e25) ((hf11.ext e25).sub x hmem) hfew (hf5.ok x hmem) (flC_ok exv) fun H26 v1 v2 e26 n26=>?_
         have l26:=(l11.ext e25).new e26 n26
         rw [l26.ld (i:=0) rfl,s0,za]
         refine fin l26 ?_
         exact fun H'' iv' l'=>⟨iv',_,rfl,l'⟩
   · have ei:i=fs2.length:=by omega
     subst ei
     rw [List.take_length] at hes l11
     have ivs:=l11.nsv (i:=1) rfl
     obtain ⟨q3,w3,ew3⟩:=ivs.len
     have lf:=l5.new l11.ext0 (l11.outN (i:=1) rfl)
     rw [l11.ldAll (i:=0) (n:=3) rfl rfl,za]
     refine lf.ret (i:=1) (K:=fun x H4=>R (.tuple #[x,.slice none 0 0]) H4) rfl rfl rfl (by rw [ew3]; exact stC_ok) fun H' l'=>?_
     have:=k H' iv es fs l'.ext0 hfs hs (by rw [hes,hfs2.its,hfs.its]) (l'.outN (i:=2) rfl)
     rw [hfs.blks,← hfs2.blks,hfs.lenI,← hfs2.lenI] at this
     exact this
end
section
variable {P:Program} {T:TypeId} {a b x y:Array Value} {lit:Bool} {H:Hp}
theorem fldE_row {d:Nat} {f:Field} {n:Nat} {k:IntKind} (hn:f.name ≠ "_") (hr:IntRow P f.type n k) (hk:ldK P f.type=some (some n)) (ea:a.extract f.offset (f.offset+n)=x) (eb:b.extract f.offset (f.offset+n)=y) (hsx:x.size=n) (hsy:y.size=n) (hx:∀ i,i<n→∃ z,x[i]?=some (.int k z)) (hy:∀ i,i<n→∃ z,y[i]?=some (.int k z)):fldE P (d+2) a b f=some (decide (x=y)):=by
 unfold fldE
 rw [if_neg hn]
 simp only [hk,yK,ea,eb,Option.bind_some]
 rw [eqT_row hr hx hy d,Option.some.injEq]
 refine dec_dec ⟨fun h=>?_,fun h i _=>by rw [h]⟩
 apply Array.ext_getElem?
 intro i
 by_cases hi:i<n
 · exact h i (List.mem_range.2 hi)
 · rw [Array.getElem?_eq_none (by omega),Array.getElem?_eq_none (by omega)]
end
theorem heldU:Tryz.prog.underlying 149=some (.struct (fsOf 149)):=by kernel_rfl
theorem heldL2:(fsOf 149).toList=[ZX 149 0,ZX 149 1]:=by kernel_rfl
theorem heldN0:(ZX 149 0).name = "Index" := by kernel_rfl
theorem heldN1:(ZX 149 1).name = "Data" := by kernel_rfl
theorem heldO0:(ZX 149 0).offset=0:=by kernel_rfl
theorem heldO1:(ZX 149 1).offset=1:=by kernel_rfl
theorem heldT0:Tryz.prog.underlying (ZX 149 0).type=some (.int .i64):=by kernel_rfl
theorem heldT1:(ZX 149 1).type=65:=by kernel_rfl
theorem heldG:Tryz.prog.eqGuardType Tryz.prog.depth 149=false:=by kernel_rfl
theorem heldS:Tryz.prog.stoodInHeld 149=false:=by kernel_rfl
theorem blkK:ldK Tryz.prog 65=some (some 1024):=by kernel_rfl
theorem eqHeld {x y:Int × Blk} (hx:IsB x.2) (hy:IsB y.2) {lit:Bool} {H:Hp}:eqE Tryz.prog 149 lit (.agg (zO x)) (.agg (zO y)) H=some (decide (x=y)):=by
 rw [eqE_struct heldU heldL2 heldG heldS]
 have h0:fldE Tryz.prog 9999 (zO x) (zO y) (ZX 149 0)=some (decide (x.1=y.1)):=Yp (d:=9998) (by rw [heldN0]; decide) heldT0 (by rw [heldO0]; exact Ye x) (by rw [heldO0]; exact Ye y)
 have h1:fldE Tryz.prog 9999 (zO x) (zO y) (ZX 149 1)=some (decide (x.2=y.2)):=fldE_row (d:=9997) (by rw [heldN1]; decide) (by rw [heldT1]; exact rowB) (by rw [heldT1]; exact blkK) (by rw [heldO1]; exact YY hx) (by rw [heldO1]; exact YY hy) hx.size hy.size (fun i hi=>⟨_,hx.get hi⟩) (fun i hi=>⟨_,hy.get hi⟩)
 obtain ⟨x1,x2⟩:=x
 obtain ⟨y1,y2⟩:=y
 simp only at h0 h1
 unfold Yx
 rw [h0]
 by_cases e1:x1=y1
 · rw [decide_eq_true e1]
   unfold Yx
   rw [h1]
   by_cases e2:x2=y2
   · simp [e1,e2,Yx]
   · simp [e1,e2]
 · simp [e1]
theorem list_same {α:Type} {a b:List α} (hl:a.length=b.length) {i:Nat} {x y:α} (hx:a[i]?=some x) (hy:b[i]?=some y) (h:a.take i=b.take i):(a.take (i+1)=b.take (i+1)↔x=y):=by
 have h1:i<a.length:=by
   rcases Nat.lt_or_ge i a.length with h1 | h1
   · exact h1
   · rw [List.getElem?_eq_none h1] at hx; cases hx
 have h2:i<b.length:=by omega
 rw [List.take_succ_eq_append_getElem h1,List.take_succ_eq_append_getElem h2,h]
 rw [List.getElem?_eq_getElem h1] at hx
 rw [List.getElem?_eq_getElem h2] at hy
 injection hx with hx; injection hy with hy
 rw [hx,hy]
 exact ⟨fun e=>by simpa using e,fun e=>by rw [e]⟩
section
variable {H:Hp} {R:Value→Hp→Prop}
theorem sameHeld {v w:Value} {a b:List (Int × Blk)} (hv:Sr 1025 H v (a.map zO)) (hw:Sr 1025 H w (b.map zO)) (ha:∀ x∈a,IsB x.2) (hb:∀ x∈b,IsB x.2) (hla:a.length<281474976710656) (hlb:b.length<281474976710656) (k:R (.bool (decide (a=b))) H):Fc Tryz.prog 164 #[v,w] H R:=by
 refine fn164 ?_
 simp only [sh164,zu]
 rw [hv.lenE yT,za,List.length_map,hw.lenE yT,za,List.length_map,zx,za,ze]
 have fin:∀ {c:Bool},(c=true↔a=b)→R (.bool c) H:=fun {c} hc=>by
   rw [show decide (a=b)=c from by rw [Bool.eq_iff_iff,decide_eq_true_eq,hc]] at k; exact k
 refine ⟨fun hne=>fin ⟨fun e=>(by cases e),fun e=>(by rw [e] at hne; exact absurd rfl hne)⟩,fun hl=>?_⟩
 have hl:a.length=b.length:=by omega
 refine zy.mk (fun t H'=>H'=H∧∃ i:Nat,i≤a.length∧t=(zm i,())∧a.take i=b.take i) (fun t _=>mi t.1 fun i=>(a.length - i).toNat) ⟨rfl,0,by omega,rfl,rfl⟩ ?_
 rintro _ H3 ⟨rfl,i,hi,rfl,hs⟩
 rw [za,zt,za,ze]
 refine ⟨fun hlt=>?_,fun hge=>?_⟩
 · have h1:i<a.length:=by omega
   have h2:i<b.length:=by omega
   have g1:a[i]?=some a[i]:=List.getElem?_eq_getElem h1
   have g2:b[i]?=some b[i]:=List.getElem?_eq_getElem h2
   have m1:=ha _ (List.getElem_mem h1)
   have m2:=hb _ (List.getElem_mem h2)
   generalize a[i]=x at g1 m1
   generalize b[i]=y at g2 m2
   have hst:=list_same hl g1 g2 hs
   obtain ⟨b1,o1,ha1,hr1⟩:=hv.row (i:=i) (v:=zO x) (by rw [List.getElem?_map,g1]; rfl)
   obtain ⟨b2,o2,ha2,hr2⟩:=hw.row (i:=i) (v:=zO y) (by rw [List.getElem?_map,g2]; rfl)
   rw [ha1,za,hr1,za,ha2,za,hr2,za,yq,eqHeld m1 m2,Option.map_some,za,Z8]
   refine ⟨fun e=>fin ⟨fun e=>(by cases e),fun e2=>?_⟩,fun e=>?_⟩
   · rw [decide_eq_false_iff_not] at e
     exact absurd (hst.1 (by rw [e2])) e
   · rw [decide_eq_true_eq] at e
     rw [zk,za,zJ,zw (by omega)]
     exact ⟨⟨rfl,i+1,by omega,rfl,hst.2 e⟩,by simp only [zC]; omega⟩
 · have ei:i=a.length:=by omega
   subst ei
   refine fin ⟨fun _=>?_,fun _=>rfl⟩
   rw [List.take_length,hl,List.take_length] at hs
   exact hs
theorem sameEnts {v w:Value} {a b:List Ent} (hv:Sr 2 H v (a.map ZS)) (hw:Sr 2 H w (b.map ZS)) (hla:a.length<281474976710656) (hlb:b.length<281474976710656) (k:R (.bool (decide (a=b))) H):Fc Tryz.prog 165 #[v,w] H R:=by
 refine fn165 ?_
 simp only [sh165,zu]
 rw [hv.lenE undEnts,za,List.length_map,hw.lenE undEnts,za,List.length_map,zx,za,ze]
 have fin:∀ {c:Bool},(c=true↔a=b)→R (.bool c) H:=fun {c} hc=>by
   rw [show decide (a=b)=c from by rw [Bool.eq_iff_iff,decide_eq_true_eq,hc]] at k; exact k
 refine ⟨fun hne=>fin ⟨fun e=>(by cases e),fun e=>(by rw [e] at hne; exact absurd rfl hne)⟩,fun hl=>?_⟩
 have hl:a.length=b.length:=by omega
 refine zy.mk (fun t H'=>H'=H∧∃ i:Nat,i≤a.length∧t=(zm i,())∧a.take i=b.take i) (fun t _=>mi t.1 fun i=>(a.length - i).toNat) ⟨rfl,0,by omega,rfl,rfl⟩ ?_
 rintro _ H3 ⟨rfl,i,hi,rfl,hs⟩
 rw [za,zt,za,ze]
 refine ⟨fun hlt=>?_,fun hge=>?_⟩
 · have h1:i<a.length:=by omega
   have h2:i<b.length:=by omega
   have g1:a[i]?=some a[i]:=List.getElem?_eq_getElem h1
   have g2:b[i]?=some b[i]:=List.getElem?_eq_getElem h2
   generalize a[i]=x at g1
   generalize b[i]=y at g2
   have hst:=list_same hl g1 g2 hs
   obtain ⟨b1,o1,ha1,hr1⟩:=hv.row (i:=i) (v:=ZS x) (by rw [List.getElem?_map,g1]; rfl)
   obtain ⟨b2,o2,ha2,hr2⟩:=hw.row (i:=i) (v:=ZS y) (by rw [List.getElem?_map,g2]; rfl)
   rw [ha1,za,hr1,za,ha2,za,hr2,za,yq,eqEnt,Option.map_some,za,Z8]
   refine ⟨fun e=>fin ⟨fun e=>(by cases e),fun e2=>?_⟩,fun e=>?_⟩
   · rw [decide_eq_false_iff_not] at e
     exact absurd (hst.1 (by rw [e2])) e
   · rw [decide_eq_true_eq] at e
     rw [zk,za,zJ,zw (by omega)]
     exact ⟨⟨rfl,i+1,by omega,rfl,hst.2 e⟩,by simp only [zC]; omega⟩
 · have ei:i=a.length:=by omega
   subst ei
   refine fin ⟨fun _=>?_,fun _=>rfl⟩
   rw [List.take_length,hl,List.take_length] at hs
   exact hs
theorem sameItem {t u:Itm} {d1 s1 d2 s2:Value} (hd1:Sr 1025 H d1 (t.data.map zO)) (hs1:Sr 2 H s1 (t.slots.map ZS)) (hd2:Sr 1025 H d2 (u.data.map zO)) (hs2:Sr 2 H s2 (u.slots.map ZS)) (ht:Z7 t) (hu:Z7 u) (k:∀ H',Ext H H'→R (.bool (decide (t=u))) H'):Fc Tryz.prog 120 #[.agg (YD t d1 s1),.agg (YD u d2 s2)] H R:=by
 have g0:∀ {t:Itm} {d s:Value},(YD t d s)[0]?=some (zm t.inum):=rfl
 have g1:∀ {t:Itm} {d s:Value},(YD t d s)[1]?=some (.int .u16 t.kind):=rfl
 have g2:∀ {t:Itm} {d s:Value},(YD t d s)[2]?=some (zm t.links):=rfl
 have g3:∀ {t:Itm} {d s:Value},(YD t d s)[3]?=some (zm t.size):=rfl
 have g4:∀ {t:Itm} {d s:Value},(YD t d s)[4]?=some (zm t.blocks):=rfl
 have g5:∀ {t:Itm} {d s:Value},(YD t d s)[5]?=some d:=rfl
 have g6:∀ {t:Itm} {d s:Value},(YD t d s)[6]?=some s:=rfl
 refine fn120 ?_
 simp only [sh120]
 refine (Lo.start _ H:Lx H H []).boxA fun b1 H1 _ l1=>?_
 refine l1.boxA fun b2 H2 _ l2=>?_
 have l2:Lx H H2 [.box b1 (YD t d1 s1) 142,.box b2 (YD u d2 s2) 142]:=l2
 have fin:∀ {H'} {c:Bool},Ext H H'→(c=true↔t=u)→R (.bool c) H':=fun {H' c} e hc=>by
   have:=k H' e
   rw [show decide (t=u)=c from by rw [Bool.eq_iff_iff,decide_eq_true_eq,hc]] at this; exact this
 have no:∀ {H'},Ext H H'→t≠u→R (.bool false) H':=fun e h=>fin e ⟨fun e=>(by cases e),fun e=>absurd e h⟩
 simp only [zg,Nat.zero_add,Nat.add_zero,za]
 rw [l2.ld (i:=0) rfl,g0,za,l2.ld (i:=1) rfl,g0,za,zA,za,ze]
 refine ⟨fun e0=>?_,fun e=>no l2.ext0 fun h=>e (by rw [h])⟩
 rw [l2.ld (i:=0) rfl,g1,za,l2.ld (i:=1) rfl,g1,za,zA,za,ze]
 refine ⟨fun e1=>?_,fun e=>no l2.ext0 fun h=>e (by rw [h])⟩
 rw [l2.ld (i:=0) rfl,g2,za,l2.ld (i:=1) rfl,g2,za,zA,za,ze]
 refine ⟨fun e2=>?_,fun e=>no l2.ext0 fun h=>e (by rw [h])⟩
 rw [l2.ld (i:=0) rfl,g3,za,l2.ld (i:=1) rfl,g3,za,zA,za,ze]
 refine ⟨fun e3=>?_,fun e=>no l2.ext0 fun h=>e (by rw [h])⟩
 rw [l2.ld (i:=0) rfl,g4,za,l2.ld (i:=1) rfl,g4,za,zA,za,ze]
 refine ⟨fun e4=>?_,fun e=>no l2.ext0 fun h=>e (by rw [h])⟩
 rw [l2.ld (i:=0) rfl,g5,za,l2.ld (i:=1) rfl,g5,za]
 refine sameHeld (hd1.ext l2.ext0) (hd2.ext l2.ext0) (fun x hx=>(ht.data x hx).2) (fun x hx=>(hu.data x hx).2) ht.dlen hu.dlen ?_
 rw [ze]
 refine ⟨fun e5=>?_,fun e=>no l2.ext0 fun h=>e (by rw [h])⟩
 rw [l2.ld (i:=0) rfl,g6,za,l2.ld (i:=1) rfl,g6,za]
 refine sameEnts (hs1.ext l2.ext0) (hs2.ext l2.ext0) ht.slen hu.slen ?_
 refine fin l2.ext0 ?_
 rw [decide_eq_true_eq]
 refine ⟨fun e6=>?_,fun h=>by rw [h]⟩
 obtain ⟨a0,a1,a2,a3,a4,a5,a6⟩:=t
 obtain ⟨c0,c1,c2,c3,c4,c5,c6⟩:=u
 simp only at e0 e1 e2 e3 e4 e5 e6
 have e1:a1=c1:=by omega
 subst e0 e1 e2 e3 e4 e5 e6
 rfl
theorem sameSt {iv jv:Value} {is js:List Itm} {f s f' s':Int} (hi:StAt H iv is) (hj:StAt H jv js) (hio:∀ t∈is,Z7 t) (hjo:∀ t∈js,Z7 t) (hli:is.length<281474976710656) (hlj:js.length<281474976710656) (k:∀ H',Ext H H'→R (.bool (decide (f=f'∧s=s'∧is=js))) H'):Fc Tryz.prog 75 #[.agg (stC iv f s),.agg (stC jv f' s')] H R:=by
 have g0:∀ {iv:Value} {f s:Int},(stC iv f s)[0]?=some iv:=rfl
 have g1:∀ {iv:Value} {f s:Int},(stC iv f s)[1]?=some (zm f):=rfl
 have g2:∀ {iv:Value} {f s:Int},(stC iv f s)[2]?=some (zm s):=rfl
 have undItms:Tryz.prog.underlying 24=some (.slice 142):=by kernel_rfl
 obtain ⟨cs,i1,i2,i3⟩:=hi
 obtain ⟨ds,j1,j2,j3⟩:=hj
 refine fn75 ?_
 simp only [sh75,zu]
 refine (Lo.start _ H:Lx H H []).boxA fun b1 H1 _ l1=>?_
 refine l1.boxA fun b2 H2 _ l2=>?_
 have l2:Lx H H2 [.box b1 (stC iv f s) 26,.box b2 (stC jv f' s') 26]:=l2
 have fin:∀ {H'} {c:Bool},Ext H H'→(c=true↔f=f'∧s=s'∧is=js)→R (.bool c) H':=fun {H' c} e hc=>by
   have:=k H' e
   rw [show decide (f=f'∧s=s'∧is=js)=c from by rw [Bool.eq_iff_iff,decide_eq_true_eq,hc]] at this; exact this
 simp only [zg,Nat.zero_add,Nat.add_zero,za]
 refine zT.mk (fun t H'=>H'=H2∧t.1=.bool (decide (¬ (f=f'∧s=s'∧is.length=js.length)))) ?_ ?_
 · rintro ⟨t,u⟩ H3 ⟨rfl,ht⟩
   simp only at ht
   subst ht
   rw [ze]
   refine ⟨fun hb=>fin l2.ext0 ⟨fun e=>(by cases e),fun e=>absurd ⟨e.1,e.2.1,by rw [e.2.2]⟩ hb⟩,fun hb=>?_⟩
   obtain ⟨hf,hs,hl⟩:=Classical.not_not.1 hb
   refine zy.mk (fun t H'=>∃ i:Nat,i≤is.length∧t=(zm i,())∧is.take i=js.take i∧Lx H H' [.box b1 (stC iv f s) 26,.box b2 (stC jv f' s') 26]) (fun t _=>mi t.1 fun i=>(is.length - i).toNat) ⟨0,by omega,rfl,rfl,l2⟩ ?_
   rintro _ H4 ⟨i,hi,rfl,hst,l4⟩
   rw [l4.ld (i:=0) rfl,g0,za,i1.lenE undItms,za,i2,zt,za,ze]
   refine ⟨fun hlt=>?_,fun hge=>?_⟩
   · have q1:i<is.length:=by omega
     have q2:i<js.length:=by omega
     have e1:is[i]?=some is[i]:=List.getElem?_eq_getElem q1
     have e2:js[i]?=some js[i]:=List.getElem?_eq_getElem q2
     have m1:=hio _ (List.getElem_mem q1)
     have m2:=hjo _ (List.getElem_mem q2)
     generalize is[i]=x at e1 m1
     generalize js[i]=y at e2 m2
     have hss:=list_same hl e1 e2 hst
     obtain ⟨d1,s1,r1,r2,r3⟩:=i3 i x e1
     obtain ⟨d2,s2,t1,t2,t3⟩:=j3 i y e2
     obtain ⟨b3,o3,ha3,hr3⟩:=(i1.ext l4.ext0).row r1
     obtain ⟨b4,o4,ha4,hr4⟩:=(j1.ext l4.ext0).row t1
     rw [za,ha3,za,hr3,za,l4.ld (i:=1) rfl,g0,za,ha4,za,hr4,za]
     refine sameItem (r2.ext l4.ext0) (r3.ext l4.ext0) (t2.ext l4.ext0) (t3.ext l4.ext0) m1 m2 fun H5 e5=>?_
     rw [zM,za,Z8]
     refine ⟨fun e=>?_,fun e=>?_⟩
     · rw [decide_eq_false_iff_not] at e
       exact fin (l4.ext0.trans e5) ⟨fun e=>(by cases e),fun h=>absurd (hss.1 (by rw [h.2.2])) e⟩
     · rw [decide_eq_true_eq] at e
       rw [zk,za,zJ,zw (by omega)]
       exact ⟨⟨i+1,by omega,rfl,hss.2 e,l4.ext e5⟩,by simp only [zC]; omega⟩
   · have ei:i=is.length:=by omega
     subst ei
     rw [List.take_length,hl,List.take_length] at hst
     exact fin l4.ext0 ⟨fun _=>⟨hf,hs,hst⟩,fun _=>rfl⟩
 · rw [l2.ld (i:=0) rfl,g1,za,l2.ld (i:=1) rfl,g1,za,zx,za,ze]
   refine ⟨fun e=>⟨rfl,Z5 fun h=>e h.1⟩,fun e=>?_⟩
   have e:=Classical.not_not.1 e
   rw [l2.ld (i:=0) rfl,g2,za,l2.ld (i:=1) rfl,g2,za,zx,za,ze]
   refine ⟨fun e=>⟨rfl,Z5 fun h=>e h.2.1⟩,fun e'=>?_⟩
   have e':=Classical.not_not.1 e'
   rw [l2.ld (i:=0) rfl,g0,za,i1.lenE undItms,za,l2.ld (i:=1) rfl,g0,za,j1.lenE undItms,za,i2,j2,zx,za]
   refine ⟨rfl,y9 ⟨fun h h2=>h (by rw [h2.2.2]),fun h h2=>h ⟨e,e',by omega⟩⟩⟩
end
theorem imgL_ge:∀ (L:List Blk) (k:Nat) (x:Int × Blk),x∈Yv k L→(k:Int)≤x.1
 | [],_,_,h=>by cases h
 | c :: l,k,x,h=>by
   rw [yG] at h
   split at h
   · have:=imgL_ge l (k+1) x h; omega
   · rcases List.mem_cons.1 h with e | e
     · rw [e]; show (k:Int)≤k; omega
     · have:=imgL_ge l (k+1) x e; omega
theorem imgL_is:∀ (L:List Blk) (k:Nat),(∀ c∈L,IsB c)→∀ x∈Yv k L,IsB x.2
 | [],_,_,_,h=>by cases h
 | c :: l,k,hL,x,h=>by
   rw [yG] at h
   split at h
   · exact imgL_is l (k+1) (fun z hz=>hL z (List.mem_cons_of_mem _ hz)) x h
   · rcases List.mem_cons.1 h with e | e
     · rw [e]; exact hL c (List.mem_cons_self ..)
     · exact imgL_is l (k+1) (fun z hz=>hL z (List.mem_cons_of_mem _ hz)) x e
theorem imgL_okL {n:Int}:∀ (L:List Blk) (k:Nat) (b:Int),(∀ c∈L,IsB c)→b<k→(k:Int)+L.length≤n→okL n b (Yv k L)
 | [],_,_,_,_,_=>trivial
 | c :: l,k,b,hL,hb,hn=>by
   have hn':((k+1:Nat):Int)+l.length≤n:=by simp only [List.length_cons] at hn; omega
   have hL':∀ z∈l,IsB z:=fun z hz=>hL z (List.mem_cons_of_mem _ hz)
   rw [yG]
   split
   · exact imgL_okL l (k+1) b hL' (by omega) hn'
   · rename_i hc
     exact ⟨hb,by show (k:Int)<n; omega,hc,hL c (List.mem_cons_self ..),imgL_okL l (k+1) k hL' (by omega) hn'⟩
theorem imgAt_cons (x:Int × Blk) (l:List (Int × Blk)) (a:Int):zX (x :: l) a=if x.1=a then x.2 else zX l a:=by
 unfold zX
 by_cases h:x.1=a
 · rw [List.find?_cons_of_pos (by simpa using h),if_pos h]; rfl
 · rw [List.find?_cons_of_neg (by simpa using h),if_neg h]
theorem imgAt_out {l:List (Int × Blk)} {a:Int} (h:∀ x∈l,x.1≠a):zX l a=zB:=by
 unfold zX
 rw [List.find?_eq_none.2 fun x hx=>by simpa using h x hx]; rfl
theorem imgAt_imgL:∀ (L:List Blk) (k j:Nat) (c:Blk),L[j]?=some c→zX (Yv k L) ((k+j:Nat):Int)=c
 | [],_,_,_,h=>by simp at h
 | z :: l,k,0,c,h=>by
   injection h with h
   subst h
   rw [yG]
   split
   · rename_i hz
     rw [imgAt_out fun x hx=>by have:=imgL_ge l (k+1) x hx; omega,hz]
   · rw [imgAt_cons,if_pos (by show (k:Int)=((k+0:Nat):Int); omega)]
 | z :: l,k,j+1,c,h=>by
   have ih:=imgAt_imgL l (k+1) j c h
   rw [show k+1+j=k+(j+1) by omega] at ih
   rw [yG]
   split
   · exact ih
   · rw [imgAt_cons,if_neg (by show ¬ (k:Int)=((k+(j+1):Nat):Int); omega)]; exact ih
theorem dirN_idx {f:Ino} {n:Nat} {y:Spt} (h:y∈dirN f n) : -1≤y.1∧y.1≤n:=by
 unfold dirN at h
 obtain ⟨i,hi,e⟩:=List.mem_filterMap.1 h
 rw [List.mem_range] at hi
 split at e
 · cases e
 · injection e with e; rw [← e]; show -1≤(i:Int)∧(i:Int)≤n; omega
theorem one_idx {n:Nat} {y:Spt} (h:y∈one_ n):y.1 = -1:=by
 unfold one_ at h
 split at h
 · cases h
 · rw [List.mem_singleton.1 h]
theorem unN_idx {B L I:Int} {l:List (Int × Blk)} {a:Nat} {first:Int} {y:Spt} (h:y∈unN B L I l a first):first≤y.1∧y.1≤first+256:=by
 unfold unN at h
 split at h
 · unfold underP at h
   obtain ⟨i,hi,e⟩:=List.mem_filterMap.1 h
   rw [List.mem_range] at hi
   split at e
   · cases e
   · injection e with e; rw [← e]; show first≤first+(i:Int)∧first+(i:Int)≤first+256; omega
 · cases h
theorem spotsP_idx {B L I:Int} {l:List (Int × Blk)} {f:Ino} {y:Spt} (h:y∈Ya B L I l f) : -1≤y.1∧y.1≤70000:=by
 unfold Ya at h
 simp only [List.mem_append] at h
 rcases h with (((h | h) | h) | h) | h
 · have:=dirN_idx h; omega
 · have:=one_idx h; omega
 · have:=unN_idx h; omega
 · have:=one_idx h; omega
 · split at h
   · unfold dblN at h
     obtain ⟨i,hi,h⟩:=List.mem_flatMap.1 h
     rw [List.mem_range] at hi
     rcases List.mem_append.1 h with h | h
     · have:=one_idx h; omega
     · have:=unN_idx h; omega
   · cases h
theorem nulS_le (c:Array Value):∀ f i,nulS c f i≤i+f
 | 0,i=>Nat.le_refl _
 | f+1,i=>by
   unfold nulS
   split
   · omega
   · have:=nulS_le c f (i+1); omega
theorem slotE_size (c:Array Value):(slotE c).2.size≤14:=by
 unfold slotE
 split
 · show (decS c (nulS c 14 0)).size≤14
   rw [decS_size]
   have:=nulS_le c 14 0; omega
 · exact Nat.zero_le _
theorem itP_ok {B L I:Int} {l:List (Int × Blk)} {n:Nat} {fs:List Fl} (his:∀ x∈l,IsB x.2) (hn:n≤65535) (hf:FlsOk B L I l n fs):∀ t∈fs.map (itP l),Z7 t:=by
 intro t ht
 obtain ⟨x,hx,rfl⟩:=List.mem_map.1 ht
 have hm:=hf.mem hx
 obtain ⟨e1,e2⟩:=hf.is x hx
 have hok:InoOk x.f:=by rw [e1]; exact inoP_ok his _
 have h0:=hok 0 (by omega)
 have h1:=hok 1 (by omega)
 have h2:=hok 2 (by omega)
 have h3:=hok 3 (by omega)
 simp only [fw,Nat.reduceLT,if_false,if_true,Nat.reducePow,Nat.lt_irrefl] at h0 h1 h2 h3
 have hsp:x.sp.length≤66100:=by rw [e2]; exact spotsP_len _ _ _ _ _
 refine ⟨?_,h0,?_,?_,?_,?_,?_,fun y hy=>?_,fun e he=>?_⟩
 · show -9223372036854775808≤(x.i:Int)∧(x.i:Int)≤9223372036854775807; omega
 · show -9223372036854775808≤(x.f 1:Int)∧(x.f 1:Int)≤9223372036854775807; omega
 · show -9223372036854775808≤(x.f 2:Int)∧(x.f 2:Int)≤9223372036854775807; omega
 · show -9223372036854775808≤(x.f 3:Int)∧(x.f 3:Int)≤9223372036854775807; omega
 · unfold itP
   simp only
   split
   · simp
   · have:=dataP_len l x x.sp.length; omega
 · unfold itP
   simp only
   split
   · rw [slotsP_len]; omega
   · simp
 · unfold itP at hy
   simp only at hy
   split at hy
   · cases hy
   · unfold dataP at hy
     obtain ⟨z,hz,rfl⟩:=List.mem_map.1 hy
     have hz:=List.mem_of_mem_take (List.mem_filter.1 hz).1
     rw [e2] at hz
     have:=spotsP_idx hz
     exact ⟨by show -9223372036854775808≤z.1∧z.1≤9223372036854775807; omega,Zw his _⟩
 · unfold itP at he
   simp only at he
   split at he
   · unfold ZQ at he
     obtain ⟨i,_,rfl⟩:=List.mem_map.1 he
     refine ⟨slotE_lt (rawS_is his x i),?_⟩
     have:=slotE_size (rawS l x i); omega
   · cases he
section
variable {H:Hp} {R:Value→Hp→Prop}
theorem lenNilFlts:lenE Tryz.prog 131 (.slice none 0 0)=some (zm 0):=by kernel_rfl
theorem im_ok {B L I:Int} {m:Pm} {its:List Itm} {sd:Nat} {dv:Value} (hg:Zo B L I) (hm:MOf m B L I) (hits:∀ t∈its,Z7 t) (hb:(m.B:Int)=B) (hr:Sr 1025 H dv ((Yv 0 (Zz m (zL m its (pg0 m)) sd)).map zO)):ImOk H dv B L I (Yv 0 (Zz m (zL m its (pg0 m)) sd)):=by
 obtain ⟨gL1,gL2,gI1,gI2,gB1,gB2,gD⟩:=id hg
 obtain ⟨h0,h1,h2,h3⟩:=laid_low hm hg hits sd
 refine ⟨hr,imgL_okL _ 0 (-1) h3 (by omega) (by omega),imgL_is _ 0 h3,?_,hg,?_,?_⟩
 · have:=imgL_len (Zz m (zL m its (pg0 m)) sd) 0
   omega
 · exact imgAt_imgL _ 0 0 _ h0
 · exact imgAt_imgL _ 0 1 _ h1
structure MaySt (B L I:Int) (its:List Itm) (fr sp:Int) (m:Pm) (fs:List Fl):Prop where
 small:B≤4096
 ok:Zo B L I
 mof:MOf m B L I
 room:(zL m its (pg0 m)).full=false
 files:FlsOk B L I (Yv 0 (Zz m (zL m its (pg0 m)) 0)) I.toNat fs
 sound:Sound B L I (Yv 0 (Zz m (zL m its (pg0 m)) 0)) fs
 its:its=fs.map (itP (Yv 0 (Zz m (zL m its (pg0 m)) 0)))
 free:fr=B - (zp B L I).dataAt - ((Zb fs).length:Nat)
 spare:sp=I - (fs.length:Nat)
set_option maxHeartbeats 1000000 in
theorem may_kit {B L I:Int} (hB : -9223372036854775808≤B∧B≤9223372036854775807) {iv:Value} {its:List Itm} (hst:StAt H iv its) (hits:∀ t∈its,Z7 t) (hlen:its.length<281474976710656) {fr sp:Int} (hiv:∃ b n c,iv=.slice b n c)
   (k0:∀ H',Ext H H'→R (.bool false) H') (k:∀ H' m fs,Ext H H'→MaySt B L I its fr sp m fs→R (.bool true) H') :
   Fc Tryz.prog 27 #[.agg #[zm B,zm L,zm I],.agg (stC iv fr sp)] H R:=by
 have x3:∀ {a b:Value},zf (.tuple #[a,b]) 0=some a:=rfl
 have x4:∀ {a b:Value},zf (.tuple #[a,b]) 1=some b:=rfl
 refine fn27 ?_
 simp only [sh27,zeroImg,zeroSt,za]
 refine (Lo.start _ H:Lx H H []).boxA fun b1 H1 _ l1=>?_
 refine l1.boxA fun b2 H2 _ l2=>?_
 have l2:Lx H H2 [.box b1 #[zm B,zm L,zm I] 23,.box b2 (stC iv fr sp) 26]:=l2
 simp only [zg,Nat.zero_add,Nat.add_zero,za]
 rw [l2.ld (i:=0) rfl,show (#[zm B,zm L,zm I]:Array Value)[0]?=some (zm B) from rfl,za,zN,za,ze]
 refine ⟨fun _=>k0 _ l2.ext0,fun hsm=>?_⟩
 rw [l2.ldAll (i:=0) (n:=3) rfl rfl,za,l2.ldAll (i:=1) (n:=3) rfl rfl,za]
 refine laid_ok hB (hst.ext l2.ext0) hits hlen (by decide) (fun H3 e3 _=>?_) (fun H3 dv m e3 hg hm hfull n3=>?_)
 · refine (l2.ext e3).boxA fun b3 H4 _ l4=>?_
   refine l4.stAll (i:=2) (n:=2) (vs:=#[zm 0,.slice none 0 0]) rfl rfl rfl (by unfold zG; rw [← Array.all_toList]; rfl) fun H5 l5=>?_
   rw [zg,za,Nat.zero_add,l5.ld (i:=2) rfl,show (#[zm 0,.slice none 0 0]:Array Value)[0]?=some (zm 0) from rfl,za,zA,za,decide_eq_true rfl,z8]
   exact k0 _ l5.ext0
 · obtain ⟨gL1,gL2,gI1,gI2,gB1,gB2,gD⟩:=id hg
   have hsd:((0:Int) % 1000003).toNat=0:=rfl
   rw [hsd] at n3
   obtain ⟨q,r,edv⟩:=n3.sv.sr.len
   have his:∀ x∈Yv 0 (Zz m (zL m its (pg0 m)) 0),IsB x.2:=imgL_is _ 0 (laid_low hm hg hits 0).2.2.2
   have im:ImOk H3 dv B L I (Yv 0 (Zz m (zL m its (pg0 m)) 0)):=im_ok hg hm hits hm.B n3.sv.sr
   have hx:∀ {H'},Sr 1025 H' dv ((Yv 0 (Zz m (zL m its (pg0 m)) 0)).map zO)→ImOk H' dv B L I (Yv 0 (Zz m (zL m its (pg0 m)) 0)):=fun hr=>⟨hr,im.whole,im.is,im.len,im.ok,im.sup,im.hd⟩
   have hmay:∀ fs,FlsOk B L I (Yv 0 (Zz m (zL m its (pg0 m)) 0)) I.toNat fs→Sound B L I (Yv 0 (Zz m (zL m its (pg0 m)) 0)) fs→its=fs.map (itP (Yv 0 (Zz m (zL m its (pg0 m)) 0)))→fr=B - (zp B L I).dataAt - ((Zb fs).length:Nat)→sp=I - (fs.length:Nat)→MaySt B L I its fr sp m fs:=fun fs h1 h2 h3 h4 h5=>⟨by omega,hg,hm,hfull,h1,h2,h3,h4,h5⟩
   have l3:=l2.new e3 n3
   generalize Yv 0 (Zz m (zL m its (pg0 m)) 0)=l at his im hx hmay l3
   have e00:(#[zm B,dv]:Array Value)[0]?=some (zm B):=rfl
   refine l3.boxA fun b3 H4 f4 l4=>?_
   refine l4.stAll (i:=3) (n:=2) (vs:=#[zm B,dv]) rfl rfl rfl (by rw [edv]; unfold zG; rw [← Array.all_toList]; rfl) fun H5 l5=>?_
   have l5:Lx H H5 [.box b1 #[zm B,zm L,zm I] 23,.box b2 (stC iv fr sp) 26,.sl 149 1025 dv (l.map zO),.box b3 #[zm B,dv] 81]:=l5
   rw [zg,za,Nat.zero_add,l5.ld (i:=3) rfl,e00,za,zA,za,decide_eq_false (by omega),zl,l5.ldAll (i:=3) (n:=2) rfl rfl,za]
   refine look29 (hx (l5.sv (i:=2) rfl).sr) (fun H6 s' n fs e6 hn hle _ _=>?_) (fun H6 iv2 es fs e6 hfs hS hes n6=>?_)
   · rw [x3,za,x4,za]
     refine (l5.ext e6).boxA fun b4 H7 _ l7=>?_
     refine l7.stAll (i:=4) (n:=3) (vs:=stC (.slice none 0 0) 0 0) rfl rfl rfl stC_ok fun H8 l8=>?_
     rw [hle,za,zA,za,decide_eq_false (by omega),zl]
     exact k0 _ l8.ext0
   · have l6:=l5.new e6 n6
     obtain ⟨q2,r2,eiv⟩:=n6.nest_sv.len
     rw [x3,za,x4,za]
     refine l6.boxA fun b4 H7 _ l7=>?_
     refine l7.stAll (i:=5) (n:=3) (vs:=stC iv2 (B - (zp B L I).dataAt - ((Zb fs).length:Nat)) (I - (fs.length:Nat))) rfl rfl rfl (by rw [eiv]; exact stC_ok) fun H8 l8=>?_
     rw [lenNilFlts,za,zA,za,decide_eq_true rfl,z8,l8.ldAll (i:=5) (n:=3) rfl rfl,za,l8.ldAll (i:=1) (n:=3) rfl rfl,za]
     have st2:=st_at (l8.outN (i:=4) rfl)
     have hfl:=hfs.len
     rw [hes] at st2
     refine sameSt st2 (hst.ext l8.ext0) (itP_ok his (by omega) hfs) hits (by rw [List.length_map]; omega) hlen fun H9 e9=>?_
     by_cases hc:B - (zp B L I).dataAt - ((Zb fs).length:Nat)=fr∧I - (fs.length:Nat)=sp∧fs.map (itP l)=its
     · rw [decide_eq_true hc]
       exact k H9 m fs (l8.ext0.trans e9) (hmay fs hfs hS hc.2.2.symm hc.1.symm hc.2.1.symm)
     · rw [decide_eq_false hc]
       exact k0 _ (l8.ext0.trans e9)
end
structure RDk where
 n:Int
 held:List (Int × Blk)
 wait:List (Int × Blk)
 fused:Bool
 left:Int
 dead:Bool
 ops:List (Array Value)
 count:Int
 seen:Int
 claims:Int
 owner:Int
def rdkC (D:RDk) (hv wv ov:Value):Array Value:=#[zm D.n,hv,wv,.bool D.fused,zm D.left,.bool D.dead,ov,zm D.count,zm D.seen,zm D.claims,zm D.owner]
structure RDkOk (D:RDk):Prop where
 held:∀ x∈D.held,IsB x.2
 wait:∀ x∈D.wait,IsB x.2
 hlen:D.held.length≤1048576
 wlen:D.wait.length<1099511627776
 seen:0≤D.seen∧D.seen<4611686018427387904
 claims:0≤D.claims∧D.claims<4611686018427387904
def rdkAll (r:Nat) (D:RDk) (hv wv ov:Value):List Ob:=[.box r (rdkC D hv wv ov) 130,.sl 149 1025 hv (D.held.map zO),.sl 149 1025 wv (D.wait.map zO),.sl 211 1026 ov D.ops]
def ym (r:Nat) (D:RDk):Ob:=
 ⟨fun H O=>∃ hv wv ov,(Ob.all (rdkAll r D hv wv ov)).at_ H O,
  fun ⟨_,_,_,h⟩=>Ob.own _ h,fun ⟨hv,wv,ov,h⟩ hb hs ho hl=>⟨hv,wv,ov,Ob.frame _ h hb hs ho hl⟩⟩
def RDk.load (n:Int) (l:List (Int × Blk)):RDk:=⟨n,l,[],false,0,false,[],0,0,0,0⟩
theorem RDk.load_ok {n:Int} {l:List (Int × Blk)} (h:∀ x∈l,IsB x.2) (hl:l.length≤1048576):RDkOk (RDk.load n l):=⟨h,fun x hx=>(by cases hx),hl,(by simp [RDk.load]),(by simp [RDk.load]),(by simp [RDk.load])⟩
theorem buildRdk (n:Int) (b:Option Addr) (k c:Nat):zv Tryz.prog 130 [(0,zm n),(1,.slice b k c)]=some (.agg (rdkC (RDk.load n []) (.slice b k c) (.slice none 0 0) (.slice none 0 0))):=by kernel_rfl
noncomputable def RDk.at_ (D:RDk) (a:Int):Blk:=match D.wait.reverse.find? fun x=>decide (x.1=a) with
 | some x=>x.2
 | none=>zX D.held a
theorem RDk.at_is {D:RDk} (h:RDkOk D) (a:Int):IsB (D.at_ a):=by
 unfold RDk.at_
 split
 · rename_i x hx
   exact h.wait x (List.mem_reverse.1 (List.mem_of_find?_eq_some hx))
 · exact Zw h.held a
section
variable {H:Hp} {R:Value→Hp→Prop} {dv:Value} {B L I:Int} {l:List (Int × Blk)}
theorem blank01 {c:Blk} (hc:IsB c) (k:∀ H',Ext H H'→R (.bool (decide (c=zB))) H'):Fc Tryz.prog 131 #[.agg c] H R:=by
 refine fn131 ?_
 simp only [sh131,zu]
 refine (Lo.start _ H:Lx H H []).boxA fun b1 H1 _ l1=>?_
 have fin:∀ {b:Bool},(b=true↔c=zB)→R (.bool b) H1:=fun {b} hb=>by
   have:=k H1 l1.ext0
   rw [show decide (c=zB)=b from by rw [Bool.eq_iff_iff,decide_eq_true_eq,hb]] at this; exact this
 refine zy.mk (fun t H'=>H'=H1∧∃ i:Nat,i≤1024∧t=(zm i,())∧∀ j,j<i→byt c j=0) (fun t _=>mi t.1 fun i=>(1024 - i).toNat) ⟨rfl,0,by omega,rfl,fun j hj=>by omega⟩ ?_
 rintro _ H2 ⟨rfl,i,hi,rfl,hz⟩
 rw [zt,za,ze]
 refine ⟨fun hlt=>?_,fun hge=>?_⟩
 · rw [zH (by omega),za,Nat.zero_add,Nat.mul_one,l1.ld (i:=0) rfl,hc.get (by omega),za,zx,za,ze]
   refine ⟨fun hne=>fin ⟨fun e=>(by cases e),fun e=>?_⟩,fun he=>?_⟩
   · exfalso
     have:byt c i=0:=by rw [e]; unfold byt; rw [zB_get (by omega)]; rfl
     omega
   · rw [zk,za,zJ,zw (by omega)]
     refine ⟨⟨rfl,i+1,by omega,rfl,fun j hj=>?_⟩,by simp only [zC]; omega⟩
     by_cases e:j=i
     · subst e; omega
     · exact hz j (by omega)
 · refine fin ⟨fun _=>hc.ext Zl fun j hj=>?_,fun _=>rfl⟩
   rw [hz j (by omega)]
   unfold byt
   rw [zB_get hj]; rfl
theorem may04 (hB:1≤B∧B≤1048576) (hrd:Sr 1025 H dv (l.map zO)) (hl:okL B (-1) l) (hlen:l.length≤1048576) (k:∀ H',Ext H H'→R (.bool true) H'):Fc Tryz.prog 86 #[.agg #[zm B,dv]] H R:=by
 have d0:(#[zm B,dv]:Array Value)[0]?=some (zm B):=rfl
 have d1:(#[zm B,dv]:Array Value)[1]?=some dv:=rfl
 refine fn86 ?_
 simp only [sh86,zu]
 refine (Lo.start _ H:Lx H H []).boxA fun b1 H1 _ l1=>?_
 have l1:Lx H H1 [.box b1 #[zm B,dv] 81]:=l1
 simp only [zg,Nat.zero_add,Nat.add_zero,za]
 refine zT.mk (fun t H'=>H'=H1∧t.1=.bool false) ?_ ?_
 · rintro ⟨t,u⟩ H2 ⟨rfl,ht⟩
   simp only at ht
   subst ht
   rw [zl]
   refine zy.mk (fun t H'=>∃ (i:Nat) (p:Int),i≤l.length∧t=(zm i,())∧okL B p (l.drop i) ∧ -1≤p∧(∀ j,i=j+1→∃ x,l[j]?=some x∧x.1=p)∧Lx H H' [.box b1 #[zm B,dv] 81])
     (fun t _=>mi t.1 fun i=>(l.length - i).toNat) ⟨0,-1,by omega,rfl,hl,by omega,fun j hj=>by omega,l1⟩ ?_
   rintro _ H4 ⟨i,p,hi,rfl,hdr,hp1,hpv,l4⟩
   have h4:=hrd.ext l4.ext0
   rw [l4.ld (i:=0) rfl,d1,za,h4.lenE yT,za,List.length_map,zt,za,ze]
   refine ⟨fun hlt=>?_,fun hge=>k H4 l4.ext0⟩
   have hil:i<l.length:=by omega
   have hei:(l.map zO)[i]?=some (zO l[i]):=by rw [List.getElem?_map,List.getElem?_eq_getElem hil]; rfl
   have hel:l[i]?=some l[i]:=List.getElem?_eq_getElem hil
   have hdrop:l.drop i=l[i] :: l.drop (i+1):=List.drop_eq_getElem_cons hil
   generalize l[i]=x at hei hdrop hel
   rw [hdrop] at hdr
   obtain ⟨q1,q2,q3,q4,q5⟩:=hdr
   obtain ⟨b,o,ha,hcl,hrow⟩:=h4.el hei
   have c0:=hcl 0 (by omega)
   rw [Nat.add_zero,Ye] at c0
   rw [za,ha,za,zg,za,Nat.add_zero,c0,za]
   refine zT.mk (fun t H'=>t.1=.bool false∧Lx H H' [.box b1 #[zm B,dv] 81]) ?_ ?_
   · rintro ⟨t,u⟩ H7 ⟨ht,l7⟩
     simp only at ht
     subst ht
     rw [zl,zk,za,zJ,zw (by omega)]
     refine ⟨⟨i+1,x.1,by omega,rfl,q5,by omega,fun j hj=>⟨x,?_,rfl⟩,l7⟩,by simp only [zC]; omega⟩
     rw [← show i=j by omega]; exact hel
   · rw [zt,za,decide_eq_false (by omega),zl,l4.ld (i:=0) rfl,d0,za,zU,za,decide_eq_false (by omega),zl,zN,za,ze]
     refine ⟨fun h0=>?_,fun h0=>?_⟩
     · obtain ⟨j,ej⟩:∃ j:Nat,i=j+1:=⟨i - 1,by omega⟩
       obtain ⟨z,hz,ez⟩:=hpv j ej
       obtain ⟨b',o',ha',hcl',_⟩:=h4.el (v:=zO z) (i:=j) (by rw [List.getElem?_map,hz]; rfl)
       have c0':=hcl' 0 (by omega)
       rw [Nat.add_zero,Ye] at c0'
       rw [za,zV,za,zh (by omega) (by omega),show (i:Int) - 1=(j:Int) by omega,ha',za,zg,za,Nat.add_zero,c0',za,zU,za,decide_eq_false (by omega),zl,za,ha,za,zg,za,hrow 1 1024 (by omega),YY q4,za]
       refine blank01 q4 fun H5 e5=>?_
       rw [decide_eq_false q3]
       exact ⟨rfl,l4.ext e5⟩
     · rw [za,ha,za,zg,za,hrow 1 1024 (by omega),YY q4,za]
       refine blank01 q4 fun H5 e5=>?_
       rw [decide_eq_false q3]
       exact ⟨rfl,l4.ext e5⟩
 · rw [l1.ld (i:=0) rfl,d0,za,zt,za,decide_eq_false (by omega),zl,za,zN,za,decide_eq_false (by omega)]
   exact ⟨rfl,rfl⟩
theorem copy04 (hrd:Sr 1025 H dv (l.map zO)) (his:∀ x∈l,IsB x.2) (hlen:l.length≤1048576) (k:∀ H' hv,Ext H H'→New H H' (.sl 149 1025 hv (l.map zO))→R hv H'):Fc Tryz.prog 87 #[dv] H R:=by
 refine fn87 ?_
 simp only [sh87,zu]
 have l1:=(Lo.start _ H:Lx H H []).nilS 149 1025
 refine zy.mk (fun t H'=>∃ (i:Nat) (v:Value),i≤l.length∧t=(v,zm i,())∧Lx H H' [.sl 149 1025 v ((l.take i).map zO)])
   (fun t _=>mi t.2.1 fun i=>(l.length - i).toNat) ⟨0,.slice none 0 0,by omega,rfl,l1⟩ ?_
 rintro _ H2 ⟨i,v,hi,rfl,l2⟩
 have h2:=hrd.ext l2.ext0
 rw [h2.lenE yT,za,List.length_map,zt,za,ze]
 refine ⟨fun hlt=>?_,fun hge=>?_⟩
 · have hil:i<l.length:=by omega
   have hei:(l.map zO)[i]?=some (zO l[i]):=by rw [List.getElem?_map,List.getElem?_eq_getElem hil]; rfl
   have htk:l.take (i+1)=l.take i++[l[i]]:=List.take_succ_eq_append_getElem hil
   have hm:=his _ (List.getElem_mem hil)
   generalize l[i]=x at hei htk hm
   obtain ⟨b,o,ha,hr⟩:=h2.row hei
   rw [ha,za,hr,za]
   refine l2.appO elHeld eHeld_f (i:=0) (c:=zO x) rfl rfl (by omega) (by omega) (ZC hm) (heldC_ok hm) (by rw [List.length_map,List.length_take]; omega) fun s' H3 l3=>?_
   rw [zk,za,zJ,zw (by omega)]
   refine ⟨⟨i+1,s',by omega,rfl,?_⟩,by simp only [zC]; omega⟩
   rw [htk,List.map_append]; exact l3
 · have ei:i=l.length:=by omega
   subst ei
   rw [List.take_length] at l2
   exact k H2 v l2.ext0 (l2.outN (i:=0) rfl)
theorem load04 (hB:1≤B∧B≤1048576) (hrd:Sr 1025 H dv (l.map zO)) (hl:okL B (-1) l) (his:∀ x∈l,IsB x.2) (hlen:l.length≤1048576) (k:∀ H' r,Ext H H'→New H H' (ym r (RDk.load B l))→R (.tuple #[zW r,zm 0]) H'):Fc Tryz.prog 32 #[.agg #[zm B,dv]] H R:=by
 have d0:(#[zm B,dv]:Array Value)[0]?=some (zm B):=rfl
 have d1:(#[zm B,dv]:Array Value)[1]?=some dv:=rfl
 refine fn32 ?_
 simp only [sh32]
 refine (Lo.start _ H:Lx H H []).boxA fun b1 H1 _ l1=>?_
 have l1:Lx H H1 [.box b1 #[zm B,dv] 81]:=l1
 rw [l1.ldAll (i:=0) (n:=2) rfl rfl,za]
 refine may04 hB (hrd.ext l1.ext0) hl hlen fun H2 e2=>?_
 have l2:=l1.ext e2
 rw [zM,za,Bool.not_true,zl]
 simp only [zg,Nat.zero_add,Nat.add_zero,za]
 rw [l2.ld (i:=0) rfl,d1,za]
 have fin:∀ {H':Hp} {hv:Value},Lx H H' [.box b1 #[zm B,dv] 81,.sl 149 1025 hv (l.map zO)] →
     Pu (zv Tryz.prog 130 [(0,zm B),(1,hv)]) fun x14=>ForX true H' fun H10=>Box 130 x14 H10 fun x15 H11=>ForX true H11 fun H12=>R (.tuple #[x15,zm 0]) H12:=by
   intro H' hv l3
   obtain ⟨q,w,e⟩:=(l3.sv (i:=1) rfl).len
   subst e
   rw [buildRdk,za,zq]
   intro H10 e10
   refine (l3.ext e10).boxA fun r H11 _ l4=>?_
   rw [zq]
   intro H12 e12
   have l5:=((l4.ext e12).nilS 149 1025).nilS 211 1026
   have l6:=l5.pick [2,1,3,4] (by decide) (by simp)
   have l7:=Lo.pack (l:=[]) l6
   have n7:=l7.outN (i:=0) rfl
   obtain ⟨O,ho,hO⟩:=n7
   exact k H12 r l7.ext0 ⟨O,⟨_,_,_,ho⟩,hO⟩
 refine ⟨?_,?_,trivial⟩
 · rw [l2.ld (i:=0) rfl,d0,za,zq]
   intro H8 e8
   refine copy04 (hrd.ext (l2.ext0.trans e8)) his hlen fun H9 hv e9 n9=>?_
   exact fin ((l2.ext e8).new e9 n9)
 · rw [zq]
   intro H8 e8
   refine copy04 (hrd.ext (l2.ext0.trans e8)) his hlen fun H9 hv e9 n9=>?_
   have l9:=(l2.ext e8).new e9 n9
   rw [l9.ld (i:=0) rfl,d0,za]
   exact fin l9
end
theorem undRdk:Tryz.prog.underlying 39=some (.pointer 130):=by kernel_rfl
section
variable {D:RDk} {hv wv ov:Value}
theorem rdk0:(rdkC D hv wv ov)[0]?=some (zm D.n):=rfl
theorem rdk1:(rdkC D hv wv ov)[1]?=some hv:=rfl
theorem rdk2:(rdkC D hv wv ov)[2]?=some wv:=rfl
theorem rdk5:(rdkC D hv wv ov)[5]?=some (.bool D.dead):=rfl
theorem rdk8:(rdkC D hv wv ov)[8]?=some (zm D.seen):=rfl
theorem rdk9:(rdkC D hv wv ov)[9]?=some (zm D.claims):=rfl
theorem rdk10:(rdkC D hv wv ov)[10]?=some (zm D.owner):=rfl
end
noncomputable def RDk.read (D:RDk) (a:Int):RDk × Blk × Int:=
 if D.dead then (D,zB,3) else if a<0∨D.n≤a then (D,zB,2) else ({ D with seen:=D.seen+1 },D.at_ a,0)
def RDk.claim (D:RDk):RDk:={ D with claims:=D.claims+1,owner:=D.claims+1 }
section
variable {H:Hp} {R:Value→Hp→Prop} {r:Nat} {D:RDk} {O:Nat→Prop}
theorem rdk_top (h:(ym r D).at_ H O):∃ hv wv ov,H[r]?=some (.cells (rdkC D hv wv ov) 130):=by
 obtain ⟨hv,wv,ov,ha⟩:=h
 exact ⟨hv,wv,ov,(Lo.open ha).at (i:=0) rfl⟩
theorem len04 (h:(ym r D).at_ H O) (k:R (zm D.n) H):Fc Tryz.prog 73 #[zW r] H R:=by
 obtain ⟨hv,wv,ov,ht⟩:=rdk_top h
 refine fn73 ?_
 simp only [sh73]
 rw [show yg Tryz.prog 39 true .eql (zW r) (.pointer none) H=some (.bool false) from yO undRdk,za,zl]
 simp only [zc,zg,Nat.zero_add,Nat.add_zero,za]
 rw [zo ht,rdk0,za]
 exact k
theorem at04 {hv:Value} {l:List (Int × Blk)} {a:Int} (hrd:Sr 1025 H hv (l.map zO)) (his:∀ x∈l,IsB x.2) (hlen:l.length≤1048576) (k:∀ H',Ext H H'→R (.agg (zX l a)) H'):Fc Tryz.prog 137 #[hv,zm a] H R:=by
 refine fn137 ?_
 simp only [sh137,ZL,Yj,za,zu]
 refine (Lo.start _ H:Lx H H []).boxA fun b2 H2 _ l2=>?_
 refine zy.mk (fun t H'=>H'=H2∧∃ i:Nat,i≤l.length∧t=(zm i,())∧∀ x∈l.take i,x.1≠a) (fun t _=>mi t.1 fun i=>(l.length - i).toNat) ⟨rfl,0,by omega,rfl,by simp⟩ ?_
 rintro _ H3 ⟨rfl,i,hi,rfl,hno⟩
 have h3:=hrd.ext l2.ext0
 rw [h3.lenE yT,za,List.length_map,zt,za,ze]
 refine ⟨fun hlt=>?_,fun hge=>?_⟩
 · have hil:i<l.length:=by omega
   have hei:(l.map zO)[i]?=some (zO l[i]):=by rw [List.getElem?_map,List.getElem?_eq_getElem hil]; rfl
   have hem:l[i]∈l:=List.getElem_mem hil
   have hdr:l.drop i=l[i] :: l.drop (i+1):=List.drop_eq_getElem_cons hil
   have htk:l.take (i+1)=l.take i++[l[i]]:=List.take_succ_eq_append_getElem hil
   generalize l[i]=x at hei hem hdr htk
   obtain ⟨b,o,ha,hcl,hrow⟩:=h3.el hei
   rw [ha,za,zg,za,hcl 0 (by omega),Ye,za,zA,za,ze]
   refine ⟨fun he=>?_,fun hne=>?_⟩
   · rw [za,zg,za,hrow 1 1024 (by omega),za,YY (his x hem)]
     have e:zX l a=x.2:=by
       unfold zX
       rw [show l=l.take i++l.drop i from (List.take_append_drop i l).symm,List.find?_append,List.find?_eq_none.2 (fun y hy=>by simpa using hno y hy),hdr,List.find?_cons_of_pos (by simpa using he)]
       rfl
     refine l2.ret (i:=0) rfl zF (his x hem).size (his x hem).ok fun H' l'=>?_
     rw [← e]; exact k H' l'.ext0
   · rw [zk,za,zJ,zw (by omega)]
     refine ⟨⟨rfl,i+1,by omega,rfl,fun y hy=>?_⟩,by simp only [zC]; omega⟩
     rw [htk] at hy
     rcases List.mem_append.1 hy with h1 | h1
     · exact hno y h1
     · rw [List.mem_singleton.1 h1]; exact hne
 · have ei:i=l.length:=by omega
   subst ei
   rw [List.take_length] at hno
   refine l2.ret (i:=0) rfl zF zF Zl.ok fun H' l'=>?_
   rw [← imgAt_out hno]; exact k H' l'.ext0
set_option maxHeartbeats 1000000 in
theorem read04 (h:(ym r D).at_ H O) (hok:RDkOk D) {a:Int} (k:∀ H' O',Stp O O' H H'→(ym r (D.read a).1).at_ H' O'→R (.tuple #[.agg (D.read a).2.1,zm (D.read a).2.2]) H'):Fc Tryz.prog 91 #[zW r,zm a] H R:=by
 obtain ⟨hv,wv,ov,hall⟩:=h
 have hs:=hok.seen
 have hw:=hok.wlen
 have l0:Lo O H H (rdkAll r D hv wv ov):=Lo.open hall
 refine fn91 ?_
 simp only [sh91,ZL,Yj,za,zu]
 refine l0.boxA fun b2 H1 _ l1=>?_
 have l1:Lo O H H1 [.box r (rdkC D hv wv ov) 130,.sl 149 1025 hv (D.held.map zO),.sl 149 1025 wv (D.wait.map zO),.sl 211 1026 ov D.ops,.box b2 zB 65]:=l1
 rw [show yg Tryz.prog 39 true .eql (zW r) (.pointer none) H1=some (.bool false) from yO undRdk,za,zl]
 simp only [zc,zg,Nat.zero_add,Nat.add_zero,za]
 have out:∀ {H':Hp} {D':RDk} {c:Blk},Lo O H H' [.box r (rdkC D' hv wv ov) 130,.sl 149 1025 hv (D'.held.map zO),.sl 149 1025 wv (D'.wait.map zO),.sl 211 1026 ov D'.ops,.box b2 c 65]→∃ O',Stp O O' H H'∧(ym r D').at_ H' O':=fun l'=>by
   obtain ⟨O',st,ha⟩:=Lo.close (l:=[_,_,_,_]) (r:=[_]) l'
   exact ⟨O',st,⟨_,_,_,ha⟩⟩
 rw [l1.ld (i:=0) rfl,rdk5,za,ZB]
 refine ⟨fun hd=>?_,fun hd=>?_⟩
 · have e:D.read a=(D,zB,3):=by unfold RDk.read; rw [if_pos hd]
   rw [e] at k
   refine l1.ret (i:=4) rfl zF zF Zl.ok fun H' l'=>?_
   obtain ⟨O',st,ha⟩:=out (D':=D) l'
   exact k H' O' st ha
 · refine zT.mk (fun t H'=>H'=H1∧t.1=.bool (decide (a<0∨D.n≤a))) ?_ ?_
   · rintro ⟨t,u⟩ H2 ⟨rfl,ht⟩
     simp only at ht
     subst ht
     rw [ze]
     refine ⟨fun hb=>?_,fun hb=>?_⟩
     · have e:D.read a=(D,zB,2):=by unfold RDk.read; rw [if_neg (by simp [hd]),if_pos hb]
       rw [e] at k
       refine l1.ret (i:=4) rfl zF zF Zl.ok fun H' l'=>?_
       obtain ⟨O',st,ha⟩:=out (D':=D) l'
       exact k H' O' st ha
     · have e:D.read a=({ D with seen:=D.seen+1 },D.at_ a,0):=by unfold RDk.read; rw [if_neg (by simp [hd]),if_neg hb]
       rw [e] at k
       rw [l1.ld (i:=0) rfl,rdk8,za,zk,za,zh (by omega) (by omega)]
       refine l1.st (i:=0) (j:=8) (v:=zm (D.seen+1)) rfl (by exact (by decide:8<11)) rfl rfl fun H3 l3=>?_
       have l3:Lo O H H3 [.box r (rdkC { D with seen:=D.seen+1 } hv wv ov) 130,.sl 149 1025 hv (D.held.map zO),.sl 149 1025 wv (D.wait.map zO),.sl 211 1026 ov D.ops,.box b2 zB 65]:=l3
       have hwl:=(l3.sv (i:=2) rfl).sr
       rw [l3.ld (i:=0) rfl,rdk2,za,hwl.lenE yT,za,List.length_map,zV,za,zh (by omega) (by omega)]
       refine zy.mk (fun t H'=>H'=H3∧∃ j:Nat,j≤D.wait.length∧t=(zm ((j:Int) - 1),())∧∀ x∈D.wait.drop j,x.1≠a) (fun t _=>mi t.1 fun x=>(x+1).toNat) ⟨rfl,D.wait.length,by omega,rfl,by simp⟩ ?_
       rintro _ H4 ⟨rfl,j,hj,rfl,hno⟩
       rw [zU,za,ze]
       refine ⟨fun hge=>?_,fun hlt=>?_⟩
       · obtain ⟨i,ei⟩:∃ i:Nat,j=i+1:=⟨j - 1,by omega⟩
         subst ei
         have hil:i<D.wait.length:=by omega
         have hei:(D.wait.map zO)[i]?=some (zO D.wait[i]):=by rw [List.getElem?_map,List.getElem?_eq_getElem hil]; rfl
         have hem:D.wait[i]∈D.wait:=List.getElem_mem hil
         have hdr:D.wait.drop i=D.wait[i] :: D.wait.drop (i+1):=List.drop_eq_getElem_cons hil
         generalize D.wait[i]=x at hei hem hdr
         have hxb:=hok.wait x hem
         obtain ⟨b,o,ha,hcl,hrow⟩:=hwl.el hei
         have ha':zi (some (none,1025)) wv (zm (((i+1:Nat):Int) - 1))=some (.pointer (some ⟨b,o,none⟩)):=by rw [show ((i+1:Nat):Int) - 1=(i:Int) by omega]; exact ha .i64
         rw [l3.ld (i:=0) rfl,rdk2,za,ha',za,zg,za,hcl 0 (by omega),Ye,za,zA,za,ze]
         refine ⟨fun he=>?_,fun hne=>?_⟩
         · rw [za,ha',za,zg,za,hrow 1 1024 (by omega),za,YY hxb]
           have ea:D.at_ a=x.2:=by
             unfold RDk.at_
             have er:D.wait.reverse.find? (fun x=>decide (x.1=a))=some x:=by
               rw [show D.wait=D.wait.take i++D.wait.drop i from (List.take_append_drop i _).symm,hdr,List.reverse_append,List.reverse_cons,List.append_assoc,List.find?_append,List.find?_eq_none.2 (fun y hy=>by simpa using hno y (List.mem_reverse.1 hy))]
               rw [List.singleton_append,List.find?_cons_of_pos (by simpa using he)]
               rfl
             rw [er]
           rw [ea] at k
           refine l3.ret (i:=4) rfl zF hxb.size hxb.ok fun H' l'=>?_
           obtain ⟨O',st,ha⟩:=out (D':={ D with seen:=D.seen+1 }) l'
           exact k H' O' st ha
         · rw [zV,za,zh (by omega) (by omega)]
           refine ⟨⟨rfl,i,by omega,?_,fun y hy=>?_⟩,by simp only [zC]; omega⟩
           · rw [show (((i+1:Nat):Int) - 1 - 1)=(i:Int) - 1 by omega]; rfl
           · rw [hdr] at hy
             rcases List.mem_cons.1 hy with e2 | e2
             · rw [e2]; exact hne
             · exact hno y e2
       · have ej:j=0:=by omega
         subst ej
         rw [List.drop_zero] at hno
         have ea:D.at_ a=zX D.held a:=by
           unfold RDk.at_
           rw [List.find?_eq_none.2 fun x hx=>by simpa using hno x (List.mem_reverse.1 hx)]
         rw [ea] at k
         have hb:=Zw hok.held a
         rw [l3.ld (i:=0) rfl,rdk1,za]
         refine at04 (l3.sv (i:=1) rfl).sr hok.held hok.hlen fun H5 e5=>?_
         refine (l3.ext e5).ret (i:=4) rfl zF hb.size hb.ok fun H' l'=>?_
         obtain ⟨O',st,ha⟩:=out (D':={ D with seen:=D.seen+1 }) l'
         exact k H' O' st ha
   · rw [zt,za,ze]
     refine ⟨fun h0=>⟨rfl,Z5 (.inl h0)⟩,fun h0=>?_⟩
     rw [l1.ld (i:=0) rfl,rdk0,za,zU,za]
     exact ⟨rfl,y9 ⟨fun e=>.inr e,fun e=>e.resolve_left h0⟩⟩
theorem claim04 (h:(ym r D).at_ H O) (hok:RDkOk D) (hd:D.dead=false) (k:∀ H' O',Stp O O' H H'→(ym r D.claim).at_ H' O'→R (zm (D.claims+1)) H'):Fc Tryz.prog 89 #[zW r] H R:=by
 obtain ⟨hv,wv,ov,hall⟩:=h
 have hc:=hok.claims
 have l0:Lo O H H [.box r (rdkC D hv wv ov) 130,.sl 149 1025 hv (D.held.map zO),.sl 149 1025 wv (D.wait.map zO),.sl 211 1026 ov D.ops]:=Lo.open hall
 refine fn89 ?_
 simp only [sh89,zu]
 simp only [zc,zg,Nat.zero_add,Nat.add_zero,za]
 refine zT.mk (fun t H'=>H'=H∧t.1=.bool false) ?_ ?_
 · rintro ⟨t,u⟩ H2 ⟨rfl,ht⟩
   simp only at ht
   subst ht
   rw [zl,l0.ld (i:=0) rfl,rdk9,za,zk,za,zh (by omega) (by omega)]
   refine l0.st (i:=0) (j:=9) (v:=zm (D.claims+1)) rfl (by exact (by decide:9<11)) rfl rfl fun H3 l3=>?_
   have l3:Lo O H2 H3 [.box r (rdkC { D with claims:=D.claims+1 } hv wv ov) 130,.sl 149 1025 hv (D.held.map zO),.sl 149 1025 wv (D.wait.map zO),.sl 211 1026 ov D.ops]:=l3
   rw [l3.ld (i:=0) rfl,rdk9,za]
   refine l3.st (i:=0) (j:=10) (v:=zm (D.claims+1)) rfl (by exact (by decide:10<11)) rfl rfl fun H4 l4=>?_
   have l4:Lo O H2 H4 [.box r (rdkC D.claim hv wv ov) 130,.sl 149 1025 hv (D.held.map zO),.sl 149 1025 wv (D.wait.map zO),.sl 211 1026 ov D.ops]:=l4
   rw [l4.ld (i:=0) rfl,rdk9,za]
   obtain ⟨O',st,ha⟩:=Lo.close (l:=[_,_,_,_]) (r:=[]) l4
   exact k H4 O' st ⟨_,_,_,ha⟩
 · rw [show yg Tryz.prog 39 true .eql (zW r) (.pointer none) H=some (.bool false) from yO undRdk,za,zl,l0.ld (i:=0) rfl,rdk5,za,hd]
   exact ⟨rfl,rfl⟩
end
theorem Lo.close1 {O:Nat→Prop} {H H':Hp} {x:Ob} {r:List Ob} (l:Lo O H H' (x :: r)):∃ O',Stp O O' H H'∧x.at_ H' O':=by
 obtain ⟨O',s,ha⟩:=Lo.close (l:=[x]) (r:=r) l
 refine ⟨O',s,?_⟩
 obtain ⟨⟨col,w,hc⟩,hl⟩:=ha
 exact Ob.frame _ (w.obs 0 _ rfl) (fun _ _=>rfl) (Nat.le_refl _) (fun b hb=>hc b (by have hb:col b=0+1:=hb; omega)) hl
structure RLg where
 mine:Int
 made:Bool
 group:List (Int × Blk)
 step:Bool
 room:Int
 wrote:List Int
 commit:Int
 over:Int
def rlgC (r:Nat) (x:Lay) (G:RLg) (gv tv:Value):Array Value:=#[zW r,zm x.B,zm x.L,zm x.I,zm x.logAt,zm x.nodeAt,zm x.nodeBlocks,zm x.bitsAt,zm x.bitsBlocks,zm x.dataAt,zm G.mine,.bool G.made,gv,.bool G.step,zm G.room,tv,zm G.commit,zm G.over]
def nI (n:Int):Array Value:=#[zm n]
def docAll (w r:Nat) (D:RDk) (x:Lay) (G:RLg) (gv tv:Value):List Ob:=[ym r D,.box w (rlgC r x G gv tv) 128,.sl 161 1025 gv (G.group.map zO),.sl 3 1 tv (G.wrote.map nI)]
def docOb (w r:Nat) (D:RDk) (x:Lay) (G:RLg):Ob:=
 ⟨fun H O=>∃ gv tv,(Ob.all (docAll w r D x G gv tv)).at_ H O,
  fun ⟨_,_,h⟩=>Ob.own _ h,fun ⟨gv,tv,h⟩ hb hs ho hl=>⟨gv,tv,Ob.frame _ h hb hs ho hl⟩⟩
def RLg.new (mine:Int):RLg:=⟨mine,true,[],false,0,[],0,0⟩
theorem buildRlg (r:Nat) (a b c d e f g h i mine:Int):zv Tryz.prog 128 [(0,zW r),(1,.agg (Lay.cells ⟨a,b,c,d,e,f,g,h,i⟩)),(2,zm mine),(3,.bool true)]=some (.agg (rlgC r ⟨a,b,c,d,e,f,g,h,i⟩ (RLg.new mine) (.slice none 0 0) (.slice none 0 0))):=by kernel_rfl
section
variable {H:Hp} {R:Value→Hp→Prop} {r:Nat} {D:RDk} {O:Nat→Prop} {B L I:Int}
theorem may08 (h:(ym r D).at_ H O) (hg:Zo B L I) (hn:B≤D.n) (k:∀ H',Ext H H'→R (.bool true) H'):Fc Tryz.prog 132 #[zW r,.agg (zp B L I).cells] H R:=by
 obtain ⟨gL1,gL2,gI1,gI2,gB1,gB2,gD⟩:=id hg
 have c0:(zp B L I).cells[0]?=some (zm B):=rfl
 have hx:∀ {H'},Ext H H'→∃ O',(ym r D).at_ H' O':=fun e=>((Lo.own h).ext e).get (i:=0) rfl
 refine fn132 ?_
 simp only [sh132]
 refine (Lo.start _ H:Lx H H []).boxA fun b1 H1 _ l1=>?_
 rw [l1.ldAll (i:=0) (n:=9) rfl (Lay.size _),za]
 refine fits3 (by omega) hg fun H2 e2=>?_
 have l2:=l1.ext e2
 rw [z8]
 simp only [zg,Nat.zero_add,Nat.add_zero,za]
 refine ⟨?_,?_,trivial⟩
 · rw [l2.ld (i:=0) rfl,c0,za,zq]
   intro H3 e3
   obtain ⟨O',h3⟩:=hx (l2.ext0.trans e3)
   refine len04 h3 ?_
   rw [yX,za,decide_eq_true hn,zq]
   exact fun H4 e4=>k H4 ((l2.ext0.trans e3).trans e4)
 · rw [zq]
   intro H3 e3
   obtain ⟨O',h3⟩:=hx (l2.ext0.trans e3)
   refine len04 h3 ?_
   rw [(l2.ext e3).ld (i:=0) rfl,c0,za,yX,za,decide_eq_true hn,zq]
   exact fun H4 e4=>k H4 ((l2.ext0.trans e3).trans e4)
theorem RDk.read_alive {a:Int} (hd:D.dead=false) (h0:0≤a) (h1:a<D.n):D.read a=({ D with seen:=D.seen+1 },D.at_ a,0):=by
 unfold RDk.read; rw [if_neg (by simp [hd]),if_neg (by omega)]
theorem header08 (h:(ym r D).at_ H O) (hok:RDkOk D) (hd:D.dead=false) (hg:Zo B L I) (hn:B≤D.n) (hz:D.at_ 1=zB) (k:∀ H' O',Stp O O' H H'→(ym r { D with seen:=D.seen+1 }).at_ H' O'→R (.tuple #[.agg zHd,zm 0]) H'):Fc Tryz.prog 88 #[zW r,.agg (zp B L I).cells] H R:=by
 obtain ⟨gL1,gL2,gI1,gI2,gB1,gB2,gD⟩:=id hg
 have hDA:(zp B L I).dataAt=1+L+(I+16) / 16+(B+8191) / 8192:=rfl
 have c3:(zp B L I).cells[3]?=some (zm 1):=rfl
 have x3:∀ {a b:Value},zf (.tuple #[a,b]) 0=some a:=rfl
 have x4:∀ {a b:Value},zf (.tuple #[a,b]) 1=some b:=rfl
 have hrd:=RDk.read_alive (a:=1) hd (by omega) (by omega)
 refine fn88 ?_
 simp only [sh88,zeroHd,ZL,za]
 refine (Lo.own h).boxA fun b1 H1 _ l1=>?_
 refine l1.boxA fun b2 H2 _ l2=>?_
 have l2:Lo O H H2 [ym r D,.box b1 (zp B L I).cells 62,.box b2 zHd 151]:=l2
 rw [show yg Tryz.prog 39 true .eql (zW r) (.pointer none) H2=some (.bool false) from yO undRdk,za,zl,l2.ldAll (i:=1) (n:=9) rfl (Lay.size _),za]
 obtain ⟨O2,h2,_⟩:=l2.call (i:=0) rfl
 refine may08 h2 hg hn fun H3 e3=>?_
 have l3:=l2.ext e3
 rw [zM,za,Bool.not_true,zl,zg,za,Nat.zero_add,l3.ld (i:=1) rfl,c3,za]
 obtain ⟨O3,h3,st3⟩:=l3.call (i:=0) rfl
 refine read04 h3 hok fun H4 O4 s4 h4=>?_
 rw [hrd] at h4 ⊢
 have l4:Lo O H H4 [ym r { D with seen:=D.seen+1 },.box b1 (zp B L I).cells 62,.box b2 zHd 151]:=st3 H4 _ O4 s4 h4
 simp only [hz]
 rw [x3,za,x4,za]
 refine l4.boxA fun b3 H5 _ l5=>?_
 refine l5.stAll (i:=3) rfl zF zF Zl.ok fun H6 l6=>?_
 rw [zx,za,decide_eq_false (by omega),zl,l6.ldAll (i:=1) (n:=9) rfl (Lay.size _),za,l6.ldAll (i:=3) (n:=1024) rfl zF,za]
 refine dec7 hg fun H7 e7=>?_
 rw [x3,za,x4,za]
 refine (l6.ext e7).boxA fun b4 H8 _ l8=>?_
 refine l8.stAll (i:=4) rfl rfl rfl zHd_ok fun H9 l9=>?_
 rw [zx,za,decide_eq_false (by omega),zl,l9.ldAll (i:=4) (n:=1) rfl rfl,za]
 refine l9.ret (i:=2) (K:=fun x H4=>R (.tuple #[x,zm 0]) H4) rfl rfl rfl zHd_ok fun H' l'=>?_
 obtain ⟨O',s',h'⟩:=Lo.close1 (x:=ym r { D with seen:=D.seen+1 }) (r:=[_,_,_,_]) l'
 exact k H' O' s' h'
theorem new08 (h:(ym r D).at_ H O) (hok:RDkOk D) (hd:D.dead=false) (hg:Zo B L I) (hn:B≤D.n) (hz:D.at_ 1=zB) (hs:D.seen<4611686018427387903) (k:∀ H' O' w,Stp O O' H H'→(docOb w r ({ D with seen:=D.seen+1 }:RDk).claim (zp B L I) (RLg.new (D.claims+1))).at_ H' O'→R (.tuple #[zW w,zm 0]) H'):Fc Tryz.prog 33 #[zW r,.agg (zp B L I).cells] H R:=by
 have x3:∀ {a b:Value},zf (.tuple #[a,b]) 0=some a:=rfl
 have x4:∀ {a b:Value},zf (.tuple #[a,b]) 1=some b:=rfl
 have z0:zHd[0]?=some (.slice none 0 0):=rfl
 have hok1:RDkOk { D with seen:=D.seen+1 }:={ hok with seen:=by have:=hok.seen; exact ⟨by show 0≤D.seen+1; omega,by show D.seen+1<_; omega⟩ }
 refine fn33 ?_
 simp only [sh33,zeroHd,za]
 refine (Lo.own h).boxA fun b1 H1 _ l1=>?_
 have l1:Lo O H H1 [ym r D,.box b1 (zp B L I).cells 62]:=l1
 rw [l1.ldAll (i:=1) (n:=9) rfl (Lay.size _),za]
 obtain ⟨O1,h1,st1⟩:=l1.call (i:=0) rfl
 refine header08 h1 hok hd hg hn hz fun H2 O2 s2 h2=>?_
 have l2:Lo O H H2 [ym r { D with seen:=D.seen+1 },.box b1 (zp B L I).cells 62]:=st1 H2 _ O2 s2 h2
 rw [x3,za,x4,za]
 refine l2.boxA fun b2 H3 _ l3=>?_
 refine l3.stAll (i:=2) rfl rfl rfl zHd_ok fun H4 l4=>?_
 have l4:Lo O H H4 [ym r { D with seen:=D.seen+1 },.box b1 (zp B L I).cells 62,.box b2 zHd 151]:=l4
 rw [zx,za,decide_eq_false (by omega),zl,zg,za,Nat.zero_add,l4.ld (i:=2) rfl,z0,za,lenNilInts,za,zN,za,decide_eq_false (by omega),zl]
 have fin:∀ {H':Hp},Lo O H H' [ym r ({ D with seen:=D.seen+1 }:RDk).claim,.box b1 (zp B L I).cells 62,.box b2 zHd 151] →
     Pu (zv Tryz.prog 128 [(0,zW r),(1,.agg (zp B L I).cells),(2,zm (D.claims+1)),(3,(.bool true))]) fun x19=>ForX true H' fun H12=>Box 128 x19 H12 fun x20 H13=>ForX true H13 fun H14=>R (.tuple #[x20,zm 0]) H14:=by
   intro H' l5
   unfold zp
   rw [buildRlg,za,zq]
   intro H12 e12
   refine (l5.ext e12).boxA fun w H13 _ l6=>?_
   rw [zq]
   intro H14 e14
   have l7:=((l6.ext e14).nilS 161 1025).nilS 3 1
   have l8:=l7.pick [0,3,4,5] (by decide) (by simp)
   obtain ⟨O',s',h'⟩:=Lo.close (l:=[_,_,_,_]) (r:=[]) l8
   exact k H14 O' w s' ⟨_,_,h'⟩
 refine ⟨?_,?_,trivial⟩
 · rw [l4.ldAll (i:=1) (n:=9) rfl (Lay.size _),za,zq]
   intro H5 e5
   obtain ⟨O5,h5,st5⟩:=(l4.ext e5).call (i:=0) rfl
   refine claim04 h5 hok1 hd fun H6 O6 s6 h6=>?_
   exact fin (st5 H6 _ O6 s6 h6)
 · rw [zq]
   intro H5 e5
   obtain ⟨O5,h5,st5⟩:=(l4.ext e5).call (i:=0) rfl
   refine claim04 h5 hok1 hd fun H6 O6 s6 h6=>?_
   have l6:Lo O H H6 [ym r ({ D with seen:=D.seen+1 }:RDk).claim,.box b1 (zp B L I).cells 62,.box b2 zHd 151]:=st5 H6 _ O6 s6 h6
   rw [l6.ldAll (i:=1) (n:=9) rfl (Lay.size _),za]
   exact fin l6
end
theorem okL_gt {n:Int}:∀ {l:List (Int × Blk)} {b:Int},okL n b l→∀ x∈l,b<x.1
 | [],_,_,x,h=>by cases h
 | y :: l,b,h,x,hx=>by
   rcases List.mem_cons.1 hx with e | e
   · rw [e]; exact h.1
   · have:=okL_gt h.2.2.2.2 x e
     have:=h.1
     omega
theorem held_fold {n:Int}:∀ {l:List (Int × Blk)} {b:Int} (g:Int→Blk) (a:Int),okL n b l→(l.foldl (fun g x=>updB g x.1 x.2) g) a=if ∃ x∈l,x.1=a then zX l a else g a
 | [],_,g,a,_=>by simp
 | y :: l,b,g,a,h=>by
   rw [List.foldl_cons,held_fold (updB g y.1 y.2) a h.2.2.2.2,imgAt_cons]
   have hgt:=okL_gt h.2.2.2.2
   by_cases e:y.1=a
   · rw [if_neg (by rintro ⟨x,hx,ex⟩; have:=hgt x hx; omega),if_pos ⟨y,List.mem_cons_self ..,e⟩,if_pos e]
     unfold updB
     rw [if_pos e.symm]
   · rw [if_neg e]
     by_cases e2:∃ x∈l,x.1=a
     · rw [if_pos e2,if_pos]
       obtain ⟨x,hx,ex⟩:=e2
       exact ⟨x,List.mem_cons_of_mem _ hx,ex⟩
     · rw [if_neg e2,if_neg]
       · unfold updB
         rw [if_neg (fun e3=>e e3.symm)]
       · rintro ⟨x,hx,ex⟩
         rcases List.mem_cons.1 hx with e4 | e4
         · rw [e4] at ex; exact e ex
         · exact e2 ⟨x,e4,ex⟩
theorem heldL_img {n b:Int} {l:List (Int × Blk)} (h:okL n b l) (a:Int):heldL l a=zX l a:=by
 unfold heldL
 rw [held_fold _ a h]
 split
 · rfl
 · rename_i hno
   rw [imgAt_out fun x hx e=>hno ⟨x,hx,e⟩]
def diskOb (p:Nat) (s:DS):Ob:=
 ⟨fun H O=>(∃ Od,DiskAt H p s Od∧∀ b,Od b→O b)∧∀ b,O b→b<H.size,fun h=>h.2,
  fun ⟨⟨Od,h1,h2⟩,_⟩ hb hs ho hl=>⟨⟨Od,h1.of (fun b hh=>hb b (h2 b hh)) hs,fun b hh=>ho b (h2 b hh)⟩,hl⟩⟩
theorem LogRd.of {H H':Hp} {lb p cb mb:Nat} {s:DS} {cs:List Pl} {x:Lay} {mine:Int} {O Oc:Nat→Prop} (h:LogRd H lb p cb mb s cs x mine O Oc) (h1:∀ b,O b→H'[b]?=H[b]?) (h2:∀ b,Oc b→H'[b]?=H[b]?) (h3:H'[mb]?=H[mb]?) (h4:H'[lb]?=H[lb]?) (hs:H.size≤H'.size):LogRd H' lb p cb mb s cs x mine O Oc:=
 { h with dk:=h.dk.of h1 hs,ca:=h.ca.of h2 hs,mp:=h.mp.of h3,top:=by rw [h4]; exact h.top }
def logOb (lb p:Nat) (s:DS) (cs:List Pl) (x:Lay) (mine:Int):Ob:=
 ⟨fun H O=>(∃ cb mb Od Oc,LogRd H lb p cb mb s cs x mine Od Oc∧(∀ b,Od b→O b)∧(∀ b,Oc b→O b)∧O mb∧O lb)∧∀ b,O b→b<H.size,fun h=>h.2,
  fun ⟨⟨cb,mb,Od,Oc,h1,h2,h3,h4,h5⟩,_⟩ hb hs ho hl=>⟨⟨cb,mb,Od,Oc,h1.of (fun b hh=>hb b (h2 b hh)) (fun b hh=>hb b (h3 b hh)) (hb _ h4) (hb _ h5) hs,fun b hh=>ho b (h2 b hh),fun b hh=>ho b (h3 b hh),ho _ h4,ho _ h5⟩,hl⟩⟩
theorem eqX_ptrN {P:Program} {T e:TypeId} {lit:Bool} {a:Addr} {H:Hp} (hu:P.underlying T=some (.pointer e)):yg P T lit .neq (.pointer (some a)) (.pointer none) H=some (.bool true):=by
 simp [yg,eqE,eqD,hu]
def prC (p lb r w:Nat):Array Value:=#[zW p,zW lb,zW r,zW w]
theorem buildPr (p lb r w:Nat):zv Tryz.prog 42 [(0,zW p),(1,zW lb),(2,zW r),(3,zW w)]=some (.agg (prC p lb r w)):=by kernel_rfl
def Yy (B L I:Int) (iv:Value) (fr sp seed:Int):Array Value:=#[zm B,zm L,zm I,iv,zm fr,zm sp,zm seed]
noncomputable def dsOf (B:Int) (l:List (Int × Blk)):DS:=({ DS.load B l with reads:=1 }:DS).claimed
noncomputable def rdOf (B:Int) (l:List (Int × Blk)):RDk:=({ RDk.load B l with seen:=1 }:RDk).claim
section
variable {H:Hp} {R:Value→Hp→Prop}
set_option maxHeartbeats 2000000 in
theorem begin_kit {B L I:Int} (hB : -9223372036854775808≤B∧B≤9223372036854775807) {iv:Value} {its:List Itm} (hst:StAt H iv its) (hits:∀ t∈its,Z7 t) (hlen:its.length<281474976710656) {fr sp seed:Int} (hseed : -9223372036854775808≤seed∧seed≤9223372036854775807) (hiv:∃ b n c,iv=.slice b n c)
   (kno:∀ H',Ext H H'→R (.tuple #[.pointer none,.bool false,.bool false]) H')
   (k:∀ H' pp p lb r w m0 fs m,MaySt B L I its fr sp m0 fs→MOf m B L I→(zL m its (pg0 m)).full=false →
     Lx H H' [.box pp (prC p lb r w) 42,logOb lb p (dsOf B (Yv 0 (Zz m (zL m its (pg0 m)) (seed % 1000003).toNat))) [] (zp B L I) 1,docOb w r (rdOf B (Yv 0 (Zz m (zL m its (pg0 m)) (seed % 1000003).toNat))) (zp B L I) (RLg.new 1)]→R (.tuple #[zW pp,.bool true,.bool true]) H') :
   Fc Tryz.prog 6 #[.agg (Yy B L I iv fr sp seed)] H R:=by
 have x3:∀ {a b:Value},zf (.tuple #[a,b]) 0=some a:=rfl
 have x4:∀ {a b:Value},zf (.tuple #[a,b]) 1=some b:=rfl
 obtain ⟨ivb,ivn,ivc,eiv⟩:=hiv
 have w0:(Yy B L I iv fr sp seed).extract 0 (0+3)=#[zm B,zm L,zm I]:=by simp [Yy]
 have w3:(Yy B L I iv fr sp seed).extract 3 (3+3)=stC iv fr sp:=by simp [Yy,stC]
 have w6:(Yy B L I iv fr sp seed)[6]?=some (zm seed):=rfl
 have wsz:(Yy B L I iv fr sp seed).size=7:=rfl
 refine fn6 ?_
 simp only [sh6,zeroImg,yj,za,zu]
 refine (Lo.start _ H:Lx H H []).boxA fun b1 H1 _ l1=>?_
 have l1:Lx H H1 [.box b1 (Yy B L I iv fr sp seed) 28]:=l1
 simp only [zg,Nat.zero_add,Nat.add_zero,za]
 rw [Zj (l1.at (i:=0) rfl) (show 0+3≤7 by omega),za,w0,Zj (l1.at (i:=0) rfl) (show 3+3≤7 by omega),za,w3]
 refine may_kit hB (hst.ext l1.ext0) hits hlen ⟨ivb,ivn,ivc,eiv⟩ (fun H2 e2=>?_) (fun H2 m0 fs e2 hmay=>?_)
 · rw [zM,za,Bool.not_false,z8]
   exact kno H2 (l1.ext e2).ext0
 have l2:=l1.ext e2
 rw [zM,za,Bool.not_true,zl]
 rw [Zj (l2.at (i:=0) rfl) (show 0+3≤7 by omega),za,w0,Zj (l2.at (i:=0) rfl) (show 3+3≤7 by omega),za,w3,l2.ld (i:=0) rfl,w6,za]
 refine laid_ok hB (hst.ext l2.ext0) hits hlen hseed (fun H3 e3 hbad=>?_) (fun H3 dv m e3 hg hm hfull n3=>?_)
 · exfalso
   obtain ⟨m',hm',hf'⟩:=hbad hmay.ok
   have:=(room_same hmay.mof hm' hmay.ok hits).full
   rw [hf',hmay.room] at this
   cases this
 have k:=fun H' pp p lb r w=>k H' pp p lb r w m0 fs m hmay hm hfull
 obtain ⟨gL1,gL2,gI1,gI2,gB1,gB2,gD⟩:=id hg
 have hDA:(zp B L I).dataAt=1+L+(I+16) / 16+(B+8191) / 8192:=rfl
 have im:=im_ok hg hm hits hm.B n3.sv.sr
 obtain ⟨q,r0,edv⟩:=n3.sv.len
 have l3:=l2.new e3 n3
 generalize Yv 0 (Zz m (zL m its (pg0 m)) (seed % 1000003).toNat)=l at im l3 k n3 edv
 refine l3.boxA fun b3 H4 _ l4=>?_
 refine l4.stAll (i:=2) (n:=2) (vs:=#[zm B,dv]) rfl rfl rfl (by rw [edv]; unfold zG; rw [← Array.all_toList]; rfl) fun H5 l5=>?_
 rw [Zj (l5.at (i:=0) rfl) (show 0+3≤7 by omega),za,w0]
 refine of3 hB (fun H6 e6 _=>?_) (fun H6 e6 hno=>absurd hg hno)
 rw [x3,za,x4,za]
 refine (l5.ext e6).boxA fun b4 H7 _ l7=>?_
 refine l7.stAll (i:=3) (n:=9) rfl rfl (Lay.size _) (Lay.cok _) fun H8 l8=>?_
 have l8:Lx H H8 [.box b1 (Yy B L I iv fr sp seed) 28,.sl 149 1025 dv (l.map zO),.box b3 #[zm B,dv] 81,.box b4 (zp B L I).cells 62]:=l8
 rw [l8.ldAll (i:=2) (n:=2) rfl rfl,za]
 refine disk_load gB1 gB2 (l8.sv (i:=1) rfl) im.whole im.len fun H9 p e9 hdk=>?_
 have l9:Lx H H9 [.box b1 (Yy B L I iv fr sp seed) 28,.sl 149 1025 dv (l.map zO),.box b3 #[zm B,dv] 81,.box b4 (zp B L I).cells 62,diskOb p (DS.load B l)]:=l8.add e9 (x:=diskOb p (DS.load B l)) (O:=fun b=>H8.size≤b∧b<H9.size) ⟨⟨_,hdk,fun b hb=>hb⟩,fun b hb=>hb.2⟩ fun b hb=>hb.1
 rw [x3,za,x4,za]
 refine zT.mk (fun t H'=>H'=H9∧t.1=.bool false) ?_ ?_
 rotate_left
 · rw [show yg Tryz.prog 37 true .eql (zW p) (.pointer none) H9=some (.bool false) from yO (e:=115) (by kernel_rfl),za,zl,zx,za]
   exact ⟨rfl,rfl⟩
 rintro ⟨t,u⟩ H10 ⟨rfl,ht⟩
 simp only at ht
 subst ht
 rw [zl,l9.ldAll (i:=3) (n:=9) rfl (Lay.size _),za]
 obtain ⟨O9,⟨⟨Od,hd9,hsub⟩,hO9⟩,st9⟩:=l9.call (i:=4) rfl
 refine wal_new hd9 hB hg (show B≤B from Int.le_refl _) rfl (by show (0:Int)<_∧(0:Int)≤0; omega) (by show heldL l 1=zB; rw [heldL_img im.whole]; exact im.hd) (by show (0:Int)≤0∧(0:Int)<_; omega) fun H11 lb mb cb Oc s11 hd11 hc11 hm11 o1 o2 o3 o4 o5 o6 htop=>?_
 have hdl:=hd9.lt
 have l11:Lx H H11 [.box b1 (Yy B L I iv fr sp seed) 28,.sl 149 1025 dv (l.map zO),.box b3 #[zm B,dv] 81,.box b4 (zp B L I).cells 62,logOb lb p (dsOf B l) [] (zp B L I) 1]:=by
   refine st9 H11 (logOb lb p (dsOf B l) [] (zp B L I) 1) (fun b=>O9 b∨Oc b∨b=mb∨b=lb) ⟨s11.kp.mono fun b _ hb=>hsub b hb,fun b hb=>?_⟩ ⟨⟨cb,mb,Od,Oc,⟨hd11,hc11,hm11,htop,fun b hb hc=>?_,⟨fun hh=>?_,o5,fun hh=>?_,o4,o6⟩,⟨by omega,rfl⟩⟩,fun b hb=>.inl (hsub b hb),fun b hb=>.inr (.inl hb),.inr (.inr (.inl rfl)),.inr (.inr (.inr rfl))⟩,fun b hb=>?_⟩
   · rcases hb with hb | hb | hb | hb
     · exact .inl hb
     · exact .inr (o1 b hb)
     · rw [hb]; exact .inr o2
     · rw [hb]; exact .inr o3
   · have:=hdl b hb; have:=o1 b hc; omega
   · have:=hdl _ hh; omega
   · have:=hdl _ hh; omega
   · rcases hb with hb | hb | hb | hb
     · exact Nat.lt_of_lt_of_le (hO9 b hb) s11.kp.le
     · exact hc11.lt b hb
     · rw [hb]; exact hm11.lt
     · rw [hb]; exact (Array.getElem?_eq_some_iff.1 htop).1
 rw [x3,za,x4,za]
 refine zT.mk (fun t H'=>H'=H11∧t.1=.bool false) ?_ ?_
 rotate_left
 · rw [show yg Tryz.prog 38 true .eql (zW lb) (.pointer none) H11=some (.bool false) from yO (e:=100) (by kernel_rfl),za,zl,zx,za]
   exact ⟨rfl,rfl⟩
 rintro ⟨t,u⟩ H12 ⟨rfl,ht⟩
 simp only at ht
 subst ht
 rw [zl,l11.ldAll (i:=2) (n:=2) rfl rfl,za]
 refine load04 ⟨gB1,gB2⟩ (l11.sv (i:=1) rfl).sr im.whole im.is im.len fun H13 r e13 n13=>?_
 have l13:=l11.new e13 n13
 have l13:Lx H H13 [.box b1 (Yy B L I iv fr sp seed) 28,.sl 149 1025 dv (l.map zO),.box b3 #[zm B,dv] 81,.box b4 (zp B L I).cells 62,logOb lb p (dsOf B l) [] (zp B L I) 1,ym r (RDk.load B l)]:=l13
 rw [x3,za,x4,za,l13.ldAll (i:=3) (n:=9) rfl (Lay.size _),za]
 obtain ⟨O13,h13,st13⟩:=l13.call (i:=5) rfl
 refine new08 h13 (RDk.load_ok im.is im.len) rfl hg (show B≤B from Int.le_refl _) (by rw [show (RDk.load B l).at_ 1=zX l 1 from rfl]; exact im.hd) (by show (0:Int)<_; omega) fun H14 O14 w s14 h14=>?_
 have l14:Lx H H14 [.box b1 (Yy B L I iv fr sp seed) 28,.sl 149 1025 dv (l.map zO),.box b3 #[zm B,dv] 81,.box b4 (zp B L I).cells 62,logOb lb p (dsOf B l) [] (zp B L I) 1,docOb w r (rdOf B l) (zp B L I) (RLg.new 1)]:=st13 H14 _ O14 s14 h14
 rw [x3,za,x4,za,buildPr,za]
 refine l14.boxA fun pp H15 _ l15=>?_
 rw [show yg Tryz.prog 40 true .neq (zW w) (.pointer none) H15=some (.bool true) from eqX_ptrN (e:=128) (by kernel_rfl),za]
 exact k H15 pp p lb r w (l15.pick [6,4,5] (by decide) (by simp))
end
theorem or_add {x y e z:Nat} (hx:x<2 ^ e) (hy:y=2 ^ e*z):x ||| y=x+y:=by
 rw [hy,Nat.or_comm,← Nat.two_pow_add_eq_or_of_lt hx,Nat.add_comm]
section
variable {H:Hp} {R:Value→Hp→Prop}
theorem orU16 {x y e z:Nat} (hx:x<2 ^ e) (hy:y=2 ^ e*z) (hs:x+y<65536) {td:Option TypeDesc}:zn td .or (.int .u16 x) (.int .u16 y)=some (.int .u16 ((x+y:Nat):Int)):=by
 rw [binE_or]
 have e1:bitsE .or .u16 (x:Int) (y:Int)=IntKind.u16.wrap (((BitVec.ofInt 16 (x:Int) ||| BitVec.ofInt 16 (y:Int)).toNat:Nat):Int):=rfl
 rw [e1,BitVec.ofInt_natCast,BitVec.ofInt_natCast,BitVec.toNat_or,BitVec.toNat_ofNat,BitVec.toNat_ofNat,Nat.mod_eq_of_lt (by omega),Nat.mod_eq_of_lt (by omega),or_add hx hy,Zu (by omega) (by omega)]
theorem orU32 {x y e z:Nat} (hx:x<2 ^ e) (hy:y=2 ^ e*z) (hs:x+y<4294967296) {td:Option TypeDesc}:zn td .or (.int .u32 x) (.int .u32 y)=some (.int .u32 ((x+y:Nat):Int)):=by
 rw [binE_or]
 have e1:bitsE .or .u32 (x:Int) (y:Int)=IntKind.u32.wrap (((BitVec.ofInt 32 (x:Int) ||| BitVec.ofInt 32 (y:Int)).toNat:Nat):Int):=rfl
 rw [e1,BitVec.ofInt_natCast,BitVec.ofInt_natCast,BitVec.toNat_or,BitVec.toNat_ofNat,BitVec.toNat_ofNat,Nat.mod_eq_of_lt (by omega),Nat.mod_eq_of_lt (by omega),or_add hx hy,Zm (by omega) (by omega)]
theorem shU16 {x:Nat} (hx:x<256) {td:Option TypeDesc}:zn td .shl (.int .u16 x) (.int .u64 8)=some (.int .u16 ((256*x:Nat):Int)):=by
 rw [binE_shl (by decide),show min (8:Int).toNat IntKind.u16.bits=8 from rfl,show (x:Int)*2 ^ 8=((256*x:Nat):Int) by omega,Zu (by omega) (by omega)]
theorem shU32 {x s:Nat} (hs:s=8∨s=16∨s=24) (hx:x<256) {td:Option TypeDesc}:zn td .shl (.int .u32 x) (.int .u64 s)=some (.int .u32 ((2 ^ s*x:Nat):Int)):=by
 rw [binE_shl (by omega)]
 rcases hs with rfl | rfl | rfl
 · rw [show min ((8:Nat):Int).toNat IntKind.u32.bits=8 from rfl,show (x:Int)*2 ^ 8=((2 ^ 8*x:Nat):Int) by omega,Zm (by omega) (by omega)]
 · rw [show min ((16:Nat):Int).toNat IntKind.u32.bits=16 from rfl,show (x:Int)*2 ^ 16=((2 ^ 16*x:Nat):Int) by omega,Zm (by omega) (by omega)]
 · rw [show min ((24:Nat):Int).toNat IntKind.u32.bits=24 from rfl,show (x:Int)*2 ^ 24=((2 ^ 24*x:Nat):Int) by omega,Zm (by omega) (by omega)]
theorem slab_u16 {c:Blk} (hc:IsB c) {a:Nat} (ha:a+2≤1024) (k:∀ H',Ext H H'→R (.int .u16 (leB c a 2)) H'):Fc Tryz.prog 135 #[.agg c,zm a] H R:=by
 have q0:=hc.lt a
 have q1:=hc.lt (a+1)
 refine fn135 ?_
 simp only [sh135]
 refine (Lo.start _ H:Lx H H []).boxA fun b1 H1 _ l1=>?_
 refine inside_ok (by omega) ?_
 rw [decide_eq_true (by omega),zM,za,Bool.not_true,zl]
 rw [zH (by omega),za,Nat.zero_add,Nat.mul_one,l1.ld (i:=0) rfl,hc.get (by omega),za,zE,za,Zu (by omega) (by omega),zk,za,zJ,zw (by omega),zH (by omega),za,Nat.zero_add,Nat.mul_one,l1.ld (i:=0) rfl,hc.get (by omega),za,zE,za,Zu (by omega) (by omega),shU16 q1,za,orU16 (e:=8) (z:=byt c (a+1)) (by omega) (by omega) (by omega),za]
 have e:leB c a 2=byt c a+256*byt c (a+1):=by
   show byt c a+256*(byt c (a+1)+256*0)=_; omega
 rw [← e]
 exact k H1 l1.ext0
theorem slab_u32 {c:Blk} (hc:IsB c) {a:Nat} (ha:a+4≤1024) (k:∀ H',Ext H H'→R (.int .u32 (leB c a 4)) H'):Fc Tryz.prog 136 #[.agg c,zm a] H R:=by
 have q0:=hc.lt a
 have q1:=hc.lt (a+1)
 have q2:=hc.lt (a+2)
 have q3:=hc.lt (a+3)
 have sh:∀ {x:Nat} (n:Nat),n=8∨n=16∨n=24→x<256→zn (some (.int .u32)) .shl (.int .u32 x) (.int .u64 n)=some (.int .u32 ((2 ^ n*x:Nat):Int)):=fun n hn hx=>shU32 hn hx
 have s8:=@sh (byt c (a+1)) 8 (by omega) q1
 have s16:=@sh (byt c (a+2)) 16 (by omega) q2
 have s24:=@sh (byt c (a+3)) 24 (by omega) q3
 refine fn136 ?_
 simp only [sh136]
 refine (Lo.start _ H:Lx H H []).boxA fun b1 H1 _ l1=>?_
 refine inside_ok (by omega) ?_
 rw [decide_eq_true (by omega),zM,za,Bool.not_true,zl]
 rw [zH (by omega),za,Nat.zero_add,Nat.mul_one,l1.ld (i:=0) rfl,hc.get (by omega),za,zE,za,Zm (by omega) (by omega)]
 rw [zk,za,zJ a,zw (v:=a+1) (by omega),zH (by omega),za,Nat.zero_add,Nat.mul_one,l1.ld (i:=0) rfl,hc.get (by omega),za,zE,za,Zm (by omega) (by omega)]
 erw [s8]
 rw [za,orU32 (e:=8) (z:=byt c (a+1)) (by omega) (by omega) (by omega),za]
 rw [zk,za,show (a:Int)+2=((a+2:Nat):Int) by omega,zw (v:=a+2) (by omega),zH (by omega),za,Nat.zero_add,Nat.mul_one,l1.ld (i:=0) rfl,hc.get (by omega),za,zE,za,Zm (by omega) (by omega)]
 erw [s16]
 rw [za,orU32 (e:=16) (z:=byt c (a+2)) (by omega) (by omega) (by omega),za]
 rw [zk,za,show (a:Int)+3=((a+3:Nat):Int) by omega,zw (v:=a+3) (by omega),zH (by omega),za,Nat.zero_add,Nat.mul_one,l1.ld (i:=0) rfl,hc.get (by omega),za,zE,za,Zm (by omega) (by omega)]
 erw [s24]
 rw [za,orU32 (e:=24) (z:=byt c (a+3)) (by omega) (by omega) (by omega),za]
 have e:leB c a 4=byt c a+2 ^ 8*byt c (a+1)+2 ^ 16*byt c (a+2)+2 ^ 24*byt c (a+3):=by
   show byt c a+256*(byt c (a+1)+256*(byt c (a+1+1)+256*(byt c (a+1+1+1)+256*0)))=_
   rw [show a+1+1=a+2 by omega,show a+2+1=a+3 by omega]; omega
 rw [← e]
 exact k H1 l1.ext0
end
theorem sl_arr {P:Program} {T e n:Nat} {i:TypeInfo} (hu:P.underlying T=some (.array n e)) (hi:P.info? e=some i) (hs:i.size=1) {b lo hi':Nat} (h1:lo≤hi') (h2:hi'≤n) (h3:lo<n):ya P T (.pointer (some ⟨b,0,none⟩)) (some (zm lo)) (some (zm hi')) none=some (.slice (some ⟨b,lo,none⟩) (hi' - lo) (n - lo)):=by
 unfold ya
 rw [hu]
 have q1:(0:Int)≤(hi':Int)∧(hi':Int)≤(n:Int):=by omega
 have q2:(0:Int)≤(lo:Int)∧(lo:Int)≤(hi':Int):=by omega
 simp only [ZD,hiE,Option.bind_some,Int.toNat_natCast,hi,Option.map_some]
 rw [if_pos q1]
 simp only [Option.bind_some]
 rw [if_pos q2]
 simp only [Option.bind_some,Option.map_some,hs,Nat.mul_one]
 rw [if_neg (by omega)]
 simp only [Addr.add_mk,Nat.zero_add]
theorem sl_all {P:Program} {T e n:Nat} {i:TypeInfo} (hu:P.underlying T=some (.array n e)) (hi:P.info? e=some i) (hs:i.size=1) {b:Nat} (h3:0<n):ya P T (.pointer (some ⟨b,0,none⟩)) none none none=some (.slice (some ⟨b,0,none⟩) n n):=by
 unfold ya
 rw [hu]
 simp only [ZD,hiE,Option.bind_some,hi,Option.map_some]
 rw [if_neg (by omega)]
 simp only [Addr.add_mk,Nat.zero_mul,Nat.zero_add,Nat.sub_zero]
theorem und64:Tryz.prog.underlying 105=some (.array 64 5):=by kernel_rfl
theorem undByt:Tryz.prog.underlying 107=some (.slice 5):=by kernel_rfl
theorem buildNode6 (a b c d e f:Int):zv Tryz.prog 54 [(0,.int .u16 a),(1,.int .u16 b),(2,.int .u32 c),(3,.int .u32 d),(5,.int .u32 e),(6,.int .u32 f)]=some (.agg #[.int .u16 a,.int .u16 b,.int .u32 c,.int .u32 d,.int .u32 0,.int .u32 0,.int .u32 0,.int .u32 0,.int .u32 0,.int .u32 0,.int .u32 0,.int .u32 0,.int .u32 0,.int .u32 0,.int .u32 e,.int .u32 f]):=by kernel_rfl
def inoU (f:Ino) (n:Nat):Ino:=fun j=>if j<4+n∨14≤j then f j else 0
theorem inoU_set (f:Ino) {n:Nat} (h:n<10):(zS (inoU f n)).setIfInBounds (4+n) (.int .u32 (f (4+n)))=zS (inoU f (n+1)):=by
 rw [yV _ _ (4+n) (by omega) (by omega)]
 refine yb fun j hj=>?_
 unfold upd inoU
 by_cases e:j=4+n
 · subst e; rw [if_pos rfl,if_pos (by omega)]
 · rw [if_neg e]
   by_cases h3:j<4+n∨14≤j
   · rw [if_pos h3,if_pos (by omega)]
   · rw [if_neg h3,if_neg (by omega)]
section
variable {H:Hp} {R:Value→Hp→Prop}
theorem span64 (k:R (.tuple #[zm 0,zm 64]) H):Fc Tryz.prog 174 #[zm 0,zm 64] H R:=by
 refine fn174 ?_
 simp only [sh174,zu]
 refine zT.mk (fun t H'=>H'=H∧t.1=.bool false) ?_ ?_
 · rintro ⟨t,u⟩ H2 ⟨rfl,ht⟩
   simp only at ht
   subst ht
   rw [zl,show maxE (zm 0) (.int .i64 0)=some (zm 0) from rfl,za,zt,za,decide_eq_false (by omega),zl,zV,za,zh (by omega) (by omega),zt,za,decide_eq_true (by omega),z8,zk,za,zh (by omega) (by omega),show maxE (zm 0) (.int .i64 (0+64))=some (zm 64) from rfl,za]
   exact k
 · rw [zt,za,decide_eq_false (by omega),zl,zU,za,decide_eq_false (by omega),zl,zt,za,decide_eq_false (by omega),zl]
   exact ⟨rfl,rfl⟩
theorem lay64 {pb:Nat} {pc:Array Value} {T:TypeId} (hp:H[pb]?=some (.cells pc T)) (hpc:IsN 64 pc) (k:∀ H',Ext H H'→R (.agg (z6 zB 0 pc)) H'):Fc Tryz.prog 134 #[.agg zB,zm 0,.slice (some ⟨pb,0,none⟩) 64 64] H R:=by
 have x3:∀ {a b:Value},zf (.tuple #[a,b]) 0=some a:=rfl
 have x4:∀ {a b:Value},zf (.tuple #[a,b]) 1=some b:=rfl
 have hsp:IsB (z6 zB 0 pc):=(yl Zl.n hpc (by omega)).b
 refine fn134 ?_
 simp only [sh134,ZL,za,zu]
 refine (Lo.start _ H:Lx H H []).boxA fun b1 H1 _ l1=>?_
 refine l1.boxA fun b2 H2 _ l2=>?_
 rw [show lenE Tryz.prog 107 (.slice (some ⟨pb,0,none⟩) 64 64)=some (zm 64) from len_slice undByt,za]
 refine span64 ?_
 rw [x3,za,x4,za]
 refine zy.mk (fun t H'=>∃ (i:Nat) (c:Blk),i≤64∧t=(zm i,())∧CpyI zB pc 0 i c∧Lx H H' [.box b1 c 65,.box b2 zB 65])
   (fun t _=>mi t.1 fun i=>(64 - i).toNat) ⟨0,zB,by omega,rfl,CpyI.zero Zl,l2⟩ ?_
 rintro _ H3 ⟨i,c,hi,rfl,hcp,l3⟩
 rw [zt,za,ze]
 refine ⟨fun hlt=>?_,fun hge=>?_⟩
 · have hp3:=l3.ext0.at hp
   rw [zV,za,zh (by omega) (by omega),show (i:Int) - 0=(i:Int) by omega,@idx_slc 64 64 1 pb 0 .i64 i (by omega) (by omega),za,Nat.mul_one,Nat.zero_add,zo hp3,hpc.get (by omega),za,zH (by omega),za,Nat.mul_one,Nat.zero_add]
   refine l3.st (i:=0) (j:=i) (v:=.int .u8 (byt pc i)) rfl (by rw [hcp.1.size]; omega) rfl rfl fun H4 l4=>?_
   rw [zk,za,zJ,zw (by omega)]
   have hst:=hcp.step hpc (by omega) (by omega)
   rw [Nat.zero_add] at hst
   exact ⟨⟨i+1,_,by omega,rfl,hst,l4⟩,by simp only [zC]; omega⟩
 · have ei:i=64:=by omega
   subst ei
   have e:=hcp.done Zl hpc (by omega)
   rw [l3.ldAll (i:=0) (n:=1024) rfl hcp.1.size,za]
   refine l3.ret (i:=1) rfl zF hcp.1.size hcp.1.ok fun H' l'=>?_
   rw [e]; exact k H' l'.ext0
set_option maxHeartbeats 1000000 in
theorem node_dec {c:Array Value} (hc:IsN 64 c) (k:∀ H',Ext H H'→R (.agg (zS (Zq c 0))) H'):Fc Tryz.prog 90 #[.agg c] H R:=by
 have hX:IsB (z6 zB 0 c):=(yl Zl.n hc (by omega)).b
 have hle:∀ {a n:Nat},a+n≤64→leB (z6 zB 0 c) a n=leB c a n:=fun {a n} han=>YC _ _ _ fun i hi=>by
   rw [byt_splice Zl.n hc (by omega),if_pos (by omega),Nat.sub_zero]
 have eF:∀ j,leB c (fo j) (fw j)=Zq c 0 j:=fun j=>by unfold Zq; rw [Nat.zero_add]
 refine fn90 ?_
 simp only [sh90,yi,ZL,Yj,za,zu]
 refine (Lo.start _ H:Lx H H []).boxA fun b1 H1 _ l1=>?_
 refine l1.boxA fun b2 H2 _ l2=>?_
 rw [sl_all und64 inf8_e inf8_s (by omega),za]
 refine lay64 (l2.at (i:=0) rfl) hc fun H3 e3=>?_
 generalize z6 zB 0 c=X at hX hle
 refine (l2.ext e3).boxA fun b3 H4 _ l4=>?_
 refine l4.stAll (i:=2) rfl zF hX.size hX.ok fun H5 l5=>?_
 have l5:Lx H H5 [.box b1 c 105,.box b2 (zS fun _=>0) 54,.box b3 X 65]:=l5
 have q2:∀ {H':Hp} {a:Nat},a+2≤64→QC true Tryz.prog 135 #[.agg X,zm a] H' (.int .u16 (leB c a 2)):=fun {H' a} ha H'' _=>slab_u16 hX (by omega) fun H3 e3=>⟨by rw [hle ha],e3⟩
 have q4:∀ {H':Hp} {a:Nat},a+4≤64→QC true Tryz.prog 136 #[.agg X,zm a] H' (.int .u32 (leB c a 4)):=fun {H' a} ha H'' _=>slab_u32 hX (by omega) fun H3 e3=>⟨by rw [hle ha],e3⟩
 rw [l5.ldAll (i:=2) (n:=1024) rfl hX.size,za]
 refine ⟨_,q2 (a:=0) (by omega),?_⟩
 rw [za]
 refine ⟨_,q2 (a:=2) (by omega),?_⟩
 rw [za]
 refine ⟨_,q4 (a:=4) (by omega),?_⟩
 rw [za]
 refine ⟨_,q4 (a:=8) (by omega),?_⟩
 rw [za]
 refine ⟨_,q4 (a:=52) (by omega),?_⟩
 rw [za]
 refine ⟨_,q4 (a:=56) (by omega),?_⟩
 have e0:=eF 0
 have e1:=eF 1
 have e2:=eF 2
 have e3':=eF 3
 have e14:=eF 14
 have e15:=eF 15
 simp only [fo,fw,Nat.reduceLT,if_true,if_false,Nat.reduceMul,Nat.reduceSub,Nat.lt_irrefl] at e0 e1 e2 e3' e14 e15
 rw [e0,e1,e2,e3',e14,e15,buildNode6,za,zq]
 intro H6 f6
 refine (l5.ext f6).boxA fun b4 H7 _ l7=>?_
 rw [zq]
 intro H8 f8
 refine (l7.ext f8).stAll (i:=3) (vs:=zS (inoU (Zq c 0) 0)) rfl (zz _) (zz _) (ZM _) fun H9 l9=>?_
 rw [zq]
 intro H10 f10
 have l10:Lx H H10 [.box b1 c 105,.box b2 (zS fun _=>0) 54,.box b3 X 65,.box b4 (zS (inoU (Zq c 0) 0)) 54]:=l9.ext f10
 refine zy.mk (fun t H'=>∃ i:Nat,i≤10∧t=(zm i,())∧Lx H H' [.box b1 c 105,.box b2 (zS fun _=>0) 54,.box b3 X 65,.box b4 (zS (inoU (Zq c 0) i)) 54])
   (fun t _=>mi t.1 fun i=>(10 - i).toNat) ⟨0,by omega,rfl,l10⟩ ?_
 rintro _ H11 ⟨i,hi,rfl,l11⟩
 rw [zt,za,ze]
 refine ⟨fun hlt=>?_,fun hge=>?_⟩
 · rw [l11.ldAll (i:=2) (n:=1024) rfl hX.size,za,zZ,za,zh (by omega) (by omega),zk,za,zh (by omega) (by omega),show (12:Int)+4*(i:Int)=((12+4*i:Nat):Int) by omega]
   refine slab_u32 hX (by omega) fun H12 e12=>?_
   have e4:leB c (12+4*i) 4=Zq c 0 (4+i):=by
     have:=eF (4+i)
     rw [show fo (4+i)=12+4*i by unfold fo; rw [if_neg (by omega)]; omega,show fw (4+i)=4 by unfold fw; rw [if_neg (by omega)]] at this
     exact this
   rw [hle (by omega),e4,zg,za,Nat.zero_add,zH (by omega),za,Nat.mul_one]
   refine (l11.ext e12).st (i:=3) (j:=4+i) (v:=.int .u32 (Zq c 0 (4+i))) rfl (by rw [zz]; omega) rfl rfl fun H13 l13=>?_
   rw [inoU_set _ (by omega)] at l13
   rw [zk,za,zJ,zw (by omega)]
   exact ⟨⟨i+1,by omega,rfl,l13⟩,by simp only [zC]; omega⟩
 · have ei:i=10:=by omega
   subst ei
   rw [l11.ldAll (i:=3) (n:=16) rfl (zz _),za]
   refine l11.ret (i:=1) rfl (zz _) (zz _) (ZM _) fun H' l'=>?_
   rw [yb (g:=Zq c 0) fun j hj=>by unfold inoU; rw [if_pos (by omega)]]
   exact k H' l'.ext0
end
theorem logC_lay {os:Value} {mb p cb:Nat} {x:Lay} {mine:Int} {op:Bool} {room:Int} {wr:Value} {co st:Int}:(logC os mb p cb x mine op room wr co st).extract 4 (4+9)=x.cells:=by simp [logC,Lay.cells]
section
variable {H:Hp} {R:Value→Hp→Prop} {lb p cb mb:Nat} {s:DS} {cs:List Pl} {x:Lay} {mine:Int} {O Oc:Nat→Prop} {B L I:Int}
theorem und1024:Tryz.prog.underlying 65=some (.array 1024 5):=by kernel_rfl
end
section
variable {m:Pm} {q:Pg} {f:Ino} {B L I:Int}
theorem bump_low {f:Ino} {j:Nat} (hj:j<3):bump f j=f j:=by
 unfold bump upd; rw [if_neg (by omega)]
theorem upd_low {f:Ino} {i v j:Nat} (hj:j<3) (hi:3≤i):upd f i v j=f j:=by
 unfold upd; rw [if_neg (by omega)]
theorem top_low {i j:Nat} (hj:j<3):(Pg.top m q f i).2.1 j=f j:=by
 unfold Pg.top
 split
 · exact bump_low hj
 · rfl
theorem fin_low {tp pl:Nat} {b:Blk} {j:Nat} (hj:j<3):(Pg.fin m q f tp pl b).2 j=f j:=by
 unfold Pg.fin
 split
 · rfl
 · exact bump_low hj
theorem dbl_low {tp pl r:Nat} {b:Blk} {j:Nat} (hj:j<3):(Pg.dbl m q f tp pl r b).2 j=f j:=by
 unfold Pg.dbl
 split
 · split
   · rfl
   · rw [fin_low hj,bump_low hj]
 · exact fin_low hj
theorem file_inoL {idx:Int} {b:Blk} {j:Nat} (hj:j<3):(Pg.file m q f idx b).2 j=f j:=by
 unfold Pg.file
 split
 · rfl
 · split
   · rfl
   · split
     · split
       · rfl
       · show bump _ j=f j
         rw [bump_low hj,upd_low hj (by omega)]
     · split
       · split
         · exact top_low hj
         · rw [fin_low hj,upd_low hj (by omega),top_low hj]
       · split
         · exact top_low hj
         · rw [dbl_low hj,upd_low hj (by omega),top_low hj]
theorem dir_inoL (m:Pm) (len:Nat) {j:Nat} (hj:j<3):∀ (l:List Ent) (s:Nat) (q:Pg) (f:Ino) (b:Blk),(ZY m len l s q f b).2 j=f j
 | [],_,_,_,_=>rfl
 | e :: l,s,q,f,b=>by
   rw [y8]
   split
   · rfl
   · split
     · rw [dir_inoL m len hj l,file_inoL hj]
     · exact dir_inoL m len hj l _ _ _ _
theorem data_inoL (m:Pm) {j:Nat} (hj:j<3):∀ (l:List (Int × Blk)) (q:Pg) (f:Ino),(Yh m l q f).2 j=f j
 | [],_,_=>rfl
 | d :: l,q,f=>by
   unfold Yh
   split
   · rfl
   · rw [data_inoL m hj l,file_inoL hj]
theorem itm_inoL {t:Itm} {j:Nat} (hj:j<3):(yp m q t).2 j=yR t j:=by
 unfold yp
 simp only
 split
 · rw [data_inoL m hj]
   split
   · exact dir_inoL m _ hj _ _ _ _ _
   · rfl
 · split
   · exact dir_inoL m _ hj _ _ _ _ _
   · rfl
def nAt (L:Int) (i:Int):Nat:=(1+L).toNat+i.toNat / 16
def nOf (i:Int):Nat:=64*(i.toNat % 16)
theorem items_full {m:Pm}:∀ (l:List Itm) (q:Pg),q.full=true→(zL m l q).full=true
 | [],_,h=>h
 | t :: l,q,h=>by rw [ZG,if_pos h]; exact h
theorem item_bad {t:Itm} (h:t.inum<1∨m.x.I<t.inum):(Pg.item m q t).full=true:=by unfold Pg.item; rw [if_pos h]
theorem item_own (hm:MOf m B L I) (hg:Zo B L I) (h:Pgs m q) {t:Itm} (ht:Z7 t) (hf:(Pg.item m q t).full=false) :
   1≤t.inum∧t.inum≤I∧∃ c,(Pg.item m q t).L[nAt L t.inum]?=some c∧IsB c∧∀ j,j<3→Zq c (nOf t.inum) j=yR t j:=by
 have hx:m.x=zp B L I:=hm.x
 have hI:m.x.I=I:=by rw [hx]; rfl
 have hN:m.x.nodeAt=1+L:=by rw [hx]; rfl
 have hrange:¬ (t.inum<1∨m.x.I<t.inum):=fun hh=>by rw [item_bad hh] at hf; cases hf
 obtain ⟨g1,g2,g3,g4,g5,g6,g7⟩:=id hg
 have hd:(m.da:Int)=(zp B L I).dataAt:=by rw [← hm.ok.da,hx]
 have hB:(m.B:Int)=B:=hm.B
 simp only [zp] at hd g7
 have hk:=itm_keep hm.ok ht h.ok h.z
 refine ⟨by omega,by omega,z6 ((yp m q t).1.L.getD (nAt L t.inum) zB) (nOf t.inum) (encN (yp m q t).2),?_,?_,fun j hj=>?_⟩
 · unfold Pg.item
   rw [if_neg hrange,hN]
   show ((yp m q t).1.L.set (nAt L t.inum) _)[nAt L t.inum]?=_
   rw [List.getElem?_set_self (by rw [hk.ok.len]; unfold nAt; omega)]
   rfl
 · have hc:IsB ((yp m q t).1.L.getD (nAt L t.inum) zB):=by
     rw [List.getD_eq_getElem?_getD]
     cases e:(yp m q t).1.L[nAt L t.inum]? with
     | none=>exact Zl
     | some c=>exact hk.ok.is c (List.mem_of_getElem? e)
   exact (yl hc.n (ZT _) (by unfold nOf; omega)).b
 · have hc:IsB ((yp m q t).1.L.getD (nAt L t.inum) zB):=by
     rw [List.getD_eq_getElem?_getD]
     cases e:(yp m q t).1.L[nAt L t.inum]? with
     | none=>exact Zl
     | some c=>exact hk.ok.is c (List.mem_of_getElem? e)
   rw [inoOf_splice hc.n (by unfold nOf; omega) hk.ino (by omega)]
   exact itm_inoL hj
theorem item_oth (hm:MOf m B L I) (hg:Zo B L I) (h:Pgs m q) {t:Itm} (ht:Z7 t) (hf:(Pg.item m q t).full=false) {i:Int} (hi:1≤i∧i≤I) (hne:t.inum≠i) {c:Blk} (hc:q.L[nAt L i]?=some c) :
   ∃ c',(Pg.item m q t).L[nAt L i]?=some c'∧∀ j,j<16→Zq c' (nOf i) j=Zq c (nOf i) j:=by
 have hx:m.x=zp B L I:=hm.x
 have hN:m.x.nodeAt=1+L:=by rw [hx]; rfl
 have hI:m.x.I=I:=by rw [hx]; rfl
 have hrange:¬ (t.inum<1∨m.x.I<t.inum):=fun hh=>by rw [item_bad hh] at hf; cases hf
 obtain ⟨g1,g2,g3,g4,g5,g6,g7⟩:=id hg
 have hd:(m.da:Int)=(zp B L I).dataAt:=by rw [← hm.ok.da,hx]
 have hB:(m.B:Int)=B:=hm.B
 simp only [zp] at hd g7
 have hk:=itm_keep hm.ok ht h.ok h.z
 have ho:(yp m q t).1.L[nAt L i]?=some c:=by rw [itm_out hm.ok h ht (by unfold nAt; omega)]; exact hc
 have hcb:=hk.ok.is c (List.mem_of_getElem? ho)
 unfold Pg.item
 rw [if_neg hrange,hN]
 show ∃ c',((yp m q t).1.L.set (nAt L t.inum) _)[nAt L i]?=some c'∧_
 by_cases e:nAt L t.inum=nAt L i
 · rw [e,List.getElem?_set_self (by rw [hk.ok.len]; unfold nAt; omega)]
   refine ⟨_,rfl,fun j hj=>?_⟩
   rw [List.getD_eq_getElem?_getD,show (1+L).toNat+t.inum.toNat / 16=nAt L i from e,ho]
   refine inoOf_other hcb.n (ZT _) (by omega) ?_ hj
   unfold nAt at e
   unfold nOf
   omega
 · rw [List.getElem?_set_ne e]
   exact ⟨c,ho,fun j _=>rfl⟩
theorem items_oth (hm:MOf m B L I) (hg:Zo B L I) {i:Int} (hi:1≤i∧i≤I):∀ (l:List Itm) (q:Pg) (c:Blk),(∀ t∈l,Z7 t)→(∀ t∈l,t.inum≠i)→Pgs m q→(zL m l q).full=false→q.L[nAt L i]?=some c →
   ∃ c',(zL m l q).L[nAt L i]?=some c'∧∀ j,j<16→Zq c' (nOf i) j=Zq c (nOf i) j
 | [],q,c,_,_,_,_,hc=>⟨c,hc,fun _ _=>rfl⟩
 | t :: l,q,c,hl,hne,h,hf,hc=>by
   have ht:=hl t List.mem_cons_self
   rw [ZG] at hf ⊢
   cases hq:q.full with
   | true=>rw [hq,if_pos rfl] at hf; rw [hf] at hq; cases hq
   | false=>
     rw [hq,if_neg (by decide)] at hf
     rw [if_neg (by decide)]
     have hft:(Pg.item m q t).full=false:=by
       cases e:(Pg.item m q t).full with
       | false=>rfl
       | true=>rw [items_full l _ e] at hf; cases hf
     obtain ⟨c1,h1,e1⟩:=item_oth hm hg h ht hft hi (hne t List.mem_cons_self) hc
     obtain ⟨c2,h2,e2⟩:=items_oth hm hg hi l _ c1 (fun x hx=>hl x (List.mem_cons_of_mem _ hx)) (fun x hx=>hne x (List.mem_cons_of_mem _ hx)) (YE hm hg h ht) hf h1
     exact ⟨c2,h2,fun j hj=>by rw [e2 j hj,e1 j hj]⟩
theorem items_ino (hm:MOf m B L I) (hg:Zo B L I):∀ (l:List Itm) (q:Pg),(∀ t∈l,Z7 t)→(l.map (·.inum)).Nodup→Pgs m q→(zL m l q).full=false→∀ t∈l,
   1≤t.inum∧t.inum≤I∧∃ c,(zL m l q).L[nAt L t.inum]?=some c∧∀ j,j<3→Zq c (nOf t.inum) j=yR t j
 | [],q,_,_,_,_,t,ht=>by cases ht
 | t :: l,q,hl,hnd,h,hf,u,hu=>by
   have ht:=hl t List.mem_cons_self
   rw [List.map_cons,List.nodup_cons] at hnd
   rw [ZG] at hf ⊢
   cases hq:q.full with
   | true=>rw [hq,if_pos rfl] at hf; rw [hf] at hq; cases hq
   | false=>
     rw [hq,if_neg (by decide)] at hf
     rw [if_neg (by decide)]
     have hft:(Pg.item m q t).full=false:=by
       cases e:(Pg.item m q t).full with
       | false=>rfl
       | true=>rw [items_full l _ e] at hf; cases hf
     have hk:=YE hm hg h ht
     rcases List.mem_cons.1 hu with e | e
     · subst e
       obtain ⟨r1,r2,c,h1,_,e1⟩:=item_own hm hg h ht hft
       obtain ⟨c2,h2,e2⟩:=items_oth hm hg ⟨r1,r2⟩ l _ c (fun x hx=>hl x (List.mem_cons_of_mem _ hx)) (fun x hx e=>hnd.1 (by rw [← e]; exact List.mem_map.2 ⟨x,hx,rfl⟩)) hk hf h1
       exact ⟨r1,r2,c2,h2,fun j hj=>by rw [e2 j (by omega),e1 j hj]⟩
     · exact items_ino hm hg l _ (fun x hx=>hl x (List.mem_cons_of_mem _ hx)) hnd.2 hk hf u e
theorem laid_mid (hm:MOf m B L I) (hg:Zo B L I) {q:Pg} (sd:Nat) {i:Nat} (h1:1+L≤i) (h2:(i:Int)<1+L+(I+16) / 16):(Zz m q sd)[i]?=q.L[i]?:=by
 have hx:m.x=zp B L I:=hm.x
 obtain ⟨g1,g2,g3,g4,g5,g6,g7⟩:=id hg
 have hd:(m.da:Int)=(zp B L I).dataAt:=by rw [← hm.ok.da,hx]
 have hb:m.x.bitsAt=1+L+(I+16) / 16:=by rw [hx]; rfl
 have ha:m.x.logAt=1:=by rw [hx]; rfl
 have hL:m.x.L=L:=by rw [hx]; rfl
 simp only [zp] at hd g7
 have hbit:=YL (m:=m) (c:=q.c) (sd:=sd) (L:=q.L.set 0 (ZP m.x)) (i:=i) (by rw [hb]; omega) (by omega) m.B
 rw [List.getElem?_set_ne (by omega)] at hbit
 unfold Zz
 split
 · have hmod:sd % (m.x.L.toNat - 1)<m.x.L.toNat - 1:=Nat.mod_lt _ (by rw [hL]; omega)
   rw [List.getElem?_set_ne (by rw [ha]; rw [hL] at hmod ⊢; omega)]
   exact hbit
 · exact hbit
theorem laid_ino (hm:MOf m B L I) (hg:Zo B L I) {its:List Itm} (hits:∀ t∈its,Z7 t) (hnd:(its.map (·.inum)).Nodup) (hf:(zL m its (pg0 m)).full=false) (sd:Nat) {t:Itm} (ht:t∈its) :
   1≤t.inum∧t.inum≤I∧∀ j,j<3→Zq (zX (Yv 0 (Zz m (zL m its (pg0 m)) sd)) (1+L+((t.inum.toNat / 16:Nat):Int))) (64*(t.inum.toNat % 16)) j=yR t j:=by
 obtain ⟨g1,g2,g3,g4,g5,g6,g7⟩:=id hg
 obtain ⟨r1,r2,c,hc,e⟩:=items_ino hm hg its (pg0 m) hits hnd (pg0_ok hm.ok) hf t ht
 refine ⟨r1,r2,fun j hj=>?_⟩
 have hmid:=laid_mid hm hg (q:=zL m its (pg0 m)) sd (i:=nAt L t.inum) (by unfold nAt; omega) (by unfold nAt; omega)
 rw [hc] at hmid
 have:=imgAt_imgL _ 0 (nAt L t.inum) c hmid
 rw [Nat.zero_add,show ((nAt L t.inum:Nat):Int)=1+L+((t.inum.toNat / 16:Nat):Int) by unfold nAt; omega] at this
 rw [this]
 exact e j hj
theorem may_root {its:List Itm} {fr sp:Int} {m0:Pm} {fs:List Fl} (hmay:MaySt B L I its fr sp m0 fs) (hm:MOf m B L I) (hf:(zL m its (pg0 m)).full=false) (hits:∀ t∈its,Z7 t) (sd:Nat):Zq (zX (Yv 0 (Zz m (zL m its (pg0 m)) sd)) (1+L)) 64 0=2:=by
 obtain ⟨g1,g2,g3,g4,g5,g6,g7⟩:=id hmay.ok
 have hits0:=hmay.its
 have hfl:=hmay.files
 have hn1:=hmay.sound.nodes.1 1 (by omega)
 generalize Yv 0 (Zz m0 (zL m0 its (pg0 m0)) 0)=l0 at hits0 hfl hn1
 have hids:its.map (·.inum)=(idsP B L I l0 I.toNat).map fun i:Nat=>(i:Int):=by
   rw [hits0,hfl.its,List.map_map]
   rfl
 have hnd:(its.map (·.inum)).Nodup:=by
   rw [hids]
   have hr:((List.range I.toNat).map (·+1)).Nodup:=List.pairwise_map.2 (List.Pairwise.imp (R:=fun a b=>a≠b) (fun {a b} hab (e:a+1=b+1)=>hab (by omega)) List.nodup_range)
   have hp:(idsP B L I l0 I.toNat).Nodup:=List.Pairwise.filter _ hr
   exact List.pairwise_map.2 (List.Pairwise.imp (R:=fun (a b:Nat)=>a≠b) (fun {a b:Nat} hab (e:(a:Int)=(b:Int))=>hab (by omega)) hp)
 have hk2:Yl B L I l0 1 0=2:=by
   by_cases e:Yl B L I l0 1 0=2
   · exact e
   · exact absurd (.inr (.inr ⟨rfl,.inl e⟩)) hn1
 obtain ⟨x,hx,hxi⟩:=hfl.has (i:=1) (by omega) (by omega) (by omega)
 have hmem:itP l0 x∈its:=by
   rw [hits0]
   exact List.mem_map.2 ⟨x,hx,rfl⟩
 obtain ⟨r1,r2,e⟩:=laid_ino hm hmay.ok hits hnd hf sd hmem
 have e0:=e 0 (by omega)
 have hin:(itP l0 x).inum=1:=by show (x.i:Int)=1; omega
 rw [hin] at e0
 have hki:yR (itP l0 x) 0=2:=by
   show x.f 0=2
   rw [(hfl.is x hx).1,hxi]; exact hk2
 rw [hki] at e0
 have e1:1+L+((((1:Int).toNat / 16:Nat)):Int)=1+L:=by
   show 1+L+((0:Nat):Int)=1+L; omega
 rw [e1] at e0
 exact e0
end
def Zi (s:DS) (cs:List Pl) (a:Int):Blk:=match ZA cs a with
 | some x=>x.data
 | none=>s.now a
structure Vw (s:DS) (cs:List Pl):Prop where
 nd:(cs.map (·.at_)).Nodup
 slow:∀ y∈cs,y.fast=false→y.data=s.now y.at_
theorem Z1 {cs:List Pl} (hn:(cs.map (·.at_)).Nodup) {a:Int} {x:Pl}:ZA cs a=some x↔x∈cs∧x.at_=a:=by
 constructor
 · intro h
   obtain ⟨l1,l2,e,h1,_,_⟩:=findP_some h
   exact ⟨by rw [e]; simp,h1⟩
 · rintro ⟨hx,e⟩
   cases h:ZA cs a with
   | none=>exact absurd e (YG.1 h x hx)
   | some y=>
     obtain ⟨l1,l2,ey,h1,h2,_⟩:=findP_some h
     rw [ey] at hx hn
     rcases List.mem_append.1 hx with h3 | h3
     · exact absurd e (h2 x h3)
     · rcases List.mem_cons.1 h3 with h4 | h4
       · rw [h4]
       · rw [List.map_append,List.map_cons] at hn
         have h5:=(List.nodup_append.1 hn).2.1
         rw [List.nodup_cons] at h5
         exact absurd (List.mem_map.2 ⟨x,h4,by rw [e,h1]⟩) h5.1
structure Base (cs c1:List Pl) (a:Int):Prop where
 nd:(c1.map (·.at_)).Nodup
 sub:∀ y∈c1,y∈cs∧y.at_≠a
 lost:∀ y∈cs,y.at_≠a→y∈c1∨y.fast=false
theorem snoc_view {s s':DS} {cs c1:List Pl} {a:Int} (h:Vw s cs) (hb:Base cs c1 a) {z:Pl} (hz:z.at_=a) (hs:s'.now=s.now) (b:Int):Zi s' (c1++[z]) b=if b=a then z.data else Zi s cs b:=by
 have hn:((c1++[z]).map (·.at_)).Nodup:=nodup_snoc hb.nd fun y hy=>by rw [hz]; exact (hb.sub y hy).2
 by_cases e:b=a
 · rw [if_pos e]
   have:ZA (c1++[z]) b=some z:=(Z1 hn).2 ⟨by simp,by rw [hz,e]⟩
   unfold Zi
   rw [this]
 · rw [if_neg e]
   cases h1:ZA cs b with
   | some y=>
     obtain ⟨m1,m2⟩:=(Z1 h.nd).1 h1
     have hv:Zi s cs b=y.data:=by unfold Zi; rw [h1]
     rw [hv]
     by_cases hy:y∈c1
     · have:ZA (c1++[z]) b=some y:=(Z1 hn).2 ⟨List.mem_append_left _ hy,m2⟩
       unfold Zi
       rw [this]
     · have hsl:=(hb.lost y m1 (by rw [m2]; exact e)).resolve_left hy
       have:ZA (c1++[z]) b=none:=by
         rw [YG]
         intro w hw hwe
         rcases List.mem_append.1 hw with h3 | h3
         · have h4:=(hb.sub w h3).1
           have h5:=(Z1 h.nd).2 ⟨h4,hwe⟩
           rw [h1] at h5
           injection h5 with h5
           exact hy (h5 ▸ h3)
         · rw [List.mem_singleton.1 h3,hz] at hwe
           exact e hwe.symm
       unfold Zi
       rw [this]
       show s'.now b=y.data
       rw [hs,h.slow y m1 hsl,m2]
   | none=>
     have hv:Zi s cs b=s.now b:=by unfold Zi; rw [h1]
     have:ZA (c1++[z]) b=none:=by
       rw [YG]
       intro w hw hwe
       rcases List.mem_append.1 hw with h3 | h3
       · exact YG.1 h1 w (hb.sub w h3).1 hwe
       · rw [List.mem_singleton.1 h3,hz] at hwe
         exact e hwe.symm
     rw [hv]
     unfold Zi
     rw [this]
     show s'.now b=s.now b
     rw [hs]
theorem base_found {cs:List Pl} {a:Int} {x:Pl} (hn:(cs.map (·.at_)).Nodup) (h:ZA cs a=some x):Base cs (outP cs a) a∧Zy cs=Zy (outP cs a)+(if x.fast then 1 else 0):=by
 obtain ⟨l1,l2,e,h1,_,h2⟩:=findP_some h
 rw [h2]
 subst e
 obtain ⟨n1,n2⟩:=nodup_drop hn
 refine ⟨⟨n1,fun y hy=>⟨memP_mid.2 (.inr hy),by rw [← h1]; exact n2 y hy⟩,fun y hy hne=>?_⟩,?_⟩
 · rcases memP_mid.1 hy with e | e
   · rw [e] at hne; exact absurd h1 hne
   · exact .inl e
 · simp only [YI,yY]; omega
theorem base_room {cs c1:List Pl} {a size:Int} (hn:(cs.map (·.at_)).Nodup) (h:ZA cs a=none) (hr:roomP size cs=some c1):Base cs c1 a∧Zy cs=Zy c1:=by
 have ha:=YG.1 h
 obtain ⟨_,h2⟩:=roomP_some hr
 rcases h2 with ⟨_,rfl⟩ | ⟨l1,x,l2,rfl,rfl,hx,_⟩
 · exact ⟨⟨hn,fun y hy=>⟨hy,ha y hy⟩,fun y hy _=>.inl hy⟩,rfl⟩
 · obtain ⟨n1,n2⟩:=nodup_drop hn
   refine ⟨⟨n1,fun y hy=>⟨memP_mid.2 (.inr hy),ha y (memP_mid.2 (.inr hy))⟩,fun y hy hne=>?_⟩,?_⟩
   · rcases memP_mid.1 hy with e | e
     · rw [e]; exact .inr hx
     · exact .inl e
   · simp only [YI,yY,hx,Bool.false_eq_true,if_false]; omega
theorem room_is {cs:List Pl} {size:Int} (h:Zy cs<size):∃ c1,roomP size cs=some c1:=by
 unfold roomP
 rw [if_neg (by omega)]
 split
 · exact ⟨_,rfl⟩
 · exact ⟨_,rfl⟩
theorem base_vw {s s':DS} {cs c1:List Pl} {a:Int} (h:Vw s cs) (hb:Base cs c1 a) {z:Pl} (hz:z.at_=a) (hs:s'.now=s.now) (hzs:z.fast=false→z.data=s.now a):Vw s' (c1++[z]):=by
 refine ⟨nodup_snoc hb.nd fun y hy=>by rw [hz]; exact (hb.sub y hy).2,fun y hy hf=>?_⟩
 rw [hs]
 rcases List.mem_append.1 hy with h1 | h1
 · exact h.slow y (hb.sub y h1).1 hf
 · rw [List.mem_singleton.1 h1] at hf ⊢
   rw [hz]; exact hzs hf
theorem view_read {size:Int} {s:DS} {cs:List Pl} (h:Vw s cs) {a:Int} (hw:s.wrong a=0) (hf:Zy cs<size) :
   ∃ s' cs',readC size s cs a=(s',cs',Zi s cs a,0)∧Same s s'∧Vw s' cs'∧(∀ b,Zi s' cs' b=Zi s cs b)∧Zy cs'=Zy cs∧∀ b x,ZA cs b=some x→x.fast=true→ZA cs' b=some x:=by
 unfold readC
 rw [if_neg (by omega)]
 have kp:∀ {c1:List Pl} {z:Pl} {s':DS},Base cs c1 a→z.at_=a→Vw s' (c1++[z])→(∀ x,ZA cs a=some x→x.fast=true→x=z)→∀ b x,ZA cs b=some x→x.fast=true→ZA (c1++[z]) b=some x:=by
   intro c1 z s' hb hz hv hx b x h1 h2
   obtain ⟨m1,m2⟩:=(Z1 h.nd).1 h1
   refine (Z1 hv.nd).2 ⟨?_,m2⟩
   by_cases e:b=a
   · rw [hx x (e ▸ h1) h2]; simp
   · rcases hb.lost x m1 (by rw [m2]; exact e) with h3 | h3
     · exact List.mem_append_left _ h3
     · rw [h3] at h2; cases h2
 cases h1:ZA cs a with
 | some x=>
   obtain ⟨hb,hfp⟩:=base_found h.nd h1
   obtain ⟨m1,m2⟩:=(Z1 h.nd).1 h1
   have hv:Zi s cs a=x.data:=by unfold Zi; rw [h1]
   have hvw:Vw s (outP cs a++[x]):=base_vw h hb m2 rfl fun hf2=>by rw [h.slow x m1 hf2,m2]
   refine ⟨s,outP cs a++[x],by rw [hv],Same.refl s,hvw,fun b=>?_,?_,kp hb m2 hvw fun y hy _=>by rw [h1] at hy; injection hy with hy; exact hy.symm⟩
   · rw [snoc_view h hb m2 rfl b]
     by_cases e:b=a
     · rw [if_pos e,e,hv]
     · rw [if_neg e]
   · rw [YI,yY,fastP_nil]; omega
 | none=>
   obtain ⟨c1,hr⟩:=room_is hf
   obtain ⟨hb,hfp⟩:=base_room h.nd h1 hr
   have hv:Zi s cs a=s.now a:=by unfold Zi; rw [h1]
   have hsm:=DS.read_same s a
   rw [hr]
   have hvw:Vw (s.read a).1 (c1++[⟨a,s.now a,false⟩]):=base_vw h hb rfl hsm.now fun _=>rfl
   refine ⟨(s.read a).1,c1++[⟨a,s.now a,false⟩],by rw [hv],hsm,hvw,fun b=>?_,?_,kp hb rfl hvw fun y hy _=>by rw [h1] at hy; cases hy⟩
   · rw [snoc_view h hb rfl hsm.now b]
     by_cases e:b=a
     · rw [if_pos e,e,hv]
     · rw [if_neg e]
   · rw [YI,yY,fastP_nil]
     simp only [Bool.false_eq_true,if_false]; omega
theorem view_put {size:Int} {s:DS} {cs:List Pl} (h:Vw s cs) {a:Int} {d:Blk} (hw:s.wrong a=0) (hf:Zy cs<size) :
   ∃ cs',putC size s cs a d=(cs',0)∧Vw s cs'∧(∀ b,Zi s cs' b=if b=a then d else Zi s cs b)∧Zy cs'≤Zy cs+1∧(∀ x,ZA cs a=some x→x.fast=true→Zy cs'=Zy cs)∧(∃ x,ZA cs' a=some x∧x.fast=true)∧(∀ b x,b≠a→ZA cs b=some x→x.fast=true→ZA cs' b=some x):=by
 unfold putC baseC
 rw [if_neg (by omega)]
 have fin:∀ {c1:List Pl},Base cs c1 a→Zy c1≤Zy cs→(∀ x,ZA cs a=some x→x.fast=true→Zy c1+1=Zy cs)→∃ cs',((c1++[⟨a,d,true⟩],0):List Pl × Int)=(cs',0)∧Vw s cs'∧(∀ b,Zi s cs' b=if b=a then d else Zi s cs b)∧Zy cs'≤Zy cs+1∧(∀ x,ZA cs a=some x→x.fast=true→Zy cs'=Zy cs)∧(∃ x,ZA cs' a=some x∧x.fast=true)∧(∀ b x,b≠a→ZA cs b=some x→x.fast=true→ZA cs' b=some x):=by
   intro c1 hb h1 h2
   have hvw:=base_vw (s':=s) h hb (z:=⟨a,d,true⟩) rfl rfl fun e=>by cases e
   refine ⟨_,rfl,hvw,fun b=>snoc_view h hb rfl rfl b,?_,fun x hx hxf=>?_,⟨⟨a,d,true⟩,(Z1 hvw.nd).2 ⟨by simp,rfl⟩,rfl⟩,fun b x hne hx hxf=>?_⟩
   · rw [YI,yY,fastP_nil]
     simp only [if_true]; omega
   · have:=h2 x hx hxf
     rw [YI,yY,fastP_nil]
     simp only [if_true]; omega
   · obtain ⟨m1,m2⟩:=(Z1 h.nd).1 hx
     refine (Z1 hvw.nd).2 ⟨?_,m2⟩
     rcases hb.lost x m1 (by rw [m2]; exact hne) with h3 | h3
     · exact List.mem_append_left _ h3
     · rw [h3] at hxf; cases hxf
 cases h1:ZA cs a with
 | some x=>
   obtain ⟨hb,hfp⟩:=base_found h.nd h1
   rw [h1] at fin
   refine fin hb (by split at hfp <;> omega) fun y hy hyf=>?_
   injection hy with hy
   rw [hy,hyf] at hfp
   simp only [if_true] at hfp
   omega
 | none=>
   obtain ⟨c1,hr⟩:=room_is hf
   obtain ⟨hb,hfp⟩:=base_room h.nd h1 hr
   rw [h1] at fin
   rw [hr]
   exact fin hb (by omega) fun y hy=>by cases hy
theorem outP_len {cs:List Pl} {a:Int} {z:Pl} (h:ZA cs a=some z):(outP cs a).length+1=cs.length:=by
 obtain ⟨l1,l2,e,_,_,h2⟩:=findP_some h
 rw [h2,e]
 simp only [List.length_append,List.length_cons]; omega
theorem roomP_len {cs c1:List Pl} {size:Int} (h:roomP size cs=some c1) (hl:(cs.length:Int)≤size):(c1.length:Int)+1≤size:=by
 obtain ⟨_,h2⟩:=roomP_some h
 rcases h2 with ⟨h3,rfl⟩ | ⟨l1,z,l2,rfl,rfl,_,_⟩
 · omega
 · simp only [List.length_append,List.length_cons] at hl ⊢; omega
theorem readC_len {size:Int} {s:DS} {cs:List Pl} {a:Int} (hl:(cs.length:Int)≤size):((readC size s cs a).2.1.length:Int)≤size:=by
 unfold readC
 split
 · exact hl
 · split
   · rename_i z hz
     have:=outP_len hz
     simp only [List.length_append,List.length_cons,List.length_nil]; omega
   · split
     · exact hl
     · rename_i c1 hc
       have:=roomP_len hc hl
       simp only [List.length_append,List.length_cons,List.length_nil]; omega
theorem putC_len {size:Int} {s:DS} {cs:List Pl} {a:Int} {d:Blk} (hl:(cs.length:Int)≤size):((putC size s cs a d).1.length:Int)≤size:=by
 unfold putC baseC
 split
 · exact hl
 · cases hz:ZA cs a with
   | some z=>
     have:=outP_len hz
     simp only [List.length_append,List.length_cons,List.length_nil]; omega
   | none=>
     simp only
     cases hr:roomP size cs with
     | none=>exact hl
     | some c1=>
       have:=roomP_len hr hl
       simp only [List.length_append,List.length_cons,List.length_nil]; omega
noncomputable def elM (l:List Int):Int→Option Value:=fun k=>if k∈l then some (.agg #[]) else none
def cdOb (p cb:Nat) (size:Int) (s:DS) (cs:List Pl):Ob:=
 ⟨fun H O=>(∃ Od Oc,DiskAt H p s Od∧CacheAt H cb p size cs Oc∧(∀ b,Od b→¬ Oc b)∧(∀ b,Od b→O b)∧∀ b,Oc b→O b)∧∀ b,O b→b<H.size,fun h=>h.2,
  fun ⟨⟨Od,Oc,h1,h2,h3,h4,h5⟩,_⟩ hb hs ho hl=>⟨⟨Od,Oc,h1.of (fun b hh=>hb b (h4 b hh)) hs,h2.of (fun b hh=>hb b (h5 b hh)) hs,h3,fun b hh=>ho b (h4 b hh),fun b hh=>ho b (h5 b hh)⟩,hl⟩⟩
def mpOb (mb:Nat) (f:Int→Option Value) (n:Nat):Ob:=.of (fun H O=>MapAt H mb f n∧O mb) fun h hb _ ho=>⟨h.1.of (hb _ h.2),ho _ h.2⟩
noncomputable def wrOb (w:Option (List Int)) (v:Value):Ob:=.of (fun H O=>match w with
   | none=>v=.map none
   | some l=>∃ wb,v=.map (some wb)∧MapAt H wb (elM l) l.length∧O wb) fun {H H' O O'} h hb _ ho=>by
 cases w with
 | none=>exact h
 | some l=>
   obtain ⟨wb,h1,h2,h3⟩:=h
   exact ⟨wb,h1,h2.of (hb _ h3),ho _ h3⟩
structure PSt where
 s:DS
 cs:List Pl
 order:List Int
 open_:Bool
 room:Int
 wrote:Option (List Int)
 commits:Int
 steps:Int
noncomputable def plAll (lb p cb mb:Nat) (ov wv:Value) (x:Lay) (mine:Int) (P:PSt):List Ob:=
 [cdOb p cb (x.L+32) P.s P.cs,mpOb mb (elM P.order) P.order.length,.sl 3 1 ov (P.order.map nI),wrOb P.wrote wv,.box lb (logC ov mb p cb x mine P.open_ P.room wv P.commits P.steps) 100]
noncomputable def ZE (lb p:Nat) (x:Lay) (mine:Int) (P:PSt):Ob:=
 ⟨fun H O=>∃ cb mb ov wv,(Ob.all (plAll lb p cb mb ov wv x mine P)).at_ H O,
  fun ⟨_,_,_,_,h⟩=>Ob.own _ h,fun ⟨cb,mb,ov,wv,h⟩ hb hs ho hl=>⟨cb,mb,ov,wv,Ob.frame _ h hb hs ho hl⟩⟩
structure POk (x:Lay) (mine:Int) (P:PSt):Prop where
 alive:P.s.stopped=false
 mine:0<mine∧P.s.claim=mine
 vw:Vw P.s P.cs
 n:x.B≤P.s.n
 reads:P.s.reads<4611686018427387904∧0≤P.s.reads
 lay:x.logAt=1∧32≤x.L∧x.L≤256∧x.B≤1048576
 fast:Zy P.cs≤P.order.length
 few:(P.order.length:Int)≤x.L - 1
 clen:(P.cs.length:Int)≤x.L+32
 held:∀ a∈P.order,∃ y,ZA P.cs a=some y∧y.fast=true
structure Rd (x:Lay) (P:PSt) (s':DS) (cs':List Pl) (m:Int):Prop where
 n:s'.n=P.s.n
 now:s'.now=P.s.now
 held:s'.held=P.s.held
 fuse:s'.fuse=P.s.fuse
 stopped:s'.stopped=P.s.stopped
 made:s'.made=P.s.made
 claims:s'.claims=P.s.claims
 claim:s'.claim=P.s.claim
 pl:s'.pl=P.s.pl
 hl:s'.hl=P.s.hl
 reads:P.s.reads≤s'.reads∧s'.reads≤P.s.reads+m
 vw:Vw s' cs'
 view:∀ b,Zi s' cs' b=Zi P.s P.cs b
 fast:Zy cs'=Zy P.cs
 keep:∀ b y,ZA P.cs b=some y→y.fast=true→ZA cs' b=some y
 clen:(cs'.length:Int)≤x.L+32
theorem Rd.refl {x:Lay} {mine:Int} {P:PSt} (h:POk x mine P):Rd x P P.s P.cs 0:=⟨rfl,rfl,rfl,rfl,rfl,rfl,rfl,rfl,rfl,rfl,by omega,h.vw,fun _=>rfl,rfl,fun _ _ h _=>h,h.clen⟩
theorem Rd.mk1 {x:Lay} {P:PSt} {s':DS} {cs':List Pl} (hs:Same P.s s') (hv:Vw s' cs') (h1:∀ b,Zi s' cs' b=Zi P.s P.cs b) (h2:Zy cs'=Zy P.cs) (h3:∀ b y,ZA P.cs b=some y→y.fast=true→ZA cs' b=some y) (h4:(cs'.length:Int)≤x.L+32):Rd x P s' cs' 1:=
 ⟨hs.n,hs.now,hs.held,hs.fuse,hs.stopped,hs.made,hs.claims,hs.claim,hs.pl,hs.hl,hs.reads,hv,h1,h2,h3,h4⟩
theorem Rd.trans {x:Lay} {P:PSt} {s1 s2:DS} {c1 c2:List Pl} {m n k:Int} (h:Rd x P s1 c1 m) (g:Rd x { P with s:=s1,cs:=c1 } s2 c2 n) (hk:m+n≤k):Rd x P s2 c2 k:=by
 have h1:=h.reads
 have h2:=g.reads
 have h2:s1.reads≤s2.reads∧s2.reads≤s1.reads+n:=h2
 exact ⟨g.n.trans h.n,g.now.trans h.now,g.held.trans h.held,g.fuse.trans h.fuse,g.stopped.trans h.stopped,g.made.trans h.made,g.claims.trans h.claims,g.claim.trans h.claim,g.pl.trans h.pl,g.hl.trans h.hl,by omega,g.vw,fun b=>(g.view b).trans (h.view b),g.fast.trans h.fast,fun b y h1 h2=>g.keep b y (h.keep b y h1 h2) h2,g.clen⟩
theorem Rd.mono {x:Lay} {P:PSt} {s':DS} {cs':List Pl} {m n:Int} (h:Rd x P s' cs' m) (hm:m≤n):Rd x P s' cs' n:={ h with reads:=⟨h.reads.1,by have:=h.reads.2; omega⟩ }
theorem Rd.ok {x:Lay} {mine:Int} {P:PSt} {s':DS} {cs':List Pl} {m:Int} (hs:Rd x P s' cs' m) (h:POk x mine P) (hr:P.s.reads+m<4611686018427387904):POk x mine { P with s:=s',cs:=cs' }:=by
 have h1:=hs.reads
 have h2:=h.reads
 exact ⟨by show s'.stopped=false; rw [hs.stopped]; exact h.alive,⟨h.mine.1,by show s'.claim=mine; rw [hs.claim]; exact h.mine.2⟩,hs.vw,by show x.B≤s'.n; rw [hs.n]; exact h.n,⟨by show s'.reads<_; omega,by show 0≤s'.reads; omega⟩,h.lay,by show Zy cs'≤_; rw [hs.fast]; exact h.fast,h.few,hs.clen,fun a ha=>by
   obtain ⟨y,q1,q2⟩:=h.held a ha
   exact ⟨y,hs.keep a y q1 q2,q2⟩⟩
section
variable {H:Hp} {R:Value→Hp→Prop} {lb p cb mb:Nat} {s:DS} {cs:List Pl} {x:Lay} {mine:Int} {O:Nat→Prop} {ov wr:Value} {op:Bool} {room co st:Int}
theorem check_top (ht:H[lb]?=some (.cells (logC ov mb p cb x mine op room wr co st) 100)) (hd:DiskAt H p s O) (hm:0<mine∧s.claim=mine) (k:R (.int .i64 (if s.stopped then 3 else 0)) H):Fc Tryz.prog 36 #[zW lb] H R:=by
 obtain ⟨q2,q3,q4,q5,q7,q13⟩:=log_get (os:=ov) (mb:=mb) (p:=p) (cb:=cb) (x:=x) (mine:=mine) (op:=op) (room:=room) (wr:=wr) (co:=co) (st:=st)
 refine fn36 ?_
 simp only [sh36,zu]
 refine zT.mk (fun t H'=>H'=H∧t.1=.bool false) ?_ ?_
 · rintro ⟨t,u⟩ H1 ⟨rfl,ht'⟩
   simp only at ht'
   subst ht'
   simp only [zl,zc,za,zg,Nat.zero_add,zo ht,q2,q13]
   refine disk_claimed hd ?_
   have e:decide (0<mine∧s.claim=mine)=true:=decide_eq_true hm
   rw [e,Bool.and_true]
   cases hst:s.stopped <;> simp only [hst,if_true,Bool.false_eq_true,if_false,zM,Bool.not_true,Bool.not_false,za,z8,zl] at k ⊢ <;> exact k
 · simp only [yO undLg,za,zl,zc,zg,Nat.zero_add,zo ht,q2,yO undDk]
   exact ⟨trivial,trivial⟩
theorem logs_top (ht:H[lb]?=some (.cells (logC ov mb p cb x mine op room wr co st) 100)) {a:Int} (hx:0≤x.logAt∧x.logAt<4611686018427387904∧0≤x.L∧x.L<4611686018427387904) (k:R (.bool (decide (x.logAt≤a∧a<x.logAt+x.L))) H):Fc Tryz.prog 45 #[zW lb,.int .i64 a] H R:=by
 obtain ⟨q2,q3,q4,q5,q7,q13⟩:=log_get (os:=ov) (mb:=mb) (p:=p) (cb:=cb) (x:=x) (mine:=mine) (op:=op) (room:=room) (wr:=wr) (co:=co) (st:=st)
 refine fn45 ?_
 simp only [sh45,zc,za,zg,Nat.zero_add,Nat.reduceAdd,zo ht,q7,q5,zU,zk,ze]
 refine ⟨fun h0=>?_,fun h0=>?_⟩
 · rw [zh (by omega) (by omega),zt,za]
   have e:decide (a<x.logAt+x.L)=decide (x.logAt≤a∧a<x.logAt+x.L):=by rw [decide_eq_decide]; omega
   rw [e]; exact k
 · have e:decide (x.logAt≤a∧a<x.logAt+x.L)=false:=by rw [decide_eq_false_iff_not]; omega
   rw [e] at k; exact k
theorem pl_pcs {S:Nat→Prop} {H0:Hp} {r:List Ob} {P:PSt} (l:Lo S H0 H (plAll lb p cb mb ov wr x mine P++r)):H[lb]?=some (.cells (logC ov mb p cb x mine P.open_ P.room wr P.commits P.steps) 100)∧∃ Od Oc,DiskAt H p P.s Od∧CacheAt H cb p (x.L+32) P.cs Oc∧∀ b,Od b→¬ Oc b:=by
 refine ⟨l.at (i:=4) rfl,?_⟩
 obtain ⟨O,ho⟩:=l.get (i:=0) (x:=cdOb p cb (x.L+32) P.s P.cs) rfl
 obtain ⟨⟨Od,Oc,h1,h2,h3,_⟩,_⟩:=ho
 exact ⟨Od,Oc,h1,h2,h3⟩
theorem Yn {P:PSt} (h:(ZE lb p x mine P).at_ H O) (hok:POk x mine P) (k:R (.int .i64 0) H):Fc Tryz.prog 36 #[zW lb] H R:=by
 obtain ⟨cb,mb,ov,wv,ha⟩:=h
 obtain ⟨ht,Od,Oc,hd,_⟩:=pl_pcs (r:=[]) (Lo.open ha)
 refine check_top ht hd hok.mine ?_
 rw [hok.alive]; exact k
theorem pl_open {P:PSt} (h:(ZE lb p x mine P).at_ H O) (hok:POk x mine P) (k:R (.bool P.open_) H):Fc Tryz.prog 38 #[zW lb] H R:=by
 refine fn38 ?_
 simp only [sh38]
 refine Yn h hok ?_
 rw [zA,za,decide_eq_true rfl,z8]
 obtain ⟨cb,mb,ov,wv,ha⟩:=h
 obtain ⟨ht,_⟩:=pl_pcs (r:=[]) (Lo.open ha)
 simp only [zc,zg,Nat.zero_add,Nat.add_zero,za]
 rw [zo ht,show (logC ov mb p cb x mine P.open_ P.room wv P.commits P.steps)[14]?=some (.bool P.open_) from rfl,za]
 exact k
theorem pl_read {P:PSt} (h:(ZE lb p x mine P).at_ H O) (hok:POk x mine P) {a:Int} (h0:0≤a) (h1:a<x.B) (hlog:a<1∨1+x.L≤a)
   (k:∀ H' O' s' cs',Stp O O' H H'→(ZE lb p x mine { P with s:=s',cs:=cs' }).at_ H' O'→Rd x P s' cs' 1→IsB (Zi P.s P.cs a)→R (.tuple #[.agg (Zi P.s P.cs a),.int .i64 0]) H'):Fc Tryz.prog 18 #[zW lb,.int .i64 a] H R:=by
 obtain ⟨hx1,hx2,hx3,hx4⟩:=hok.lay
 have hall:=h
 obtain ⟨cb,mb,ov,wv,ha⟩:=h
 have hn:=hok.n
 have hf:=hok.fast
 have hfew:=hok.few
 have hw:P.s.wrong a=0:=by unfold DS.wrong; rw [if_neg (by rw [hok.alive]; decide),if_neg (by omega)]
 obtain ⟨s',cs',e,hsame,hvw,hview,hfp,hkp⟩:=view_read (size:=x.L+32) hok.vw hw (by omega)
 have hlen':=readC_len (size:=x.L+32) (s:=P.s) (cs:=P.cs) (a:=a) hok.clen
 rw [e] at hlen'
 refine fn18 ?_
 simp only [sh18,ZL,za,zu]
 refine (Lo.open ha).boxA fun b1 H1 e1 l1=>?_
 obtain ⟨ht,Od,Oc,hd,hc,hdis⟩:=pl_pcs (r:=[_]) l1
 obtain ⟨q2,q3,q4,q5,q7,q13⟩:=log_get (os:=ov) (mb:=mb) (p:=p) (cb:=cb) (x:=x) (mine:=mine) (op:=P.open_) (room:=P.room) (wr:=wv) (co:=P.commits) (st:=P.steps)
 refine check_top ht hd hok.mine ?_
 rw [hok.alive]
 simp only [Bool.false_eq_true,if_false]
 rw [zx,za,decide_eq_false (by omega),zl]
 refine zT.mk (fun t H'=>H'=H1∧t.1=.bool false) ?_ ?_
 · rintro ⟨t,u⟩ H2 ⟨rfl,ht'⟩
   simp only at ht'
   subst ht'
   rw [zl]
   refine logs_top ht (by omega) ?_
   rw [decide_eq_false (by omega),zl]
   simp only [zc,zg,Nat.zero_add,Nat.add_zero,za]
   rw [zo ht,q3,za]
   obtain ⟨O1,⟨⟨Od1,Oc1,d1,d2,d3,d4,d5⟩,dO⟩,st1⟩:=l1.call (i:=0) (x:=cdOb p cb (x.L+32) P.s P.cs) rfl
   refine cache_read d1 d2 d3 hok.reads (by omega) fun H3 Oc' k3 hoc hd3 hc3=>?_
   have hib:=(readC_is (size:=x.L+32) d1 d2 a).1
   rw [e] at hd3 hc3 hib ⊢
   have l3:=st1 H3 (cdOb p cb (x.L+32) s' cs') (fun b=>O1 b∨Oc' b) ⟨k3.mono fun b _ hb=>by
       rcases hb with hb | hb
       · exact d4 b hb
       · exact d5 b hb,fun b hb=>by
       rcases hb with hb | hb
       · exact .inl hb
       · rcases hoc b hb with h2 | h2
         · exact .inl (d5 b h2)
         · exact .inr h2⟩ ⟨⟨Od1,Oc',hd3,hc3,fun b hb hb2=>by
       rcases hoc b hb2 with h2 | h2
       · exact d3 b hb h2
       · have:=d1.lt b hb; omega,fun b hb=>.inl (d4 b hb),fun b hb=>.inr hb⟩,fun b hb=>by
       rcases hb with hb | hb
       · exact Nat.lt_of_lt_of_le (dO b hb) k3.le
       · exact hc3.lt b hb⟩
   have l3:Lo O H H3 (plAll lb p cb mb ov wv x mine { P with s:=s',cs:=cs' }++[.box b1 zB 65]):=l3
   rw [show zf (.tuple #[.agg (Zi P.s P.cs a),.int .i64 0]) 0=some (.agg (Zi P.s P.cs a)) from rfl,za,show zf (.tuple #[.agg (Zi P.s P.cs a),.int .i64 0]) 1=some (.int .i64 0) from rfl,za]
   refine l3.ret (i:=5) (K:=fun y H4=>R (.tuple #[y,.int .i64 0]) H4) rfl zF hib.size hib.ok fun H' l'=>?_
   obtain ⟨O',stt,ha'⟩:=Lo.close (l:=plAll lb p cb mb ov wv x mine { P with s:=s',cs:=cs' }) (r:=[_]) l'
   exact k H' O' s' cs' stt ⟨cb,mb,ov,wv,ha'⟩ (.mk1 hsame hvw hview hfp hkp hlen') hib
 · rw [zt,za,decide_eq_false (by omega),zl]
   simp only [zc,zg,Nat.zero_add,Nat.add_zero,za]
   rw [zo ht,q4,za,zU,za,decide_eq_false (by omega)]
   exact ⟨trivial,rfl⟩
end
theorem elM_nil:elM []=fun _=>none:=by funext k; simp [elM]
section
variable {H:Hp} {R:Value→Hp→Prop} {lb p cb mb:Nat} {s:DS} {cs:List Pl} {x:Lay} {mine:Int} {O:Nat→Prop} {ov wr:Value} {op:Bool} {room co st:Int}
theorem log_pl (h:(logOb lb p s cs x mine).at_ H O):(ZE lb p x mine ⟨s,cs,[],false,0,none,0,0⟩).at_ H O:=by
 obtain ⟨⟨cb,mb,Od,Oc,hl,q1,q2,q3,q4⟩,hO⟩:=h
 have hlb:lb<H.size:=(Array.getElem?_eq_some_iff.1 hl.top).1
 refine ⟨cb,mb,.slice none 0 0,.map none,⟨fun b=>if Od b∨Oc b then 1 else if b=mb then 2 else if b=lb then 5 else 0,⟨fun i y hy=>?_,fun b hb=>?_⟩,fun b hb=>?_⟩,hO⟩
 · match i,hy with
   | 0,hy=>
     injection hy with hy; subst hy
     refine ⟨⟨Od,Oc,hl.dk,hl.ca,hl.dis,fun b hb=>?_,fun b hb=>?_⟩,fun b hb=>?_⟩
     · show (if Od b∨Oc b then 1 else if b=mb then 2 else if b=lb then 5 else 0)=0+1; rw [if_pos (.inl hb)]
     · show (if Od b∨Oc b then 1 else if b=mb then 2 else if b=lb then 5 else 0)=0+1; rw [if_pos (.inr hb)]
     · have hb:(if Od b∨Oc b then 1 else if b=mb then 2 else if b=lb then 5 else 0)=0+1:=hb
       by_cases e:Od b∨Oc b
       · rcases e with e | e
         · exact hl.dk.lt b e
         · exact hl.ca.lt b e
       · rw [if_neg e] at hb
         split at hb
         · omega
         · split at hb <;> omega
   | 1,hy=>
     injection hy with hy; subst hy
     refine ⟨⟨by show MapAt H mb (elM []) 0; rw [elM_nil]; exact hl.mp,?_⟩,fun b hb=>?_⟩
     · show (if Od mb∨Oc mb then 1 else if mb=mb then 2 else if mb=lb then 5 else 0)=1+1; rw [if_neg (by rintro (e | e); exact hl.lo.2.2.1 e; exact hl.lo.2.2.2.1 e),if_pos rfl]
     · have hb:(if Od b∨Oc b then 1 else if b=mb then 2 else if b=lb then 5 else 0)=1+1:=hb
       split at hb
       · omega
       · split at hb
         · rename_i e; rw [e]; exact hl.mp.lt
         · split at hb <;> omega
   | 2,hy=>
     injection hy with hy; subst hy
     refine ⟨⟨Sv.nil _ _ _,fun b hb=>by cases hb⟩,fun b hb=>?_⟩
     have hb:(if Od b∨Oc b then 1 else if b=mb then 2 else if b=lb then 5 else 0)=2+1:=hb
     split at hb
     · omega
     · split at hb
       · omega
       · split at hb <;> omega
   | 3,hy=>
     injection hy with hy; subst hy
     refine ⟨rfl,fun b hb=>?_⟩
     have hb:(if Od b∨Oc b then 1 else if b=mb then 2 else if b=lb then 5 else 0)=3+1:=hb
     split at hb
     · omega
     · split at hb
       · omega
       · split at hb <;> omega
   | 4,hy=>
     injection hy with hy; subst hy
     refine ⟨⟨hl.top,?_⟩,fun b hb=>?_⟩
     · show (if Od lb∨Oc lb then 1 else if lb=mb then 2 else if lb=lb then 5 else 0)=4+1; rw [if_neg (by rintro (e | e); exact hl.lo.1 e; exact hl.lo.2.1 e),if_neg hl.lo.2.2.2.2,if_pos rfl]
     · have hb:(if Od b∨Oc b then 1 else if b=mb then 2 else if b=lb then 5 else 0)=4+1:=hb
       split at hb
       · omega
       · split at hb
         · omega
         · split at hb
           · rename_i e; rw [e]; exact hlb
           · omega
   | n+5,hy=>simp [plAll] at hy
 · have h1:¬ (Od b∨Oc b):=by
     rintro (e | e)
     · have:=hl.dk.lt b e; omega
     · have:=hl.ca.lt b e; omega
   have h2:b≠mb:=fun e=>by have:=hl.mp.lt; omega
   show (if Od b∨Oc b then 1 else if b=mb then 2 else if b=lb then 5 else 0)=0
   rw [if_neg h1,if_neg h2,if_neg (by omega)]
 · have hb:(if Od b∨Oc b then 1 else if b=mb then 2 else if b=lb then 5 else 0)≠0:=hb
   by_cases e:Od b∨Oc b
   · rcases e with e | e
     · exact q1 b e
     · exact q2 b e
   · rw [if_neg e] at hb
     by_cases e2:b=mb
     · rw [e2]; exact q3
     · rw [if_neg e2] at hb
       by_cases e3:b=lb
       · rw [e3]; exact q4
       · rw [if_neg e3] at hb; exact absurd rfl hb
theorem pl_layout {P:PSt} (h:(ZE lb p x mine P).at_ H O) (hok:POk x mine P) (k:∀ H',Ext H H'→R (.agg x.cells) H'):Fc Tryz.prog 17 #[zW lb] H R:=by
 refine fn17 ?_
 simp only [sh17,yj,za]
 refine (Lo.start _ H:Lx H H []).boxA fun b1 H1 e1 l1=>?_
 obtain ⟨O1,h1⟩:=((Lo.own h).ext e1).get (i:=0) rfl
 refine Yn h1 hok ?_
 rw [zx,za,decide_eq_false (by omega),zl]
 obtain ⟨cb,mb,ov,wv,ha⟩:=h1
 obtain ⟨ht,_⟩:=pl_pcs (r:=[]) (Lo.open ha)
 simp only [zc,zg,Nat.zero_add,Nat.add_zero,za]
 rw [Zj ht (show 4+9≤19 by omega),za,logC_lay]
 exact l1.ret (i:=0) rfl rfl (Lay.size _) (Lay.cok _) fun H' l'=>k H' l'.ext0
theorem pl_begin {P:PSt} (h:(ZE lb p x mine P).at_ H O) (hok:POk x mine P) (hop:P.open_=false) {r:Int} (h1:1≤r) (h2:(P.order.length:Int)+r≤x.L - 1)
   (k:∀ H' O',Stp O O' H H'→(ZE lb p x mine { P with open_:=true,room:=r,wrote:=some [] }).at_ H' O'→R (.int .i64 0) H'):Fc Tryz.prog 11 #[zW lb,zm r] H R:=by
 obtain ⟨hx1,hx2,hx3,hx4⟩:=hok.lay
 refine fn11 ?_
 simp only [sh11,zu]
 refine Yn h hok ?_
 rw [zx,za,decide_eq_false (by omega),zl]
 obtain ⟨cb,mb,ov,wv,ha⟩:=h
 have l0:Lo O H H [cdOb p cb (x.L+32) P.s P.cs,mpOb mb (elM P.order) P.order.length,.sl 3 1 ov (P.order.map nI),wrOb P.wrote wv,.box lb (logC ov mb p cb x mine P.open_ P.room wv P.commits P.steps) 100]:=Lo.open ha
 have g0:(logC ov mb p cb x mine P.open_ P.room wv P.commits P.steps)[0]?=some ov:=rfl
 have g5:(logC ov mb p cb x mine P.open_ P.room wv P.commits P.steps)[5]?=some (zm x.L):=rfl
 have g14:(logC ov mb p cb x mine P.open_ P.room wv P.commits P.steps)[14]?=some (.bool P.open_):=rfl
 simp only [zc,zg,Nat.zero_add,Nat.add_zero,Nat.reduceAdd,za]
 rw [l0.ld (i:=4) rfl,g14,za,hop,zl]
 refine zT.mk (fun t H'=>H'=H∧t.1=.bool false) ?_ ?_
 · rintro ⟨t,u⟩ H1 ⟨rfl,ht⟩
   simp only at ht
   subst ht
   rw [zl]
   refine zT.mk (fun _ H'=>H'=H1) ?_ ?_
   · rintro t H2 rfl
     refine yU fun wb H3 hb e3 hs3 g3=>?_
     have n3:New H2 H3 (wrOb (some []) (.map (some wb))):=⟨fun b=>b=wb,⟨⟨wb,rfl,by rw [elM_nil]; exact MapAt.new g3,rfl⟩,fun b hb2=>by omega⟩,fun b hb2=>by omega⟩
     have l3:=l0.new e3 n3
     refine l3.st (i:=4) (j:=14) (v:=.bool true) rfl (by exact (by decide:14<19)) rfl rfl fun H4 l4=>?_
     refine l4.st (i:=4) (j:=15) (v:=zm r) rfl (by exact (by decide:15<19)) rfl rfl fun H5 l5=>?_
     refine l5.st (i:=4) (j:=16) (v:=.map (some wb)) rfl (by exact (by decide:16<19)) rfl rfl fun H6 l6=>?_
     have l7:=l6.pick [0,1,2,5,4] (by decide) (by simp)
     have l7:Lo O H2 H6 (plAll lb p cb mb ov (.map (some wb)) x mine { P with open_:=true,room:=r,wrote:=some [] }++[]):=l7
     obtain ⟨O',st,ha'⟩:=Lo.close l7
     exact k H6 O' st ⟨cb,mb,ov,.map (some wb),ha'⟩
   · have hfew:=hok.few
     rw [l0.ld (i:=4) rfl,g0,za,(l0.sv (i:=2) rfl).lenE undIn,za,List.length_map,zk,za,zh (by omega) (by omega),l0.ld (i:=4) rfl,g5,za,zV,za,zh (by omega) (by omega),zN,za,decide_eq_false (by omega),zl]
 · rw [zt,za,decide_eq_false (by omega),zl,l0.ld (i:=4) rfl,g5,za,zV,za,zh (by omega) (by omega),zN,za,decide_eq_false (by omega)]
   exact ⟨rfl,rfl⟩
theorem pl_end {P:PSt} (h:(ZE lb p x mine P).at_ H O) (hok:POk x mine P) (hop:P.open_=true) (hst:0≤P.steps∧P.steps<4611686018427387904)
   (k:∀ H' O',Stp O O' H H'→(ZE lb p x mine { P with open_:=false,steps:=P.steps+1 }).at_ H' O'→R (.int .i64 0) H'):Fc Tryz.prog 13 #[zW lb] H R:=by
 refine fn13 ?_
 simp only [sh13]
 refine Yn h hok ?_
 rw [zx,za,decide_eq_false (by omega),zl]
 obtain ⟨cb,mb,ov,wv,ha⟩:=h
 have l0:Lo O H H [cdOb p cb (x.L+32) P.s P.cs,mpOb mb (elM P.order) P.order.length,.sl 3 1 ov (P.order.map nI),wrOb P.wrote wv,.box lb (logC ov mb p cb x mine P.open_ P.room wv P.commits P.steps) 100]:=Lo.open ha
 have g14:(logC ov mb p cb x mine P.open_ P.room wv P.commits P.steps)[14]?=some (.bool P.open_):=rfl
 simp only [zc,zg,Nat.zero_add,Nat.add_zero,za]
 rw [l0.ld (i:=4) rfl,g14,za,hop,zM,za,Bool.not_true,zl]
 refine l0.st (i:=4) (j:=14) (v:=.bool false) rfl (by exact (by decide:14<19)) rfl rfl fun H2 l2=>?_
 have l2:Lo O H H2 [cdOb p cb (x.L+32) P.s P.cs,mpOb mb (elM P.order) P.order.length,.sl 3 1 ov (P.order.map nI),wrOb P.wrote wv,.box lb (logC ov mb p cb x mine false P.room wv P.commits P.steps) 100]:=l2
 rw [l2.ld (i:=4) rfl,show (logC ov mb p cb x mine false P.room wv P.commits P.steps)[18]?=some (zm P.steps) from rfl,za,zk,za,zh (by omega) (by omega)]
 refine l2.st (i:=4) (j:=18) (v:=zm (P.steps+1)) rfl (by exact (by decide:18<19)) rfl rfl fun H3 l3=>?_
 have l3:Lo O H H3 (plAll lb p cb mb ov wv x mine { P with open_:=false,steps:=P.steps+1 }++[]):=l3
 obtain ⟨O',st,ha'⟩:=Lo.close l3
 exact k H3 O' st ⟨cb,mb,ov,wv,ha'⟩
end
theorem elM_in {l:List Int} {a:Int} (h:a∈l):elM l a=some (.agg #[]):=by unfold elM; rw [if_pos h]
theorem elM_out {l:List Int} {a:Int} (h:a ∉ l):elM l a=none:=by unfold elM; rw [if_neg h]
theorem elM_add (l:List Int) (a:Int):updM (elM l) a (some (.agg #[]))=elM (l++[a]):=by
 funext k
 unfold updM elM
 by_cases e:k=a
 · rw [if_pos e,if_pos (by simp [e])]
 · rw [if_neg e]
   by_cases h:k∈l
   · rw [if_pos h,if_pos (by simp [h])]
   · rw [if_neg h,if_neg (by simp [h,e])]
noncomputable def addL (l:List Int) (a:Int):List Int:=if a∈l then l else l++[a]
theorem zeroUnit:zD Tryz.prog 165=some (.agg #[]):=by kernel_rfl
theorem buildUnit:zv Tryz.prog 165 []=some (.agg #[]):=by kernel_rfl
section
variable {H:Hp} {R:Value→Hp→Prop} {lb p cb mb:Nat} {s:DS} {cs:List Pl} {x:Lay} {mine:Int} {O:Nat→Prop}
theorem pl_add {P:PSt} (h:(ZE lb p x mine P).at_ H O) (hlen:P.order.length<1000000) {a:Int}
   (k:∀ H' O',Stp O O' H H'→(ZE lb p x mine { P with order:=addL P.order a }).at_ H' O'→R (.tuple #[]) H'):Fc Tryz.prog 101 #[zW lb,zm a] H R:=by
 obtain ⟨cb,mb,ov,wv,ha⟩:=h
 have l0:Lo O H H [cdOb p cb (x.L+32) P.s P.cs,mpOb mb (elM P.order) P.order.length,.sl 3 1 ov (P.order.map nI),wrOb P.wrote wv,.box lb (logC ov mb p cb x mine P.open_ P.room wv P.commits P.steps) 100]:=Lo.open ha
 have g0:(logC ov mb p cb x mine P.open_ P.room wv P.commits P.steps)[0]?=some ov:=rfl
 have g1:∀ {ov:Value},(logC ov mb p cb x mine P.open_ P.room wv P.commits P.steps)[1]?=some (.map (some mb)):=rfl
 refine fn101 ?_
 simp only [sh101,zeroUnit,buildUnit,za]
 simp only [zc,zg,Nat.zero_add,Nat.add_zero,za]
 obtain ⟨Om,hmp⟩:=l0.get (i:=1) (x:=mpOb mb (elM P.order) P.order.length) rfl
 rw [l0.ld (i:=4) rfl,g1,za,map_look hmp.1.1 true a,zeroUnit]
 by_cases hin:a∈P.order
 · rw [elM_in hin]
   show Pu (some (Value.tuple #[.agg #[],.bool true])) _
   rw [za,show zf (.tuple #[.agg #[],.bool true]) 0=some (.agg #[]) from rfl,za,show zf (.tuple #[.agg #[],.bool true]) 1=some (.bool true) from rfl,za]
   refine l0.boxA fun b1 H1 _ l1=>?_
   refine l1.stAll (i:=5) (n:=0) (vs:=#[]) rfl rfl rfl (by unfold zG; rw [← Array.all_toList]; rfl) fun H2 l2=>?_
   rw [zM,za,Bool.not_true,zl]
   have l2:Lo O H H2 (plAll lb p cb mb ov wv x mine P++[.box b1 #[] 165]):=l2
   obtain ⟨O',st,ha'⟩:=Lo.close l2
   have:=k H2 O' st
   unfold addL at this
   rw [if_pos hin] at this
   exact this ⟨cb,mb,ov,wv,ha'⟩
 · rw [elM_out hin]
   show Pu (some (Value.tuple #[.agg #[],.bool false])) _
   rw [za,show zf (.tuple #[.agg #[],.bool false]) 0=some (.agg #[]) from rfl,za,show zf (.tuple #[.agg #[],.bool false]) 1=some (.bool false) from rfl,za]
   refine l0.boxA fun b1 H1 _ l1=>?_
   refine l1.stAll (i:=5) (n:=0) (vs:=#[]) rfl rfl rfl (by unfold zG; rw [← Array.all_toList]; rfl) fun H2 l2=>?_
   have l2:Lo O H H2 [cdOb p cb (x.L+32) P.s P.cs,mpOb mb (elM P.order) P.order.length,.sl 3 1 ov (P.order.map nI),wrOb P.wrote wv,.box lb (logC ov mb p cb x mine P.open_ P.room wv P.commits P.steps) 100,.box b1 #[] 165]:=l2
   rw [zM,za,Bool.not_false,z8,l2.ld (i:=4) rfl,g0,za]
   refine l2.appO elIn eIn_f (i:=2) (c:=nI a) rfl rfl (by omega) (by omega) rfl (by unfold zG; rw [← Array.all_toList]; rfl) (by rw [List.length_map]; omega) fun ov' H3 l3=>?_
   have hone:=(l3.sv (i:=2) rfl).one
   refine l3.st (i:=4) (j:=0) (v:=ov') rfl (by exact (by decide:0<19)) hone.2 hone.1 fun H4 l4=>?_
   have l4:Lo O H H4 [cdOb p cb (x.L+32) P.s P.cs,mpOb mb (elM P.order) P.order.length,.sl 3 1 ov' (P.order.map nI++[nI a]),wrOb P.wrote wv,.box lb (logC ov' mb p cb x mine P.open_ P.room wv P.commits P.steps) 100,.box b1 #[] 165]:=l4
   rw [l4.ld (i:=4) rfl,g1,za]
   obtain ⟨O4,h4,st4⟩:=l4.call (i:=1) (x:=mpOb mb (elM P.order) P.order.length) rfl
   refine mapSet_i h4.1.1 fun H5 k5 s5 m5=>?_
   rw [elM_out hin,if_pos rfl,elM_add] at m5
   have l5:=st4 H5 (mpOb mb (elM (P.order++[a])) (P.order.length+1)) O4 ⟨k5.mono fun b _ e=>e ▸ h4.1.2,fun b hb=>.inl hb⟩ ⟨⟨m5,h4.1.2⟩,fun b hb=>by rw [s5]; exact h4.2 b hb⟩
   have l5:Lo O H H5 (plAll lb p cb mb ov' wv x mine { P with order:=P.order++[a] }++[.box b1 #[] 165]):=by
     unfold plAll
     simp only [List.map_append,List.length_append,List.length_cons,List.length_nil]
     exact l5
   obtain ⟨O',st,ha'⟩:=Lo.close l5
   have:=k H5 O' st
   unfold addL at this
   rw [if_neg hin] at this
   exact this ⟨cb,mb,ov',wv,ha'⟩
end
structure Wt (x:Lay) (mine:Int) (P P':PSt) (a:Int) (d:Blk) (m:Int):Prop where
 ok:POk x mine P'
 n:P'.s.n=P.s.n
 now:P'.s.now=P.s.now
 held:P'.s.held=P.s.held
 fuse:P'.s.fuse=P.s.fuse
 made:P'.s.made=P.s.made
 claims:P'.s.claims=P.s.claims
 pl:P'.s.pl=P.s.pl
 hl:P'.s.hl=P.s.hl
 reads:P.s.reads≤P'.s.reads∧P'.s.reads≤P.s.reads+m
 view:∀ b,Zi P'.s P'.cs b=if b=a then d else Zi P.s P.cs b
 order:P'.order=addL P.order a
 wrote:∀ W,P.wrote=some W→P'.wrote=some (addL W a)
 open_:P'.open_=P.open_
 room:P'.room=P.room
 commits:P'.commits=P.commits
 steps:P'.steps=P.steps
theorem addL_len (l:List Int) (a:Int):(addL l a).length=if a∈l then l.length else l.length+1:=by
 unfold addL
 split
 · rfl
 · simp
theorem mem_addL {l:List Int} {a b:Int}:b∈addL l a↔b∈l∨b=a:=by
 unfold addL
 split
 · rename_i h
   exact ⟨.inl,fun e=>e.elim id fun e=>e ▸ h⟩
 · simp
theorem Rd.wt {x:Lay} {mine:Int} {P P':PSt} {s':DS} {cs':List Pl} {a:Int} {d:Blk} {m n k:Int} (h:Rd x P s' cs' m) (g:Wt x mine { P with s:=s',cs:=cs' } P' a d n) (hk:m+n≤k):Wt x mine P P' a d k:=by
 have h1:=h.reads
 have h2:s'.reads≤P'.s.reads∧P'.s.reads≤s'.reads+n:=g.reads
 exact ⟨g.ok,g.n.trans h.n,g.now.trans h.now,g.held.trans h.held,g.fuse.trans h.fuse,g.made.trans h.made,g.claims.trans h.claims,g.pl.trans h.pl,g.hl.trans h.hl,by omega,fun b=>by
   have e:=g.view b
   have e2:=h.view b
   have e:Zi P'.s P'.cs b=if b=a then d else Zi s' cs' b:=e
   rw [e,e2],g.order,g.wrote,g.open_,g.room,g.commits,g.steps⟩
section
variable {H:Hp} {R:Value→Hp→Prop} {lb p cb mb:Nat} {x:Lay} {mine:Int} {O:Nat→Prop}
set_option maxHeartbeats 1000000 in
theorem pl_write {P:PSt} (h:(ZE lb p x mine P).at_ H O) (hok:POk x mine P) (hop:P.open_=true) {W:List Int} (hwr:P.wrote=some W) {a:Int} (h1:1+x.L≤a) (h2:a<x.B) (hroom:a∈W∨(W.length:Int)<P.room) {d:Blk} (hd:IsB d) (hord:((addL P.order a).length:Int)≤x.L - 1)
   (k:∀ H' O' P',Stp O O' H H'→(ZE lb p x mine P').at_ H' O'→Wt x mine P P' a d 0→R (.int .i64 0) H'):Fc Tryz.prog 41 #[zW lb,zm a,.agg d] H R:=by
 obtain ⟨hx1,hx2,hx3,hx4⟩:=hok.lay
 have hn:=hok.n
 have hf:=hok.fast
 have hfew:=hok.few
 have hcl:=hok.clen
 have hw:P.s.wrong a=0:=by unfold DS.wrong; rw [if_neg (by rw [hok.alive]; decide),if_neg (by omega)]
 obtain ⟨cs',e,hvw,hview,hfp,hfp2,hin,hkp⟩:=view_put (size:=x.L+32) (d:=d) hok.vw hw (by omega)
 have hlen':=putC_len (size:=x.L+32) (s:=P.s) (cs:=P.cs) (a:=a) (d:=d) hok.clen
 rw [e] at hlen'
 obtain ⟨cb,mb,ov,wv,ha⟩:=h
 refine fn41 ?_
 simp only [sh41,zeroUnit,buildUnit,za,zu]
 refine (Lo.open ha).boxA fun b1 H1 e1 l1=>?_
 have l1:Lo O H H1 (plAll lb p cb mb ov wv x mine P++[.box b1 d 65]):=l1
 obtain ⟨ht,Od,Oc,hdk,hca,hdis⟩:=pl_pcs l1
 refine check_top ht hdk hok.mine ?_
 rw [hok.alive]
 simp only [Bool.false_eq_true,if_false]
 rw [zx,za,decide_eq_false (by omega),zl]
 have g3:(logC ov mb p cb x mine P.open_ P.room wv P.commits P.steps)[3]?=some (zW cb):=rfl
 have g4:(logC ov mb p cb x mine P.open_ P.room wv P.commits P.steps)[4]?=some (zm x.B):=rfl
 have g14:(logC ov mb p cb x mine P.open_ P.room wv P.commits P.steps)[14]?=some (.bool P.open_):=rfl
 have g15:(logC ov mb p cb x mine P.open_ P.room wv P.commits P.steps)[15]?=some (zm P.room):=rfl
 have g16:(logC ov mb p cb x mine P.open_ P.room wv P.commits P.steps)[16]?=some wv:=rfl
 simp only [zc,zg,Nat.zero_add,Nat.add_zero,za]
 rw [zo ht,g14,za,hop,zM,za,Bool.not_true,zl]
 refine zT.mk (fun t H'=>H'=H1∧t.1=.bool false) ?_ ?_
 rotate_left
 · rw [zt,za,decide_eq_false (by omega),zl,zo ht,g4,za,zU,za,decide_eq_false (by omega),zl]
   refine logs_top ht (by omega) ?_
   rw [decide_eq_false (by omega)]
   exact ⟨rfl,rfl⟩
 rintro ⟨t,u⟩ H2 ⟨rfl,ht'⟩
 simp only at ht'
 subst ht'
 rw [zl,zo ht,g16,za]
 obtain ⟨Ow,hwm⟩:=l1.get (i:=3) (x:=wrOb P.wrote wv) rfl
 have hwm':∃ wb,wv=.map (some wb)∧MapAt H2 wb (elM W) W.length:=by
   have:=hwm.1
   rw [hwr] at this
   obtain ⟨wb,q1,q2,_⟩:=this
   exact ⟨wb,q1,q2⟩
 obtain ⟨wb,ewv,hmw⟩:=hwm'
 rw [ewv,map_look hmw true a,zeroUnit]
 have hlk:lookO true (some (.agg #[])) (elM W a)=some (.tuple #[.agg #[],.bool (decide (a∈W))]):=by
   by_cases hin:a∈W
   · rw [elM_in hin,decide_eq_true hin]; rfl
   · rw [elM_out hin,decide_eq_false hin]; rfl
 rw [hlk,za,show zf (.tuple #[.agg #[],.bool (decide (a∈W))]) 0=some (.agg #[]) from rfl,za,show zf (.tuple #[.agg #[],.bool (decide (a∈W))]) 1=some (.bool (decide (a∈W))) from rfl,za]
 refine l1.boxA fun b2 H3 _ l3=>?_
 refine l3.stAll (i:=6) (n:=0) (vs:=#[]) rfl rfl rfl (by unfold zG; rw [← Array.all_toList]; rfl) fun H4 l4=>?_
 have l4:Lo O H H4 (plAll lb p cb mb ov wv x mine P++[.box b1 d 65,.box b2 #[] 165]):=l4
 obtain ⟨ht4,_⟩:=pl_pcs l4
 refine zT.mk (fun t H'=>H'=H4∧t.1=.bool false) ?_ ?_
 rotate_left
 · rw [zM,za,Z8]
   refine ⟨fun hni=>?_,fun _=>⟨rfl,rfl⟩⟩
   rw [decide_eq_false_iff_not] at hni
   obtain ⟨Ow4,hw4⟩:=l4.get (i:=3) (x:=wrOb P.wrote wv) rfl
   have hm4:MapAt H4 wb (elM W) W.length:=by
     have:=hw4.1
     rw [hwr] at this
     obtain ⟨wb',q1,q2,_⟩:=this
     rw [ewv] at q1
     injection q1 with q1
     injection q1 with q1
     rw [q1]; exact q2
   rw [zo ht4,g16,za,ewv,map_len hm4,za,zo ht4,g15,za,zU,za,decide_eq_false (by have:=hroom.resolve_left hni; omega)]
   exact ⟨rfl,rfl⟩
 rintro ⟨t,u⟩ H5 ⟨rfl,ht'⟩
 simp only at ht'
 subst ht'
 rw [zl,zo ht4,g3,za,l4.ldAll (i:=5) (n:=1024) rfl hd.size,za]
 obtain ⟨O1,⟨⟨Od1,Oc1,d1,d2,d3,d4,d5⟩,dO⟩,st1⟩:=l4.call (i:=0) (x:=cdOb p cb (x.L+32) P.s P.cs) rfl
 refine cache_put d1 d2 d3 (by omega) (by omega) hd fun H6 Oc' k6 hoc hd6 hc6=>?_
 rw [e] at hc6 ⊢
 have l6:=st1 H6 (cdOb p cb (x.L+32) P.s cs') (fun b=>O1 b∨Oc' b) ⟨k6.mono fun b _ hb=>d5 b hb,fun b hb=>by
     rcases hb with hb | hb
     · exact .inl hb
     · rcases hoc b hb with h2 | h2
       · exact .inl (d5 b h2)
       · exact .inr h2⟩ ⟨⟨Od1,Oc',hd6,hc6,fun b hb hb2=>by
     rcases hoc b hb2 with h2 | h2
     · exact d3 b hb h2
     · have:=d1.lt b hb; omega,fun b hb=>.inl (d4 b hb),fun b hb=>.inr hb⟩,fun b hb=>by
     rcases hb with hb | hb
     · exact Nat.lt_of_lt_of_le (dO b hb) k6.le
     · exact hc6.lt b hb⟩
 have l6:Lo O H H6 (plAll lb p cb mb ov wv x mine { P with cs:=cs' }++[.box b1 d 65,.box b2 #[] 165]):=l6
 obtain ⟨ht6,_⟩:=pl_pcs l6
 simp only [zx,za,show decide ((0:Int)≠0)=false from rfl,zl]
 rw [zo ht6,g16,za]
 obtain ⟨O6,hw6,st6⟩:=l6.call (i:=3) (x:=wrOb P.wrote wv) rfl
 have hm6:MapAt H6 wb (elM W) W.length∧O6 wb:=by
   have:=hw6.1
   rw [hwr] at this
   obtain ⟨wb',q1,q2,q3⟩:=this
   rw [ewv] at q1
   injection q1 with q1
   injection q1 with q1
   rw [q1]; exact ⟨q2,q3⟩
 rw [ewv]
 refine mapSet_i hm6.1 fun H7 k7 s7 m7=>?_
 have m8:MapAt H7 wb (elM (addL W a)) (addL W a).length:=by
   unfold addL
   by_cases hin:a∈W
   · rw [if_pos hin]
     rw [elM_in hin,if_neg (by simp)] at m7
     have e2:updM (elM W) a (some (.agg #[]))=elM W:=by
       funext z
       unfold updM
       by_cases ez:z=a
       · rw [if_pos ez,ez,elM_in hin]
       · rw [if_neg ez]
     rw [e2] at m7; exact m7
   · rw [if_neg hin]
     rw [elM_out hin,if_pos rfl,elM_add] at m7
     rw [List.length_append]; exact m7
 have l7:=st6 H7 (wrOb (some (addL W a)) wv) O6 ⟨k7.mono fun b _ e=>e ▸ hm6.2,fun b hb=>.inl hb⟩ ⟨⟨wb,ewv,m8,hm6.2⟩,fun b hb=>by rw [s7]; exact hw6.2 b hb⟩
 have l7:Lo O H H7 (plAll lb p cb mb ov wv x mine { P with cs:=cs',wrote:=some (addL W a) }++[.box b1 d 65,.box b2 #[] 165]):=l7
 have l8:=Lo.pack (l:=[]) l7.take
 have l9:Lo O H H7 [ZE lb p x mine { P with cs:=cs',wrote:=some (addL W a) }]:=l8.nth (i:=0) rfl fun O' ho=>⟨cb,mb,ov,wv,ho⟩
 obtain ⟨O9,h9,st9⟩:=l9.call (i:=0) rfl
 refine pl_add h9 (by show P.order.length<1000000; omega) fun H10 O10 s10 h10=>?_
 have l10:Lo O H H10 [ZE lb p x mine { P with cs:=cs',wrote:=some (addL W a),order:=addL P.order a }]:=st9 H10 _ O10 s10 h10
 obtain ⟨O',st,h'⟩:=Lo.close1 l10
 refine k H10 O' _ st h' ⟨⟨hok.alive,hok.mine,hvw,hok.n,hok.reads,hok.lay,?_,hord,hlen',fun b hb=>?_⟩,rfl,rfl,rfl,rfl,rfl,rfl,rfl,rfl,by show P.s.reads≤P.s.reads∧P.s.reads≤P.s.reads+0; omega,hview,rfl,fun W' hW=>?_,rfl,rfl,rfl,rfl⟩
 · show Zy cs'≤((addL P.order a).length:Int)
   rw [addL_len]
   split
   · rename_i hm
     obtain ⟨y,q1,q2⟩:=hok.held a hm
     rw [hfp2 y q1 q2]; exact hf
   · omega
 · show ∃ y,ZA cs' b=some y∧y.fast=true
   by_cases e2:b=a
   · rw [e2]; exact hin
   · obtain ⟨y,q1,q2⟩:=hok.held b ((mem_addL.1 hb).resolve_right e2)
     exact ⟨y,hkp b y e2 q1 q2,q2⟩
 · rw [hwr] at hW
   injection hW with hW
   rw [hW]
end
section
variable {H:Hp} {R:Value→Hp→Prop} {lb p:Nat} {mine:Int} {O:Nat→Prop} {B L I:Int}
theorem pl_spot {P:PSt} (h:(ZE lb p (zp B L I) mine P).at_ H O) (hok:POk (zp B L I) mine P) (hg:Zo B L I) {i:Nat} (hi:i≤70000) (k:∀ H',Ext H H'→R (.tuple #[zm (1+L+((i / 16:Nat):Int)),zm ((64*(i % 16):Nat):Int),.bool (decide (1≤i∧(i:Int)≤I))]) H'):Fc Tryz.prog 39 #[zW lb,zm i] H R:=by
 obtain ⟨gL1,gL2,gI1,gI2,gB1,gB2,gD⟩:=id hg
 have c4:(zp B L I).cells[4]?=some (zm (1+L)):=rfl
 have c2:(zp B L I).cells[2]?=some (zm I):=rfl
 refine fn39 ?_
 simp only [sh39,yj,za]
 refine pl_layout h hok fun H1 e1=>?_
 refine ((Lo.start _ H:Lx H H []).ext e1).boxA fun b1 H2 _ l2=>?_
 refine l2.stAll (i:=0) rfl rfl (Lay.size _) (Lay.cok _) fun H3 l3=>?_
 simp only [zg,Nat.zero_add,Nat.add_zero,za]
 rw [l3.ld (i:=0) rfl,c4,za,Zn (by decide),za,Zv (by omega),zh (by omega) (by omega),zk,za,zh (by omega) (by omega),z9 (by decide),za,Ze (by omega),zZ,za,zh (by omega) (by omega),zU,za,ze,show 1+L+(i:Int) / 16=1+L+((i / 16:Nat):Int) by omega,show (i:Int) % 16*64=((64*(i % 16):Nat):Int) by omega]
 refine ⟨fun h1=>?_,fun h1=>?_⟩
 · rw [l3.ld (i:=0) rfl,c2,za,yX,za]
   have:=k H3 l3.ext0
   rw [show decide (1≤i∧(i:Int)≤I)=decide ((i:Int)≤I) from dec_dec ⟨fun e=>e.2,fun e=>⟨by omega,e⟩⟩] at this
   exact this
 · have:=k H3 l3.ext0
   rw [show decide (1≤i∧(i:Int)≤I)=false from decide_eq_false fun e=>h1 (by omega)] at this
   exact this
set_option maxHeartbeats 1000000 in
theorem pl_rack {P:PSt} (h:(ZE lb p (zp B L I) mine P).at_ H O) (hok:POk (zp B L I) mine P) (hg:Zo B L I) {i:Nat} (h0:1≤i) (h1:(i:Int)≤I)
   (k:∀ H' O' s' cs',Stp O O' H H'→(ZE lb p (zp B L I) mine { P with s:=s',cs:=cs' }).at_ H' O'→Rd (zp B L I) P s' cs' 1→R (.tuple #[.agg (zS (Zq (Zi P.s P.cs (1+L+((i / 16:Nat):Int))) (64*(i % 16)))),.int .i64 0]) H'):Fc Tryz.prog 34 #[zW lb,zm i] H R:=by
 obtain ⟨gL1,gL2,gI1,gI2,gB1,gB2,gD⟩:=id hg
 have hDA:(zp B L I).dataAt=1+L+(I+16) / 16+(B+8191) / 8192:=rfl
 have hBB:(zp B L I).B=B:=rfl
 have hLL:(zp B L I).L=L:=rfl
 have x3:∀ {a b c:Value},zf (.tuple #[a,b,c]) 0=some a:=rfl
 have x4:∀ {a b c:Value},zf (.tuple #[a,b,c]) 1=some b:=rfl
 have x5:∀ {a b c:Value},zf (.tuple #[a,b,c]) 2=some c:=rfl
 have y3:∀ {a b:Value},zf (.tuple #[a,b]) 0=some a:=rfl
 have y4:∀ {a b:Value},zf (.tuple #[a,b]) 1=some b:=rfl
 refine fn34 ?_
 simp only [sh34,yi,ZL,za]
 refine (Lo.own h).boxA fun b1 H1 _ l1=>?_
 have l1:Lo O H H1 [ZE lb p (zp B L I) mine P,.box b1 (zS fun _=>0) 54]:=l1
 obtain ⟨O1,hl1,_⟩:=l1.call (i:=0) rfl
 refine Yn hl1 hok ?_
 rw [zx,za,decide_eq_false (by omega),zl]
 refine pl_spot hl1 hok hg (by omega) fun H2 e2=>?_
 have l2:=l1.ext e2
 rw [x3,za,x4,za,x5,za,decide_eq_true (by omega),zM,za,Bool.not_true,zl]
 obtain ⟨O2,hl2,st2⟩:=l2.call (i:=0) rfl
 refine pl_read hl2 hok (by omega) (by rw [hBB]; omega) (by rw [hLL]; omega) fun H3 O3 s' cs' s3 hl3 hrd hnow=>?_
 have l3:Lo O H H3 [ZE lb p (zp B L I) mine { P with s:=s',cs:=cs' },.box b1 (zS fun _=>0) 54]:=st2 H3 _ O3 s3 hl3
 rw [y3,za,y4,za]
 generalize Zi P.s P.cs (1+L+((i / 16:Nat):Int))=c at hnow k
 refine l3.boxA fun b3 H4 _ l4=>?_
 refine l4.stAll (i:=2) rfl zF hnow.size hnow.ok fun H5 l5=>?_
 have l5:Lo O H H5 [ZE lb p (zp B L I) mine { P with s:=s',cs:=cs' },.box b1 (zS fun _=>0) 54,.box b3 c 65]:=l5
 rw [zx,za,decide_eq_false (by omega),zl,zk,za,show ((64*(i % 16):Nat):Int)+64=((64*(i % 16)+64:Nat):Int) by omega,zw (by omega),sl_arr und1024 inf8_e inf8_s (by omega) (by omega) (by omega),za,show 64*(i % 16)+64 - 64*(i % 16)=64 by omega,show arrE (some 64) (.slice (some ⟨b3,64*(i % 16),none⟩) 64 (1024 - 64*(i % 16)))=some (.pointer (some ⟨b3,64*(i % 16),none⟩)) from rfl,za,Zj (l5.at (i:=2) rfl) (by rw [hnow.size]; omega),za]
 refine node_dec (cutN_is hnow (by omega)) fun H6 e6=>?_
 have e:zS (Zq (c.extract (64*(i % 16)) (64*(i % 16)+64)) 0)=zS (Zq c (64*(i % 16))):=yb fun j hj=>inoOf_cutN hnow (by omega) hj
 rw [e]
 refine (l5.ext e6).ret (i:=1) (K:=fun x H4=>R (.tuple #[x,.int .i64 0]) H4) rfl (zz _) (zz _) (ZM _) fun H' l'=>?_
 obtain ⟨O',st,ha⟩:=Lo.close1 (x:=ZE lb p (zp B L I) mine { P with s:=s',cs:=cs' }) (r:=[_,_]) l'
 exact k H' O' s' cs' st ha hrd
end
theorem u8w (v:Nat):IntKind.u8.wrap (v:Int)=((v % 256:Nat):Int):=by
 simp [IntKind.wrap,IntKind.bits,IntKind.signed]
theorem fdivN (v n:Nat):((v:Int).fdiv ((n:Nat):Int))=((v / n:Nat):Int):=by
 rw [Int.fdiv_eq_ediv_of_nonneg _ (by omega)]; rfl
section
variable {H:Hp} {R:Value→Hp→Prop}
theorem set_u16 {c:Blk} (hc:IsB c) {a v:Nat} (ha:a+2≤1024) (hv:v<65536) (k:∀ H',Ext H H'→R (.agg (seB c a 2 v)) H'):Fc Tryz.prog 98 #[.agg c,zm a,.int .u16 v] H R:=by
 have hs:IsB (seB c a 2 v):=(seB_is _ _ _ hc.n).b
 refine fn98 ?_
 simp only [sh98,ZL,za,zu]
 refine (Lo.start _ H:Lx H H []).boxA fun b1 H1 _ l1=>?_
 refine l1.boxA fun b2 H2 _ l2=>?_
 refine zT.mk (fun _ H'=>Lx H H' [.box b1 (seB c a 2 v) 65,.box b2 zB 65]) ?_ ?_
 · rintro t H3 l3
   rw [l3.ldAll (i:=0) (n:=1024) rfl hs.size,za]
   exact l3.ret (i:=1) rfl zF hs.size hs.ok fun H' l'=>k H' l'.ext0
 · refine inside_ok (by omega) ?_
   rw [decide_eq_true (by omega),z8,zk,za,zJ,zw (by omega),zE,za,u8w,binE_shr (by omega),za,show (2:Int) ^ (min (8:Int).toNat IntKind.u16.bits)=((256:Nat):Int) from rfl,fdivN,zE,za,u8w,zH (by omega),za,Nat.zero_add,Nat.mul_one]
   refine l2.st (i:=0) (j:=a) (v:=.int .u8 ((v % 256:Nat):Int)) rfl (by rw [hc.size]; omega) rfl rfl fun H3 l3=>?_
   rw [zH (by omega),za,Nat.zero_add,Nat.mul_one]
   exact l3.st (i:=0) (j:=a+1) (v:=.int .u8 ((v / 256 % 256:Nat):Int)) rfl (by rw [Array.size_setIfInBounds,hc.size]; omega) rfl rfl fun H4 l4=>l4
theorem set_u32 {c:Blk} (hc:IsB c) {a v:Nat} (ha:a+4≤1024) (hv:v<4294967296) (k:∀ H',Ext H H'→R (.agg (seB c a 4 v)) H'):Fc Tryz.prog 99 #[.agg c,zm a,.int .u32 v] H R:=by
 have hs:IsB (seB c a 4 v):=(seB_is _ _ _ hc.n).b
 have hsh:∀ j,j<4→(2:Int) ^ (min ((8*j:Nat):Int).toNat IntKind.u32.bits)=((256 ^ j:Nat):Int):=fun j hj=>by
   match j,hj with
   | 0,_=>rfl
   | 1,_=>rfl
   | 2,_=>rfl
   | 3,_=>rfl
 refine fn99 ?_
 simp only [sh99,ZL,za,zu]
 refine (Lo.start _ H:Lx H H []).boxA fun b1 H1 _ l1=>?_
 refine l1.boxA fun b2 H2 _ l2=>?_
 refine zT.mk (fun _ H'=>Lx H H' [.box b1 (seB c a 4 v) 65,.box b2 zB 65]) ?_ ?_
 · rintro t H3 l3
   rw [l3.ldAll (i:=0) (n:=1024) rfl hs.size,za]
   exact l3.ret (i:=1) rfl zF hs.size hs.ok fun H' l'=>k H' l'.ext0
 · refine inside_ok (by omega) ?_
   rw [decide_eq_true (by omega),z8]
   refine zy.mk (fun t H'=>∃ (j:Nat) (cj:Blk),j≤4∧t=(zm j,())∧IsB cj∧seB cj (a+j) (4 - j) (v / 256 ^ j)=seB c a 4 v∧Lx H H' [.box b1 cj 65,.box b2 zB 65])
     (fun t _=>mi t.1 fun j=>(4 - j).toNat) ⟨0,c,by omega,rfl,hc,by rw [Nat.pow_zero,Nat.div_one]; rfl,l2⟩ ?_
   rintro _ H3 ⟨j,cj,hj,rfl,hcj,he,l3⟩
   rw [zt,za,ze]
   refine ⟨fun hlt=>?_,fun hge=>?_⟩
   · rw [zk,za,addN,zw (by omega),zZ,za,show (8:Int)*(j:Int)=((8*j:Nat):Int) by omega,zw (by omega),binE_shr (by omega),za,hsh j (by omega),fdivN,zE,za,u8w,zH (by omega),za,Nat.zero_add,Nat.mul_one]
     refine l3.st (i:=0) (j:=a+j) (v:=.int .u8 ((v / 256 ^ j % 256:Nat):Int)) rfl (by rw [hcj.size]; omega) rfl rfl fun H4 l4=>?_
     rw [zk,za,zJ,zw (by omega)]
     refine ⟨⟨j+1,_,by omega,rfl,hcj.set (a+j) (m:=v / 256 ^ j % 256) (Nat.mod_lt _ (by omega)),?_,l4⟩,by simp only [zC]; omega⟩
     rw [← he,show 4 - j=(4 - (j+1))+1 by omega,Nat.pow_succ,← Nat.div_div_eq_div_mul]
     rfl
   · have ej:j=4:=by omega
     subst ej
     have he:cj=seB c a 4 v:=he
     rw [← he]; exact l3
end
theorem seB_byt {m n:Nat}:∀ (w:Nat) (a c:Array Value) (o v:Nat),IsN m a→IsN n c→o+w≤m→o+w≤n→(∀ i,i<64→byt a i=byt c i)→∀ i,i<64→byt (seB a o w v) i=byt (seB c o w v) i
 | 0,_,_,_,_,_,_,_,_,h=>h
 | w+1,a,c,o,v,ha,hc,h1,h2,h=>by
   have hm:v % 256<256:=Nat.mod_lt _ (by omega)
   refine seB_byt w _ _ (o+1) (v / 256) (ha.set o hm) (hc.set o hm) (by omega) (by omega) fun i hi=>?_
   rw [ha.byt_set (by omega),hc.byt_set (by omega)]
   split
   · rfl
   · exact h i hi
theorem layN_byt (f:Ino):∀ n,n≤16→∀ i,i<64→byt (layN zB 0 f n) i=byt (layN (zR 64) 0 f n) i
 | 0,_,i,hi=>by
   show byt zB i=byt (zR 64) i
   have e1:zB[i]?=some (.int .u8 0):=zB_get (by omega)
   have e2:(zR 64)[i]?=some (.int .u8 0):=by rw [Array.getElem?_replicate,if_pos hi]
   unfold byt
   rw [e1,e2]
 | n+1,hn,i,hi=>by
   have hle:=fo_le (j:=n) (by omega)
   exact seB_byt (m:=1024) (n:=64) _ _ _ _ _ (Yt Zl.n 0 n) (Yt (Z3 64) 0 n) (by omega) (by omega) (layN_byt f n (by omega)) i hi
theorem lay_cut (f:Ino):(layN zB 0 f 16).extract 0 (0+64)=encN f:=by
 have hb:IsB (layN zB 0 f 16):=(Yt Zl.n 0 16).b
 have hc:=cutN_is (o:=0) hb (by omega)
 refine IsN.ext hc (ZT f) fun i hi=>?_
 have h1:=byt_cutN (o:=0) hb (by omega) hi
 rw [Nat.zero_add] at h1
 exact h1.trans (layN_byt f 16 (by omega) i hi)
theorem und10:Tryz.prog.underlying 52=some (.array 10 51):=by kernel_rfl
theorem ldK32:ldK Tryz.prog 51=some none:=by kernel_rfl
noncomputable def inf32:TypeInfo:=(Tryz.prog.info? 51).getD default
theorem inf32_e:Tryz.prog.info? 51=some inf32:=by kernel_rfl
theorem inf32_s:inf32.size=1:=by kernel_rfl
theorem idx10 {cs:Array Value} {i:Nat} (hi:i<10):idxE Tryz.prog 52 (.agg cs) (zm i)=cs[i]?:=by
 unfold idxE
 rw [und10]
 simp only [ldK32,inf32_e,inf32_s,Int.toNat_natCast,Nat.mul_one]
 rw [if_pos (by omega)]
theorem sl_pre {P:Program} {T e n:Nat} {i:TypeInfo} (hu:P.underlying T=some (.array n e)) (hi:P.info? e=some i) (hs:i.size=1) {b hi':Nat} (h2:hi'≤n) (h3:0<n):ya P T (.pointer (some ⟨b,0,none⟩)) none (some (zm hi')) none=some (.slice (some ⟨b,0,none⟩) hi' n):=by
 unfold ya
 rw [hu]
 have q1:(0:Int)≤(hi':Int)∧(hi':Int)≤(n:Int):=by omega
 simp only [ZD,hiE,Option.bind_some,Int.toNat_natCast,hi,Option.map_some]
 rw [if_pos q1]
 simp only [Option.bind_some,Option.map_some]
 rw [if_neg (by omega)]
 simp only [Addr.add_mk,Nat.zero_mul,Nat.zero_add,Nat.sub_zero]
theorem zeroBy:zD Tryz.prog 105=some (.agg (zR 64)):=by kernel_rfl
section
variable {H:Hp} {R:Value→Hp→Prop}
set_option maxHeartbeats 1000000 in
theorem node_enc {f:Ino} (hf:InoOk f) (k:∀ H',Ext H H'→R (.agg (encN f)) H'):Fc Tryz.prog 40 #[.agg (zS f)] H R:=by
 have hL:∀ n,IsB (layN zB 0 f n):=fun n=>(Yt Zl.n 0 n).b
 have hs:∀ n,layN zB 0 f (n+1)=seB (layN zB 0 f n) (0+fo n) (fw n) (f n):=fun n=>rfl
 have b2:∀ j,j<2→f j<65536:=fun j hj=>by have:=hf j (by omega); unfold fw at this; rw [if_pos hj] at this; exact this
 have b4:∀ j,2≤j→j<16→f j<4294967296:=fun j h2 h16=>by have:=hf j h16; unfold fw at this; rw [if_neg (by omega)] at this; exact this
 have s0:layN zB 0 f 1=seB (layN zB 0 f 0) 0 2 (f 0):=rfl
 have s1:layN zB 0 f 2=seB (layN zB 0 f 1) 2 2 (f 1):=rfl
 have s4:∀ j,2≤j→layN zB 0 f (j+1)=seB (layN zB 0 f j) (4*(j - 1)) 4 (f j):=fun j hj=>by
   rw [hs]; unfold fo fw; rw [if_neg (by omega),if_neg (by omega),Nat.zero_add]
 have i0:(zS f)[0]?=some (.int .u16 (f 0)):=rfl
 have i1:(zS f)[1]?=some (.int .u16 (f 1)):=rfl
 refine fn40 ?_
 simp only [sh40,ZL,Yj,zeroBy,za,zu]
 refine (Lo.start _ H:Lx H H []).boxA fun p1 H1 _ l1=>?_
 refine l1.boxA fun p2 H2 _ l2=>?_
 simp only [zg,Nat.zero_add,Nat.add_zero,za]
 rw [l2.ld (i:=0) rfl,i0,za]
 refine set_u16 (hL 0) (a:=0) (by omega) (b2 0 (by omega)) fun H3 e3=>?_
 rw [← s0]
 refine (l2.ext e3).boxA fun p3 H4 _ l4=>?_
 refine l4.stAll (i:=2) rfl zF (hL 1).size (hL 1).ok fun H5 l5=>?_
 have l5:Lx H H5 [.box p1 (zS f) 54,.box p2 (zR 64) 105,.box p3 (layN zB 0 f 1) 65]:=l5
 rw [l5.ldAll (i:=2) (n:=1024) rfl (hL 1).size,za,l5.ld (i:=0) rfl,i1,za]
 refine set_u16 (hL 1) (a:=2) (by omega) (b2 1 (by omega)) fun H6 e6=>?_
 rw [← s1]
 refine (l5.ext e6).stAll (i:=2) rfl (hL 1).size (hL 2).size (hL 2).ok fun H7 l7=>?_
 have l7:Lx H H7 [.box p1 (zS f) 54,.box p2 (zR 64) 105,.box p3 (layN zB 0 f 2) 65]:=l7
 rw [l7.ldAll (i:=2) (n:=1024) rfl (hL 2).size,za,l7.ld (i:=0) rfl,Zg f 2 (by omega) (by omega),za]
 refine set_u32 (hL 2) (a:=4) (by omega) (b4 2 (by omega) (by omega)) fun H8 e8=>?_
 rw [← s4 2 (by omega)]
 refine (l7.ext e8).stAll (i:=2) rfl (hL 2).size (hL 3).size (hL 3).ok fun H9 l9=>?_
 have l9:Lx H H9 [.box p1 (zS f) 54,.box p2 (zR 64) 105,.box p3 (layN zB 0 f 3) 65]:=l9
 rw [l9.ldAll (i:=2) (n:=1024) rfl (hL 3).size,za,l9.ld (i:=0) rfl,Zg f 3 (by omega) (by omega),za]
 refine set_u32 (hL 3) (a:=8) (by omega) (b4 3 (by omega) (by omega)) fun H10 e10=>?_
 rw [← s4 3 (by omega)]
 refine (l9.ext e10).stAll (i:=2) rfl (hL 3).size (hL 4).size (hL 4).ok fun H11 l11=>?_
 have l11:Lx H H11 [.box p1 (zS f) 54,.box p2 (zR 64) 105,.box p3 (layN zB 0 f 4) 65]:=l11
 rw [Zj (l11.at (i:=0) rfl) (show 4+10≤16 by omega),za]
 refine zy.mk (fun t H'=>∃ i:Nat,i≤10∧t=(zm i,())∧Lx H H' [.box p1 (zS f) 54,.box p2 (zR 64) 105,.box p3 (layN zB 0 f (4+i)) 65])
   (fun t _=>mi t.1 fun i=>(10 - i).toNat) ⟨0,by omega,rfl,l11⟩ ?_
 rintro _ H12 ⟨i,hi,rfl,l12⟩
 rw [zt,za,ze]
 refine ⟨fun hlt=>?_,fun hge=>?_⟩
 · rw [idx10 (by omega),Array.getElem?_extract,if_pos (by rw [zz]; omega),Zg f (4+i) (by omega) (by omega),za,l12.ldAll (i:=2) (n:=1024) rfl (hL _).size,za,zZ,za,zh (by omega) (by omega),zk,za,zh (by omega) (by omega),show (12:Int)+4*(i:Int)=((4*(4+i - 1):Nat):Int) by omega]
   refine set_u32 (hL (4+i)) (by omega) (b4 (4+i) (by omega) (by omega)) fun H13 e13=>?_
   rw [← s4 (4+i) (by omega)]
   refine (l12.ext e13).stAll (i:=2) rfl (hL _).size (hL (4+i+1)).size (hL _).ok fun H14 l14=>?_
   rw [zk,za,zJ,zw (by omega)]
   exact ⟨⟨i+1,by omega,rfl,l14⟩,by simp only [zC]; omega⟩
 · have ei:i=10:=by omega
   subst ei
   rw [l12.ldAll (i:=2) (n:=1024) rfl (hL _).size,za,l12.ld (i:=0) rfl,Zg f 14 (by omega) (by omega),za]
   refine set_u32 (hL 14) (a:=52) (by omega) (b4 14 (by omega) (by omega)) fun H15 e15=>?_
   rw [← s4 14 (by omega)]
   refine (l12.ext e15).stAll (i:=2) rfl (hL _).size (hL 15).size (hL 15).ok fun H16 l16=>?_
   have l16:Lx H H16 [.box p1 (zS f) 54,.box p2 (zR 64) 105,.box p3 (layN zB 0 f 15) 65]:=l16
   rw [l16.ldAll (i:=2) (n:=1024) rfl (hL 15).size,za,l16.ld (i:=0) rfl,Zg f 15 (by omega) (by omega),za]
   refine set_u32 (hL 15) (a:=56) (by omega) (b4 15 (by omega) (by omega)) fun H17 e17=>?_
   rw [← s4 15 (by omega)]
   refine (l16.ext e17).stAll (i:=2) rfl (hL 15).size (hL 16).size (hL 16).ok fun H18 l18=>?_
   have l18:Lx H H18 [.box p1 (zS f) 54,.box p2 (zR 64) 105,.box p3 (layN zB 0 f 16) 65]:=l18
   rw [show (some (Value.int .i64 64))=some (zm ((64:Nat):Int)) from rfl,sl_pre und1024 inf8_e inf8_s (by omega) (by omega),za,show arrE (some 64) (.slice (some ⟨p3,0,none⟩) 64 1024)=some (.pointer (some ⟨p3,0,none⟩)) from rfl,za,Zj (l18.at (i:=2) rfl) (by rw [(hL 16).size]; omega),za,lay_cut]
   exact l18.ret (i:=1) rfl (yv 64) (ZT f).size (ZT f).ok fun H' l'=>k H' l'.ext0
end
theorem copy_row {e:ZO} {b o dl c sb c' n:Nat} {cs:Array Value} {H:Hp} {K:Value × Hp→Prop} (he:e.size=1) (hr:rowH H ⟨sb,0,none⟩ n=some cs) (hn:n≤dl) (hsz:cs.size=n) (h:Pu (zj (some n) (.pointer (some ⟨b,o,none⟩)) (.agg cs) H) fun H'=>K (.int .i64 (n:Nat),H')) :
   Pu (copyE (some e) (.slice (some ⟨b,o,none⟩) dl c) (.slice (some ⟨sb,0,none⟩) n c') H) K:=by
 unfold copyE
 simp only [lenX,Option.bind_some,cellsN,he,Nat.mul_one]
 rw [Nat.min_eq_left hn,hr]
 simp only [Option.bind_some]
 unfold zj at h
 simp only [zP,hsz,if_true] at h
 cases hp:putH H ⟨b,o,none⟩ cs with
 | none=>
   rw [hp] at h
   obtain ⟨v,he2,_⟩:=h
   cases he2
 | some H'=>
   rw [hp,za] at h
   rw [Option.map_some,za]
   exact h
theorem elBy:∃ e,zK Tryz.prog 107=some e∧e.size=1:=⟨orE (zK Tryz.prog 107),by kernel_rfl,by kernel_rfl⟩
theorem sl_from {P:Program} {T e n:Nat} {i:TypeInfo} (hu:P.underlying T=some (.array n e)) (hi:P.info? e=some i) (hs:i.size=1) {b lo:Nat} (h3:lo<n):ya P T (.pointer (some ⟨b,0,none⟩)) (some (zm lo)) none none=some (.slice (some ⟨b,lo,none⟩) (n - lo) (n - lo)):=by
 unfold ya
 rw [hu]
 have q2:(0:Int)≤(lo:Int)∧(lo:Int)≤(n:Int):=by omega
 simp only [ZD,hiE,Option.bind_some,Int.toNat_natCast,hi,Option.map_some]
 rw [if_pos q2]
 simp only [Option.bind_some,Option.map_some,hs,Nat.mul_one]
 rw [if_neg (by omega)]
 simp only [Addr.add_mk,Nat.zero_add]
section
variable {H:Hp} {R:Value→Hp→Prop} {lb p:Nat} {mine:Int} {O:Nat→Prop} {B L I:Int}
set_option maxHeartbeats 1000000 in
theorem pl_rwrite {P:PSt} (h:(ZE lb p (zp B L I) mine P).at_ H O) (hok:POk (zp B L I) mine P) (hg:Zo B L I) (hop:P.open_=true) {W:List Int} (hwr:P.wrote=some W) {i:Nat} (h0:1≤i) (h1:(i:Int)≤I) (hroom:(1+L+((i / 16:Nat):Int))∈W∨(W.length:Int)<P.room) {f:Ino} (hf:InoOk f) (hslack:P.s.reads<4611686018427387903) (hord:((addL P.order (1+L+((i / 16:Nat):Int))).length:Int)≤L - 1)
   (k:∀ H' O' P',Stp O O' H H'→(ZE lb p (zp B L I) mine P').at_ H' O'→Wt (zp B L I) mine P P' (1+L+((i / 16:Nat):Int)) (z6 (Zi P.s P.cs (1+L+((i / 16:Nat):Int))) (64*(i % 16)) (encN f)) 1→R (.int .i64 0) H'):Fc Tryz.prog 12 #[zW lb,zm i,.agg (zS f)] H R:=by
 obtain ⟨gL1,gL2,gI1,gI2,gB1,gB2,gD⟩:=id hg
 have hDA:(zp B L I).dataAt=1+L+(I+16) / 16+(B+8191) / 8192:=rfl
 have hBB:(zp B L I).B=B:=rfl
 have hLL:(zp B L I).L=L:=rfl
 have x3:∀ {a b c:Value},zf (.tuple #[a,b,c]) 0=some a:=rfl
 have x4:∀ {a b c:Value},zf (.tuple #[a,b,c]) 1=some b:=rfl
 have x5:∀ {a b c:Value},zf (.tuple #[a,b,c]) 2=some c:=rfl
 have y3:∀ {a b:Value},zf (.tuple #[a,b]) 0=some a:=rfl
 have y4:∀ {a b:Value},zf (.tuple #[a,b]) 1=some b:=rfl
 refine fn12 ?_
 simp only [sh12,zeroBy,ZL,za]
 refine (Lo.own h).boxA fun b1 H1 _ l1=>?_
 have l1:Lo O H H1 [ZE lb p (zp B L I) mine P,.box b1 (zS f) 54]:=l1
 obtain ⟨O1,hl1,_⟩:=l1.call (i:=0) rfl
 refine Yn hl1 hok ?_
 rw [zx,za,decide_eq_false (by omega),zl]
 refine pl_open hl1 hok ?_
 rw [hop,zM,za,Bool.not_true,zl]
 refine pl_spot hl1 hok hg (by omega) fun H2 e2=>?_
 have l2:=l1.ext e2
 rw [x3,za,x4,za,x5,za,decide_eq_true (by omega),zM,za,Bool.not_true,zl]
 obtain ⟨O2,hl2,st2⟩:=l2.call (i:=0) rfl
 refine pl_read hl2 hok (by omega) (by rw [hBB]; omega) (by rw [hLL]; omega) fun H3 O3 s' cs' s3 hl3 hrd hnow=>?_
 have l3:Lo O H H3 [ZE lb p (zp B L I) mine { P with s:=s',cs:=cs' },.box b1 (zS f) 54]:=st2 H3 _ O3 s3 hl3
 rw [y3,za,y4,za]
 have hok':=hrd.ok hok (by omega)
 generalize hc0:Zi P.s P.cs (1+L+((i / 16:Nat):Int))=c at hnow k
 have hsp:IsB (z6 c (64*(i % 16)) (encN f)):=(yl hnow.n (ZT f) (by omega)).b
 refine l3.boxA fun b3 H4 _ l4=>?_
 refine l4.stAll (i:=2) rfl zF hnow.size hnow.ok fun H5 l5=>?_
 have l5:Lo O H H5 [ZE lb p (zp B L I) mine { P with s:=s',cs:=cs' },.box b1 (zS f) 54,.box b3 c 65]:=l5
 rw [zx,za,decide_eq_false (by omega),zl,l5.ldAll (i:=1) (n:=16) rfl (zz _),za]
 refine node_enc hf fun H6 e6=>?_
 refine (l5.ext e6).boxA fun b4 H7 _ l7=>?_
 refine l7.stAll (i:=3) rfl (yv 64) (ZT f).size (ZT f).ok fun H8 l8=>?_
 have l8:Lo O H H8 [ZE lb p (zp B L I) mine { P with s:=s',cs:=cs' },.box b1 (zS f) 54,.box b3 c 65,.box b4 (encN f) 105]:=l8
 obtain ⟨eb,eb1,eb2⟩:=elBy
 rw [sl_from und1024 inf8_e inf8_s (by omega),za,sl_all und64 inf8_e inf8_s (by omega),za,eb1]
 have hrow:rowH H8 ⟨b4,0,none⟩ 64=some (encN f):=by
   unfold rowH
   simp only [l8.at (i:=3) rfl]
   rw [if_pos ⟨trivial,by rw [(ZT f).size]; omega⟩,Y0 (ZT f).size]
 refine copy_row eb2 hrow (by omega) (ZT f).size ?_
 refine l8.stRow (i:=2) (j:=64*(i % 16)) rfl (by rw [hnow.size]; omega) (ZT f).size (ZT f).ok fun H9 l9=>?_
 have l9:Lo O H H9 [ZE lb p (zp B L I) mine { P with s:=s',cs:=cs' },.box b1 (zS f) 54,.box b3 (z6 c (64*(i % 16)) (encN f)) 65,.box b4 (encN f) 105]:=l9
 simp only []
 rw [l9.ldAll (i:=2) (n:=1024) rfl hsp.size,za]
 obtain ⟨O9,hl9,st9⟩:=l9.call (i:=0) rfl
 refine pl_write hl9 hok' hop hwr (by rw [hLL]; omega) (by rw [hBB]; omega) hroom hsp hord fun H10 O10 P' s10 h10 hw=>?_
 have l10:=st9 H10 _ O10 s10 h10
 obtain ⟨O',st,ha⟩:=Lo.close1 l10
 exact k H10 O' P' st ha (hrd.wt hw (by omega))
end
section
variable {S:Nat→Prop} {H0 H:Hp} {l:List Ob}
theorem Lo.unpack {r:List Ob} (h:Lo S H0 H (l++[.all r])):Lo S H0 H (l++r):=by
 obtain ⟨k,col,w,hc⟩:=h
 have hx:(l++[Ob.all r])[l.length]?=some (.all r):=by simp
 obtain ⟨⟨cr,wr,hr⟩,hO⟩:=w.get hx
 have hr:∀ b,cr b≠0→col b=l.length+1:=hr
 refine ⟨k,fun b=>if cr b≠0 then l.length+cr b else if col b≤l.length then col b else 0,⟨fun i x hx=>?_,fun b hb=>?_⟩,fun b hb hn=>hc b hb fun e=>hn ?_⟩
 · by_cases hi:i<l.length
   · have hx':(l++[Ob.all r])[i]?=some x:=by rw [List.getElem?_append_left hi]; rw [List.getElem?_append_left hi] at hx; exact hx
     have ho:=w.get hx'
     refine x.frame ho (fun _ _=>rfl) (Nat.le_refl _) (fun b hb=>?_) fun b hb=>?_
     · have hb:col b=i+1:=hb
       show (if cr b≠0 then l.length+cr b else if col b≤l.length then col b else 0)=i+1
       rw [if_neg (fun e=>by have:=hr b e; omega),if_pos (by omega)]; exact hb
     · have hb:(if cr b≠0 then l.length+cr b else if col b≤l.length then col b else 0)=i+1:=hb
       rcases Nat.lt_or_ge b H.size with h1 | h1
       · exact h1
       · rw [wr.out b h1,w.out b h1] at hb; simp at hb
   · rw [List.getElem?_append_right (by omega)] at hx
     have ho:=wr.get hx
     refine x.frame ho (fun _ _=>rfl) (Nat.le_refl _) (fun b hb=>?_) fun b hb=>?_
     · have hb:cr b=i - l.length+1:=hb
       show (if cr b≠0 then l.length+cr b else if col b≤l.length then col b else 0)=i+1
       rw [if_pos (by omega)]; omega
     · have hb:(if cr b≠0 then l.length+cr b else if col b≤l.length then col b else 0)=i+1:=hb
       rcases Nat.lt_or_ge b H.size with h1 | h1
       · exact h1
       · rw [wr.out b h1,w.out b h1] at hb; simp at hb
 · show (if cr b≠0 then l.length+cr b else if col b≤l.length then col b else 0)=0
   rw [wr.out b hb,w.out b hb]; simp
 · have hz:cr b=0:=by
     by_cases hz:cr b=0
     · exact hz
     · have:=hr b hz; omega
   simp [hz,e]
end
theorem CallV.mono {P:Program} {y:Value} {args:Array Value} {H:Hp} {K K':Value→Hp→Prop} (h:CallV P y args H K) (hk:∀ v H',K v H'→K' v H'):CallV P y args H K':=by
 unfold CallV at h ⊢
 split at h
 · exact ⟨h.1,h.2.mono hk⟩
 · unfold Yld at h ⊢
   split at h
   · exact ⟨h.1,h.2.mono hk⟩
   · exact h.elim
 · exact h.elim
noncomputable def ndP (P:PSt) (L:Int) (i:Nat):Ino:=Zq (Zi P.s P.cs (1+L+((i / 16:Nat):Int))) (64*(i % 16))
def wk (I:Int) (n:Nat):Nat:=max 1 (min n (I.toNat+1))
theorem ms_lt {n:Nat} {c:Int} (h:(n:Int)<c):(c - ((n+1:Nat):Int)).toNat<(c - (n:Int)).toNat:=by omega
theorem enterRd:enterB Tryz.prog 18=true:=by kernel_rfl
section
variable {S:Nat→Prop} {H0 H:Hp} {R:Value→Hp→Prop} {lb p:Nat} {mine:Int} {B L I:Int} {r:List Ob}
set_option maxHeartbeats 1000000 in
set_option maxRecDepth 100000 in
theorem walk_ok {X:Nat→Ob} {go:Nat→Bool} {av:Value} {P:PSt} (l:Lo S H0 H ([ZE lb p (zp B L I) mine P,X 1]++r)) (hok:POk (zp B L I) mine P) (hg:Zo B L I) (hslack:P.s.reads+5000<4611686018427387904)
   (hask:∀ (H:Hp) (O:Nat→Prop) (j:Nat),1≤j→(j:Int)≤I→(X j).at_ H O→CallV Tryz.prog av #[zm j,.agg (zS (ndP P L j))] H fun v H'=>v=.bool (go j)∧∃ O',Stp O O' H H'∧(X (j+1)).at_ H' O')
   (k:∀ H' s' cs' m,Lo S H0 H' ([ZE lb p (zp B L I) mine { P with s:=s',cs:=cs' },X m]++r)→Rd (zp B L I) P s' cs' 4097→1≤m→(m:Int)≤I+1→(∀ j,1≤j→j+1<m→go j=true)→((m:Int)=I+1∧(∀ j,1≤j→j<m→go j=true)∨2≤m∧go (m - 1)=false)→R (.int .i64 0) H') :
   Fc Tryz.prog 42 #[zW lb,.func (.func 18) #[zW lb] #[],av] H R:=by
 obtain ⟨gL1,gL2,gI1,gI2,gB1,gB2,gD⟩:=id hg
 have hDA:(zp B L I).dataAt=1+L+(I+16) / 16+(B+8191) / 8192:=rfl
 have hBB:(zp B L I).B=B:=rfl
 have hLL:(zp B L I).L=L:=rfl
 have c5:(zp B L I).cells[5]?=some (zm ((I+16) / 16)):=rfl
 have c4:(zp B L I).cells[4]?=some (zm (1+L)):=rfl
 have c2:(zp B L I).cells[2]?=some (zm I):=rfl
 have y3:∀ {a b:Value},zf (.tuple #[a,b]) 0=some a:=rfl
 have y4:∀ {a b:Value},zf (.tuple #[a,b]) 1=some b:=rfl
 have l:=Lo.pack (l:=[ZE lb p (zp B L I) mine P,X 1]) l
 refine fn42 ?_
 simp only [sh42,yj,ZL,za,zu]
 obtain ⟨O1,h1,st1⟩:=l.call (i:=0) rfl
 refine pl_layout h1 hok fun H1 e1=>?_
 refine (l.ext e1).boxA fun b1 H2 _ l2=>?_
 refine l2.stAll (i:=3) rfl rfl (Lay.size _) (Lay.cok _) fun H3 l3=>?_
 have l3:Lo S H0 H3 [ZE lb p (zp B L I) mine P,X 1,.all r,.box b1 (zp B L I).cells 62]:=l3
 simp only [zg,Nat.zero_add,Nat.add_zero,za]
 rw [l3.ld (i:=3) rfl,c5,za]
 refine zy.mk (fun t H'=>∃ (n:Nat) (s':DS) (cs':List Pl),(n:Int)≤(I+16) / 16∧t=(zm n,())∧Rd (zp B L I) P s' cs' n∧(∀ j,1≤j→j<wk I (16*n)→go j=true)∧Lo S H0 H' [ZE lb p (zp B L I) mine { P with s:=s',cs:=cs' },X (wk I (16*n)),.all r,.box b1 (zp B L I).cells 62])
   (fun t _=>mi t.1 fun i=>(5000 - i).toNat) ⟨0,P.s,P.cs,by omega,rfl,Rd.refl hok,fun j h1 h2=>by unfold wk at h2; omega,l3⟩ ?_
 rintro _ H4 ⟨n,s',cs',hn,rfl,hrd,hgo,l4⟩
 rw [zt,za,ze]
 refine ⟨fun hlt=>?_,fun hge=>?_⟩
 rotate_left
 · have en:wk I (16*n)=I.toNat+1:=by unfold wk; omega
   rw [en] at hgo l4
   have l5:=Lo.unpack (l:=[ZE lb p (zp B L I) mine { P with s:=s',cs:=cs' },X (I.toNat+1)]) (r:=r) (l4.takeN 3)
   exact k H4 s' cs' (I.toNat+1) l5 (hrd.mono (by omega)) (by omega) (by omega) (fun j h1 h2=>hgo j h1 (by omega)) (.inl ⟨by omega,hgo⟩)
 have hok':=hrd.ok hok (by omega)
 rw [l4.ld (i:=3) rfl,c4,za,zk,za,zh (by omega) (by omega)]
 obtain ⟨O4,h4,st4⟩:=l4.call (i:=0) rfl
 refine ⟨enterRd,?_⟩
 refine pl_read h4 hok' (by omega) (by rw [hBB]; omega) (by rw [hLL]; omega) fun H5 O5 s2 cs2 s5 h5 hrd2 hib=>?_
 have l5:=st4 H5 _ O5 s5 h5
 have l5:Lo S H0 H5 [ZE lb p (zp B L I) mine { P with s:=s2,cs:=cs2 },X (wk I (16*n)),.all r,.box b1 (zp B L I).cells 62]:=l5
 have hrd3:=hrd.trans hrd2 (k:=((n+1:Nat):Int)) (by omega)
 have ev:Zi s' cs' (1+L+(n:Int))=Zi P.s P.cs (1+L+(n:Int)):=hrd.view _
 rw [y3,za,y4,za,show Zi ({ P with s:=s',cs:=cs' }:PSt).s ({ P with s:=s',cs:=cs' }:PSt).cs (1+L+(n:Int))=Zi P.s P.cs (1+L+(n:Int)) from ev]
 have hib:IsB (Zi P.s P.cs (1+L+(n:Int))):=ev ▸ hib
 generalize hc:Zi P.s P.cs (1+L+(n:Int))=c at hib
 refine l5.boxA fun b2 H6 _ l6=>?_
 refine l6.stAll (i:=4) rfl zF hib.size hib.ok fun H7 l7=>?_
 have l7:Lo S H0 H7 [ZE lb p (zp B L I) mine { P with s:=s2,cs:=cs2 },X (wk I (16*n)),.all r,.box b1 (zp B L I).cells 62,.box b2 c 65]:=l7
 rw [zx,za,decide_eq_false (by omega),zl]
 refine zy.mk (fun t H'=>∃ i:Nat,i≤16∧t=(zm i,())∧(∀ j,1≤j→j<wk I (16*n+i)→go j=true)∧Lo S H0 H' [ZE lb p (zp B L I) mine { P with s:=s2,cs:=cs2 },X (wk I (16*n+i)),.all r,.box b1 (zp B L I).cells 62,.box b2 c 65])
   (fun t _=>mi t.1 fun i=>(16 - i).toNat) ⟨0,by omega,rfl,by rw [Nat.add_zero]; exact hgo,by rw [Nat.add_zero]; exact l7⟩ ?_
 rintro _ H8 ⟨i,hi,rfl,hgo8,l8⟩
 rw [zt,za,ze]
 refine ⟨fun hlt8=>?_,fun hge8=>?_⟩
 rotate_left
 · have ei:i=16:=by omega
   subst ei
   rw [zk,za,zJ,zw (by omega)]
   have hms:=ms_lt (n:=n) (c:=5000) (by omega)
   have e16:16*(n+1)=16*n+16:=by omega
   have l9:=l8.takeN 4
   generalize 16*n+16=q at e16 hgo8 l9
   subst e16
   exact ⟨⟨n+1,s2,cs2,by omega,rfl,hrd3,hgo8,l9⟩,by simp only [zC]; exact hms⟩
 rw [zZ,za,zh (by omega) (by omega),zk,za,zh (by omega) (by omega),show (n:Int)*16+(i:Int)=((16*n+i:Nat):Int) by omega]
 have hnext:∀ {K:Prop},(K→Pu (some (zm ((i+1:Nat):Int))) fun x=>K):=fun {K} h=>by rw [za]; exact h
 refine zT.mk (fun t H'=>H'=H8∧t.1=.bool (decide (¬ (1≤16*n+i∧((16*n+i:Nat):Int)≤I)))) ?_ ?_
 rotate_left
 · rw [zt,za,ze]
   refine ⟨fun h=>⟨rfl,?_⟩,fun h=>?_⟩
   · rw [decide_eq_true (by omega)]
   · rw [l8.ld (i:=3) rfl,c2,za,zN,za]
     refine ⟨rfl,?_⟩
     rw [dec_dec (q:=¬ (1≤16*n+i∧((16*n+i:Nat):Int)≤I)) ⟨fun e e2=>by omega,fun e=>by omega⟩]
 rintro ⟨t,u⟩ H9 ⟨rfl,ht⟩
 simp only at ht
 subst ht
 rw [ze]
 refine ⟨fun hno=>?_,fun hyes=>?_⟩
 · rw [zk,za,zJ,zw (by omega)]
   have e:wk I (16*n+(i+1))=wk I (16*n+i):=by unfold wk; omega
   exact ⟨⟨i+1,by omega,rfl,by rw [e]; exact hgo8,by rw [e]; exact l8⟩,by simp only [zC]; omega⟩
 have hyes:1≤16*n+i∧((16*n+i:Nat):Int)≤I:=Classical.not_not.1 hyes
 have e8:wk I (16*n+i)=16*n+i:=by unfold wk; omega
 rw [e8] at hgo8 l8
 rw [zZ,za,zh (by omega) (by omega),show (i:Int)*64=((64*i:Nat):Int) by omega,zk,za,zJ,zw (by omega),zZ,za,zh (by omega) (by omega),show ((i+1:Nat):Int)*64=((64*i+64:Nat):Int) by omega,sl_arr und1024 inf8_e inf8_s (by omega) (by omega) (by omega),za,show 64*i+64 - 64*i=64 by omega,show arrE (some 64) (.slice (some ⟨b2,64*i,none⟩) 64 (1024 - 64*i))=some (.pointer (some ⟨b2,64*i,none⟩)) from rfl,za,Zj (l8.at (i:=4) rfl) (by rw [hib.size]; omega),za]
 refine node_dec (cutN_is hib (by omega)) fun H10 e10=>?_
 have e:zS (Zq (c.extract (64*i) (64*i+64)) 0)=zS (ndP P L (16*n+i)):=yb fun j hj=>by
   unfold ndP
   rw [show (16*n+i) / 16=n by omega,show (16*n+i) % 16=i by omega,hc]
   exact inoOf_cutN hib (by omega) hj
 rw [e]
 have l10:=l8.ext e10
 obtain ⟨O10,h10,st10⟩:=l10.call (i:=1) rfl
 refine CallV.mono (hask H10 O10 (16*n+i) hyes.1 hyes.2 h10) fun v H11 ⟨hv,O11,s11,h11⟩=>?_
 subst hv
 have l11:=st10 H11 _ O11 s11 h11
 have l11:Lo S H0 H11 [ZE lb p (zp B L I) mine { P with s:=s2,cs:=cs2 },X (16*n+i+1),.all r,.box b1 (zp B L I).cells 62,.box b2 c 65]:=l11
 rw [zM,za]
 cases hgv:go (16*n+i) with
 | true=>
   rw [Bool.not_true,zl,za]
   have e:wk I (16*n+(i+1))=16*n+i+1:=by unfold wk; omega
   refine ⟨⟨i+1,by omega,rfl,fun j h1 h2=>?_,by rw [e]; exact l11⟩,by simp only [zC]; omega⟩
   rw [e] at h2
   by_cases ej:j=16*n+i
   · rw [ej]; exact hgv
   · exact hgo8 j h1 (by omega)
 | false=>
   rw [Bool.not_false,z8]
   have l5:=Lo.unpack (l:=[ZE lb p (zp B L I) mine { P with s:=s2,cs:=cs2 },X (16*n+i+1)]) (r:=r) (l11.takeN 3)
   exact k H11 s2 cs2 (16*n+i+1) l5 (hrd3.mono (by omega)) (by omega) (by omega) (fun j h1 h2=>hgo8 j h1 (by omega)) (.inr ⟨by omega,hgv⟩)
end
def frN (f:Nat→Ino):Nat→Nat
 | 0=>0
 | n+1=>frN f n+if f (n+1) 0=0 then 1 else 0
def orN (f:Nat→Ino):Nat→List Int
 | 0=>[]
 | n+1=>orN f n++if f (n+1) 0≠0∧f (n+1) 1=0 then [((n+1:Nat):Int)] else []
theorem frN_le (f:Nat→Ino):∀ n,frN f n≤n
 | 0=>Nat.le_refl 0
 | n+1=>by have:=frN_le f n; unfold frN; split <;> omega
theorem orN_len (f:Nat→Ino):∀ n,(orN f n).length≤n
 | 0=>Nat.le_refl 0
 | n+1=>by
   have:=orN_len f n; unfold orN
   split <;> simp only [List.length_append,List.length_cons,List.length_nil] <;> omega
def orOb (p:Nat) (l:List Int):Ob:=
 ⟨fun H O=>∃ s,(Ob.all [.box p #[s] 29,.sl 3 1 s (l.map nI)]).at_ H O,
  fun ⟨_,h⟩=>Ob.own _ h,fun ⟨s,h⟩ hb hs ho hl=>⟨s,Ob.frame _ h hb hs ho hl⟩⟩
theorem zeroIn:zD Tryz.prog 3=some (.int .i64 0):=by kernel_rfl
theorem zeroIns:zD Tryz.prog 29=some (.slice none 0 0):=by kernel_rfl
theorem enterSp:enterB Tryz.prog 43=true:=by kernel_rfl
theorem enterOr:enterB Tryz.prog 44=true:=by kernel_rfl
section
variable {H:Hp} {R:Value→Hp→Prop} {lb p:Nat} {mine:Int} {O:Nat→Prop} {B L I:Int}
theorem spare1 {f:Ino} {i b:Nat} {c:Int} (h:(Ob.box b #[zm c] 3).at_ H O) (hc:0≤c∧c≤70000) (k:∀ H' O',Stp O O' H H'→(Ob.box b #[zm (c+if f 0=0 then 1 else 0)] 3).at_ H' O'→R (.bool true) H'):Fc Tryz.prog 43 #[zm i,.agg (zS f),zW b] H R:=by
 have i0:(zS f)[0]?=some (.int .u16 (f 0)):=rfl
 refine fn43 ?_
 simp only [sh43]
 refine (Lo.own h).boxA fun b1 H1 _ l1=>?_
 have l1:Lo O H H1 [.box b #[zm c] 3,.box b1 (zS f) 54]:=l1
 simp only [zg,Nat.zero_add,Nat.add_zero,za]
 rw [l1.ld (i:=1) rfl,i0,za,zA,za,ze]
 refine ⟨fun h0=>?_,fun h0=>?_⟩
 · rw [l1.ld (i:=0) rfl,show (#[zm c]:Array Value)[0]?=some (zm c) from rfl,za,zk,za,zh (by omega) (by omega)]
   refine l1.st (i:=0) (j:=0) (v:=zm (c+1)) rfl (by simp) rfl rfl fun H2 l2=>?_
   obtain ⟨O',st,h'⟩:=Lo.close1 (x:=.box b #[zm (c+1)] 3) (r:=[_]) l2
   have:=k H2 O' st
   rw [if_pos (by omega)] at this
   exact this h'
 · obtain ⟨O',st,h'⟩:=Lo.close1 l1
   have:=k H1 O' st
   rw [if_neg (by omega),Int.add_zero] at this
   exact this h'
theorem orphan1 {f:Ino} {i b:Nat} {ls:List Int} (h:(orOb b ls).at_ H O) (hlen:ls.length<1000000) (k:∀ H' O',Stp O O' H H'→(orOb b (ls++if f 0≠0∧f 1=0 then [(i:Int)] else [])).at_ H' O'→R (.bool true) H'):Fc Tryz.prog 44 #[zm i,.agg (zS f),zW b] H R:=by
 have i0:(zS f)[0]?=some (.int .u16 (f 0)):=rfl
 have i1:(zS f)[1]?=some (.int .u16 (f 1)):=rfl
 obtain ⟨s,ha⟩:=h
 refine fn44 ?_
 simp only [sh44,zu]
 refine (Lo.open ha).boxA fun b1 H1 _ l1=>?_
 have l1:Lo O H H1 [.box b #[s] 29,.sl 3 1 s (ls.map nI),.box b1 (zS f) 54]:=l1
 simp only [zg,Nat.zero_add,Nat.add_zero,za]
 refine zT.mk (fun t H'=>H'=H1∧t.1=.bool (decide (f 0≠0∧f 1=0))) ?_ ?_
 · rintro ⟨t,u⟩ H2 ⟨rfl,ht⟩
   simp only at ht
   subst ht
   rw [ze]
   refine ⟨fun h0=>?_,fun h0=>?_⟩
   · rw [l1.ld (i:=0) rfl,show (#[s]:Array Value)[0]?=some s from rfl,za]
     refine l1.appO elIn eIn_f (i:=1) (c:=nI i) rfl rfl (by omega) (by omega) rfl (by unfold zG; rw [← Array.all_toList]; rfl) (by rw [List.length_map]; omega) fun s' H3 l3=>?_
     have hone:=(l3.sv (i:=1) rfl).one
     refine l3.st (i:=0) (j:=0) (v:=s') rfl (by simp) hone.2 hone.1 fun H4 l4=>?_
     have l4:Lo O H H4 ([.box b #[s'] 29,.sl 3 1 s' ((ls++[(i:Int)]).map nI)]++[.box b1 (zS f) 54]):=by rw [List.map_append]; exact l4
     obtain ⟨O',st,h'⟩:=Lo.close l4
     have:=k H4 O' st
     rw [if_pos h0] at this
     exact this ⟨s',h'⟩
   · have l1:Lo O H H2 ([.box b #[s] 29,.sl 3 1 s (ls.map nI)]++[.box b1 (zS f) 54]):=l1
     obtain ⟨O',st,h'⟩:=Lo.close l1
     have:=k H2 O' st
     rw [if_neg h0,List.append_nil] at this
     exact this ⟨s,h'⟩
 · rw [l1.ld (i:=2) rfl,i0,za,zx,za,ze]
   refine ⟨fun h0=>?_,fun h0=>?_⟩
   · rw [l1.ld (i:=2) rfl,i1,za,zA,za]
     refine ⟨rfl,?_⟩
     rw [dec_dec (q:=f 0≠0∧f 1=0) ⟨fun e=>⟨by omega,by omega⟩,fun e=>by omega⟩]
   · refine ⟨rfl,?_⟩
     rw [decide_eq_false (fun e=>e.1 (by omega))]
theorem nd_view {P:PSt} {s':DS} {cs':List Pl} {x:Lay} {m:Int} (h:Rd x P s' cs' m) (i:Nat):ndP { P with s:=s',cs:=cs' } L i=ndP P L i:=by
 unfold ndP
 rw [show Zi ({ P with s:=s',cs:=cs' }:PSt).s ({ P with s:=s',cs:=cs' }:PSt).cs _=Zi P.s P.cs _ from h.view _]
set_option maxHeartbeats 1000000 in
theorem spare_ok {P:PSt} (h:(ZE lb p (zp B L I) mine P).at_ H O) (hok:POk (zp B L I) mine P) (hg:Zo B L I) (hslack:P.s.reads+5000<4611686018427387904)
   (k:∀ H' O' s' cs',Stp O O' H H'→(ZE lb p (zp B L I) mine { P with s:=s',cs:=cs' }).at_ H' O'→Rd (zp B L I) P s' cs' 4097→R (.tuple #[zm (frN (ndP P L) I.toNat),.int .i64 0]) H'):Fc Tryz.prog 14 #[zW lb] H R:=by
 obtain ⟨gL1,gL2,gI1,gI2,gB1,gB2,gD⟩:=id hg
 refine fn14 ?_
 simp only [sh14,zeroIn,za]
 refine Yn h hok ?_
 rw [zx,za,decide_eq_false (by omega),zl]
 refine (Lo.own h).box fun b H1 _ l1=>?_
 refine l1.st (i:=1) (j:=0) (v:=.int .i64 0) rfl (show 0<1 by omega) rfl rfl fun H2 l2=>?_
 refine walk_ok (X:=fun j=>.box b #[zm ((frN (ndP P L) (j - 1):Nat):Int)] 3) (go:=fun _=>true) (r:=[]) l2 hok hg hslack (fun H3 O3 j h1 h2 hx=>?_) fun H3 s' cs' m l3 hrd h1 h2 _ hend=>?_
 · refine ⟨enterSp,?_⟩
   have:=frN_le (ndP P L) (j - 1)
   refine spare1 hx (by omega) fun H4 O4 s4 h4=>⟨rfl,O4,s4,?_⟩
   obtain ⟨j,rfl⟩:∃ q,j=q+1:=⟨j - 1,by omega⟩
   have e:((frN (ndP P L) j:Nat):Int)+(if ndP P L (j+1) 0=0 then 1 else 0)=((frN (ndP P L) (j+1):Nat):Int):=by
     rw [show frN (ndP P L) (j+1)=frN (ndP P L) j+if ndP P L (j+1) 0=0 then 1 else 0 from rfl]
     split <;> omega
   rw [Nat.add_sub_cancel,e] at h4
   rw [Nat.add_sub_cancel]
   exact h4
 · have em:m=I.toNat+1:=by
     rcases hend with ⟨e,_⟩ | ⟨_,e⟩
     · omega
     · cases e
   subst em
   have l3:Lo O H H3 [ZE lb p (zp B L I) mine { P with s:=s',cs:=cs' },.box b #[zm ((frN (ndP P L) I.toNat:Nat):Int)] 3]:=l3
   rw [zx,za,decide_eq_false (by omega),zl,l3.ld (i:=1) rfl,show (#[zm ((frN (ndP P L) I.toNat:Nat):Int)]:Array Value)[0]?=some (zm ((frN (ndP P L) I.toNat:Nat):Int)) from rfl,za]
   obtain ⟨O',st,h'⟩:=Lo.close1 l3
   exact k H3 O' s' cs' st h' hrd
set_option maxHeartbeats 1000000 in
theorem orphans_ok {P:PSt} (h:(ZE lb p (zp B L I) mine P).at_ H O) (hok:POk (zp B L I) mine P) (hg:Zo B L I) (hslack:P.s.reads+5000<4611686018427387904)
   (k:∀ H' s' cs' v,Lo O H H' [ZE lb p (zp B L I) mine { P with s:=s',cs:=cs' },.sl 3 1 v ((orN (ndP P L) I.toNat).map nI)]→Rd (zp B L I) P s' cs' 4097→R (.tuple #[v,.int .i64 0]) H'):Fc Tryz.prog 15 #[zW lb] H R:=by
 obtain ⟨gL1,gL2,gI1,gI2,gB1,gB2,gD⟩:=id hg
 refine fn15 ?_
 simp only [sh15,zeroIns,za]
 refine Yn h hok ?_
 rw [zx,za,decide_eq_false (by omega),zl]
 refine (Lo.own h).box fun b H1 _ l1=>?_
 have l2:Lo O H H1 ([ZE lb p (zp B L I) mine P]++[.box b #[.slice none 0 0] 29,.sl 3 1 (.slice none 0 0) (([]:List Int).map nI)]):=l1.nilS 3 1
 have l2:Lo O H H1 ([ZE lb p (zp B L I) mine P,orOb b []]++[]):=(Lo.pack l2).nth (i:=1) rfl fun O' ho=>⟨_,ho⟩
 refine walk_ok (X:=fun j=>orOb b (orN (ndP P L) (j - 1))) (go:=fun _=>true) (r:=[]) l2 hok hg hslack (fun H3 O3 j h1 h2 hx=>?_) fun H3 s' cs' m l3 hrd h1 h2 _ hend=>?_
 · refine ⟨enterOr,?_⟩
   obtain ⟨j,rfl⟩:∃ q,j=q+1:=⟨j - 1,by omega⟩
   simp only [Nat.add_sub_cancel] at hx ⊢
   have:=orN_len (ndP P L) j
   refine orphan1 hx (by omega) fun H4 O4 s4 h4=>⟨rfl,O4,s4,h4⟩
 · have em:m=I.toNat+1:=by
     rcases hend with ⟨e,_⟩ | ⟨_,e⟩
     · omega
     · cases e
   subst em
   have l3:Lo O H H3 [ZE lb p (zp B L I) mine { P with s:=s',cs:=cs' },orOb b (orN (ndP P L) I.toNat)]:=l3
   obtain ⟨O3,⟨s,ha⟩,st3⟩:=l3.call (i:=1) rfl
   have l4:=Lo.open ha
   rw [zx,za,decide_eq_false (by omega),zl,l4.ld (i:=0) rfl,show (#[s]:Array Value)[0]?=some s from rfl,za]
   obtain ⟨O4,s4,h4⟩:=Lo.close1 (x:=.sl 3 1 s ((orN (ndP P L) I.toNat).map nI)) (r:=[]) (l4.pick [1] (by decide) (by simp))
   have l5:Lo O H H3 [ZE lb p (zp B L I) mine { P with s:=s',cs:=cs' },.sl 3 1 s ((orN (ndP P L) I.toNat).map nI)]:=st3 H3 _ O4 s4 h4
   exact k H3 s' cs' s l5 hrd
end
end Go.Vc
