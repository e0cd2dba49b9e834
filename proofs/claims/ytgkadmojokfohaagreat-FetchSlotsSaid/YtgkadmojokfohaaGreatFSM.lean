/- Parts of a proof, joined in build order: a calculus of contracts, contracts of functions. -/
import Derived.Test.YtgkadmojokfohaaGreatFSL
import Derived.Test.YtgkadmojokfohaaGreatFSI
import Derived.SizedLaws
import Derived.OpenShut
set_option linter.unusedVariables false
set_option linter.unusedSimpArgs false
namespace Go.Vc
open Go.Proofs
theorem list_of {α:Type} {f:α→Array Value} {Q:α→Prop}:∀ {vs:List (Array Value)},(∀ v∈vs,∃ a,v=f a∧Q a)→∃ l:List α,vs=l.map f∧∀ a∈l,Q a
 | [],_=>⟨[],rfl,fun a h=>by cases h⟩
 | v :: vs,h=>by
   obtain ⟨a,h1,h2⟩:=h v List.mem_cons_self
   obtain ⟨l,h3,h4⟩:=list_of fun w hw=>h w (List.mem_cons_of_mem _ hw)
   refine ⟨a :: l,by rw [h1,h3]; rfl,fun b hb=>?_⟩
   rcases List.mem_cons.1 hb with rfl | hb
   · exact h2
   · exact h4 b hb
def fieldsD:Option TypeDesc→Array Field
 | some (.struct fs)=>fs
 | _=>#[]
theorem zY {K:Type} {enc:TypeId × Value→K} {P:Program} {w:World} {sp:Nat→Bool} {hd:Bool} {m i o:Nat} {t:TypeId} {fs:Array Field} {cs:List Value} {xs:List (DataW K × List MemPlace)} (hl:xs.length=fs.size)
   (h:∀ (i:Nat) (f:Field),fs[i]?=some f→DataW.trod enc P w 0 sp hd m f.type ((cs.drop f.offset).take (P.cellsOf f.type))=xs[i]?) (hf:(fs[i]?).map (fun f=>(f.type,f.offset))=some (t,o)):∃ x,DataW.trod enc P w 0 sp hd m t ((cs.drop o).take (P.cellsOf t))=some x∧xs[i]?=some x∧(fs.toList.map (·.type))[i]?=some t:=by
 cases hq:fs[i]? with
 | none=>rw [hq] at hf; cases hf
 | some f=>
   rw [hq] at hf
   simp only [Option.map_some,Option.some.injEq,Prod.mk.injEq] at hf
   obtain ⟨rfl,rfl⟩:=hf
   have hlt:i<xs.length:=by
     rw [hl]
     exact (Array.getElem?_eq_some_iff.1 hq).1
   have:=h i f hq
   rw [List.getElem?_eq_getElem hlt] at this ⊢
   refine ⟨_,this,rfl,?_⟩
   rw [List.getElem?_map,Array.getElem?_toList,hq]; rfl
theorem wf_k {k:IntKind} {n:Int} (h:(Lit.int k n).wf=true):k.min≤n∧n≤k.max:=by
 have h10:(decide (k.min≤n∧n≤k.max))=true:=by simpa [Lit.wf,IntKind.has] using h
 exact of_decide_eq_true h10
theorem wf_i64 {n:Int} (h:(Lit.int .i64 n).wf=true) : -9223372036854775808≤n∧n≤9223372036854775807:=by
 have:=wf_k h
 rw [min_i64,max_i64] at this
 exact this
theorem wf_u8 {n:Int} (h:(Lit.int .u8 n).wf=true):0≤n∧n<256:=by
 have:=wf_k h
 rw [min_u8,max_u8] at this
 omega
theorem min_u16:IntKind.u16.min=0:=by decide
theorem max_u16:IntKind.u16.max=65535:=by decide
theorem wf_u16 {n:Int} (h:(Lit.int .u16 n).wf=true):0≤n∧n<65536:=by
 have:=wf_k h
 rw [min_u16,max_u16] at this
 omega
section
variable {K:Type} {enc:TypeId × Value→K} {w:World} {sp:Nat→Bool} {hd:Bool} {m:Nat}
theorem wt_part {P:Program} {t:TypeId} {fs:Array Field} (hu:P.underlying t=some (.struct fs)) {parts:List (DataW K)} {i:Nat} {x:DataW K} {u:TypeId} (hx:parts[i]?=some x) (ht:(fs.toList.map (·.type))[i]?=some u) {c:Nat} (h:∀ n∈(DataW.agg parts).weights P t,n≤c):∀ n∈x.weights P u,n≤c:=fun n hn=>by
 refine h n ?_
 simp only [DataW.weights,hu]
 exact DataW.weights_mem_each ht hx n hn
theorem wt_all {P:Program} {e:TypeId} {n:Nat}:∀ {l:List (DataW K)} {x:DataW K},x∈l→n∈x.weights P e→n∈DataW.weightsAll P e l
 | y :: l,x,hx,hn=>by
   simp only [DataW.weightsAll,List.mem_append]
   rcases List.mem_cons.1 hx with e | e
   · exact .inl (e ▸ hn)
   · exact .inr (wt_all e hn)
theorem wt_elem {P:Program} {t e:TypeId} (hu:P.underlying t=some (.slice e)) {elems spare:List (DataW K)} {x:DataW K} (hx:x∈elems) {c:Nat} (h:∀ n∈(DataW.slice elems spare).weights P t,n≤c):∀ n∈x.weights P e,n≤c:=fun n hn=>by
 refine h n ?_
 simp only [DataW.weights,hu,List.mem_cons,List.mem_append]
 exact .inr (.inl (wt_all hx hn))
theorem wt_len {P:Program} {t e:TypeId} (hu:P.underlying t=some (.slice e)) {elems spare:List (DataW K)} {c:Nat} (h:∀ n∈(DataW.slice elems spare).weights P t,n≤c):(elems.length+spare.length)*P.bytesOf e≤c:=by
 refine h _ ?_
 simp only [DataW.weights,hu,List.mem_cons]
 exact .inl trivial
theorem YH:Tryz.prog.underlying 3=some (.int .i64):=by kernel_rfl
theorem wuU8:Tryz.prog.underlying 5=some (.int .u8):=by kernel_rfl
theorem wuU16:Tryz.prog.underlying 35=some (.int .u16):=by kernel_rfl
theorem wuKind:Tryz.prog.underlying 36=some (.int .u16):=by kernel_rfl
theorem wuStr:Tryz.prog.underlying 9=some .string:=by kernel_rfl
theorem wcInt:Tryz.prog.cellsOf 3=1:=by kernel_rfl
theorem wcU8:Tryz.prog.cellsOf 5=1:=by kernel_rfl
theorem wcU16:Tryz.prog.cellsOf 35=1:=by kernel_rfl
theorem wcKind:Tryz.prog.cellsOf 36=1:=by kernel_rfl
theorem wcStr:Tryz.prog.cellsOf 9=1:=by kernel_rfl
theorem wcBlk:Tryz.prog.cellsOf 94=1024:=by kernel_rfl
theorem wuBlk:Tryz.prog.underlying 94=some (.array 1024 5):=by kernel_rfl
theorem wuEnt:Tryz.prog.underlying 61=some (.struct (fieldsD (Tryz.prog.underlying 61))):=by kernel_rfl
theorem wuHeld:Tryz.prog.underlying 98=some (.struct (fieldsD (Tryz.prog.underlying 98))):=by kernel_rfl
theorem wuItem:Tryz.prog.underlying 40=some (.struct (fieldsD (Tryz.prog.underlying 40))):=by kernel_rfl
theorem wuState:Tryz.prog.underlying 26=some (.struct (fieldsD (Tryz.prog.underlying 26))):=by kernel_rfl
theorem wuGeo:Tryz.prog.underlying 23=some (.struct (fieldsD (Tryz.prog.underlying 23))):=by kernel_rfl
theorem wuWorld:Tryz.prog.underlying 28=some (.struct (fieldsD (Tryz.prog.underlying 28))):=by kernel_rfl
theorem wuEnts:Tryz.prog.underlying 38=some (.slice 61):=by kernel_rfl
theorem wuHelds:Tryz.prog.underlying 37=some (.slice 98):=by kernel_rfl
theorem wuItems:Tryz.prog.underlying 24=some (.slice 40):=by kernel_rfl
theorem yq {l:List Value} {o:Nat} {c:Value} (h:(l.drop o).take 1=[c]):l[o]?=some c:=by
 have:=congrArg (fun l=>l[0]?) h
 simpa [List.getElem?_take,List.getElem?_drop] using this
theorem ent_of {v:Array Value} {x:DataW K × List MemPlace} (h:DataW.trod enc Tryz.prog w 0 sp hd m 61 v.toList=some x):∃ e:Ent,v=ZP e∧e.1<65536∧e.2.size<9223372036854775808:=by
 obtain ⟨xs,n,rfl,_,h1,h2,h3⟩:=DataW.trod_struct wuEnt h
 rw [show Tryz.prog.cellsOf 61=2 by kernel_rfl] at h1
 obtain ⟨y0,a0,_⟩:=zY (i:=0) (o:=0) (t:=35) h2 h3 (by kernel_rfl)
 obtain ⟨y1,a1,_⟩:=zY (i:=1) (o:=1) (t:=9) h2 h3 (by kernel_rfl)
 rw [wcU16] at a0
 rw [wcStr] at a1
 obtain ⟨q0,b0,_,w0⟩:=DataW.trod_int wuU16 a0
 obtain ⟨q1,b1,_,w1⟩:=DataW.trod_string wuStr a1
 have w0:=wf_u16 w0
 refine ⟨(q0.toNat,q1),?_,by show q0.toNat<65536; omega,by show q1.size<_; unfold maxLen at w1; omega⟩
 have b0:=yq b0
 have b1:=yq b1
 rw [← Array.toList_inj]
 apply List.ext_getElem?
 intro i
 match i with
 | 0=>rw [b0]; show _=some (Value.int .u16 ((q0.toNat:Nat):Int)); rw [show ((q0.toNat:Nat):Int)=q0 by omega]
 | 1=>rw [b1]; rfl
 | i+2=>rw [List.getElem?_eq_none (by omega),List.getElem?_eq_none (by simp [ZP])]
theorem blk_of {l:List Value} {x:DataW K × List MemPlace} (h:DataW.trod enc Tryz.prog w 0 sp hd m 94 l=some x):IsB l.toArray:=by
 obtain ⟨xs,n,rfl,_,h1,h2,h3⟩:=DataW.trod_array wuBlk h
 rw [wcBlk] at h1
 refine ⟨by simpa using h1,fun i hi=>?_⟩
 have h4:=h3 i hi
 rw [wcU8,Nat.mul_one,List.getElem?_eq_getElem (by omega)] at h4
 obtain ⟨q,b,_,w0⟩:=DataW.trod_int wuU8 h4
 have w0:=wf_u8 w0
 refine ⟨q.toNat,by omega,?_⟩
 rw [List.getElem?_toArray,yq b,show ((q.toNat:Nat):Int)=q by omega]
set_option maxRecDepth 100000 in
theorem held_of {v:Array Value} {x:DataW K × List MemPlace} (h:DataW.trod enc Tryz.prog w 0 sp hd m 98 v.toList=some x):∃ e:Int × Blk,v=zM e∧(-9223372036854775808≤e.1∧e.1≤9223372036854775807)∧IsB e.2:=by
 obtain ⟨xs,n,rfl,_,h1,h2,h3⟩:=DataW.trod_struct wuHeld h
 rw [show Tryz.prog.cellsOf 98=1025 by kernel_rfl] at h1
 obtain ⟨y0,a0,_⟩:=zY (i:=0) (o:=0) (t:=3) h2 h3 (by kernel_rfl)
 obtain ⟨y1,a1,_⟩:=zY (i:=1) (o:=1) (t:=94) h2 h3 (by kernel_rfl)
 rw [wcInt] at a0
 rw [wcBlk] at a1
 obtain ⟨q0,b0,_,w0⟩:=DataW.trod_int YH a0
 have hb:=blk_of a1
 refine ⟨(q0,((v.toList.drop 1).take 1024).toArray),?_,wf_i64 w0,hb⟩
 have b0:=yq b0
 rw [← Array.toList_inj]
 cases hv:v.toList with
 | nil=>rw [hv] at h1; simp at h1
 | cons c l=>
   rw [hv] at b0 h1
   injection b0 with b0
   subst b0
   have:l.length=1024:=by rw [List.length_cons] at h1; omega
   have e:((Value.int .i64 q0 :: l).drop 1).take 1024=l:=by
     rw [List.drop_succ_cons,List.drop_zero]
     exact List.take_of_length_le (by rw [this]; exact Nat.le_refl _)
   rw [e]
   show _=(#[Value.int .i64 q0]++l.toArray).toList
   rw [Array.toList_append]; rfl
theorem sl_of {α:Type} {f:α→Array Value} {Q:α→Prop} {t e:TypeId} {k:Nat} (hu:Tryz.prog.underlying t=some (.slice e)) (hk:Tryz.prog.cellsOf e=k) (hp:0<k) {s:Value} {x:DataW K × List MemPlace} {c:Nat} (hw:∀ n∈x.1.weights Tryz.prog t,n≤c)
   (hel:∀ (m:Nat) (v:Array Value) (y:DataW K × List MemPlace),DataW.trod enc Tryz.prog w 0 sp hd m e v.toList=some y→(∀ n∈y.1.weights Tryz.prog e,n≤c)→∃ a,v=f a∧Q a)
   (h:DataW.trod enc Tryz.prog w 0 sp hd m t [s]=some x):∃ l:List α,Sr k w.heap s (l.map f)∧(∀ a∈l,Q a)∧l.length*Tryz.prog.bytesOf e≤c:=by
 obtain ⟨vs,m',ds,h1,h2,h3,_,h4⟩:=trod_sr hu hk hp h
 obtain ⟨l,rfl,h5⟩:=list_of (f:=f) (Q:=Q) (vs:=vs) fun v hv=>by
   obtain ⟨i,hi⟩:=List.mem_iff_getElem?.1 hv
   have h6:=h3 i v hi
   have hil:i<vs.length:=by
     rcases Nat.lt_or_ge i vs.length with h | h
     · exact h
     · rw [List.getElem?_eq_none h] at hi; cases hi
   rw [List.getElem?_eq_getElem (by omega)] at h6
   refine hel m' v _ h6 fun n hn=>?_
   rcases h4 with ⟨h4,_⟩ | ⟨r,h4⟩
   · rw [h4] at hil; simp at hil
   · rw [h4] at hw
     exact wt_elem hu (List.mem_map.2 ⟨_,List.getElem_mem _,rfl⟩) hw n hn
 refine ⟨l,h1,h5,?_⟩
 rcases h4 with ⟨h4,_⟩ | ⟨r,h4⟩
 · rw [List.map_eq_nil_iff] at h4; subst h4; simp
 · rw [h4] at hw
   have:=wt_len hu hw
   rw [List.length_map,h2,List.length_map] at this
   exact Nat.le_trans (Nat.mul_le_mul_right _ (Nat.le_add_right _ _)) this
set_option maxRecDepth 100000 in
theorem item_of {v:Array Value} {x:DataW K × List MemPlace} (h:DataW.trod enc Tryz.prog w 0 sp hd m 40 v.toList=some x) (hw:∀ n∈x.1.weights Tryz.prog 40,n≤reachBytes):∃ (t:Itm) (dv sv:Value),v=yl t dv sv∧Sr 1025 w.heap dv (t.data.map zM)∧Sr 2 w.heap sv (t.slots.map ZP)∧ZK t:=by
 obtain ⟨xs,n,rfl,hx,h1,h2,h3⟩:=DataW.trod_struct wuItem h
 rw [show Tryz.prog.cellsOf 40=7 by kernel_rfl] at h1
 have hw:∀ n∈(DataW.agg (xs.map (·.1))).weights Tryz.prog 40,n≤reachBytes:=by rw [hx] at hw; exact hw
 obtain ⟨y0,a0,_⟩:=zY (i:=0) (o:=0) (t:=3) h2 h3 (by kernel_rfl)
 obtain ⟨y1,a1,_⟩:=zY (i:=1) (o:=1) (t:=36) h2 h3 (by kernel_rfl)
 obtain ⟨y2,a2,_⟩:=zY (i:=2) (o:=2) (t:=3) h2 h3 (by kernel_rfl)
 obtain ⟨y3,a3,_⟩:=zY (i:=3) (o:=3) (t:=3) h2 h3 (by kernel_rfl)
 obtain ⟨y4,a4,_⟩:=zY (i:=4) (o:=4) (t:=3) h2 h3 (by kernel_rfl)
 obtain ⟨y5,a5,e5,f5⟩:=zY (i:=5) (o:=5) (t:=37) h2 h3 (by kernel_rfl)
 obtain ⟨y6,a6,e6,f6⟩:=zY (i:=6) (o:=6) (t:=38) h2 h3 (by kernel_rfl)
 rw [wcInt] at a0 a2 a3 a4
 rw [wcKind] at a1
 rw [show Tryz.prog.cellsOf 37=1 by kernel_rfl] at a5
 rw [show Tryz.prog.cellsOf 38=1 by kernel_rfl] at a6
 obtain ⟨q0,b0,_,w0⟩:=DataW.trod_int YH a0
 obtain ⟨q1,b1,_,w1⟩:=DataW.trod_int wuKind a1
 obtain ⟨q2,b2,_,w2⟩:=DataW.trod_int YH a2
 obtain ⟨q3,b3,_,w3⟩:=DataW.trod_int YH a3
 obtain ⟨q4,b4,_,w4⟩:=DataW.trod_int YH a4
 have hlen:∀ o,o<7→∃ c,(v.toList.drop o).take 1=[c]:=fun o ho=>by
   refine ⟨v.toList[o],?_⟩
   rw [List.drop_eq_getElem_cons (by omega)]
   rfl
 obtain ⟨dv,b5⟩:=hlen 5 (by omega)
 obtain ⟨sv,b6⟩:=hlen 6 (by omega)
 rw [b5] at a5
 rw [b6] at a6
 have hw5:=wt_part (c:=reachBytes) wuItem (parts:=xs.map (·.1)) (x:=y5.1) (i:=5) (by simp only [List.getElem?_map,e5,Option.map_some]) f5 hw
 have hw6:=wt_part (c:=reachBytes) wuItem (parts:=xs.map (·.1)) (x:=y6.1) (i:=6) (by simp only [List.getElem?_map,e6,Option.map_some]) f6 hw
 obtain ⟨ld,s5,o5,n5⟩:=sl_of (f:=zM) (Q:=fun e:Int × Blk=>(-9223372036854775808≤e.1∧e.1≤9223372036854775807)∧IsB e.2) wuHelds (show Tryz.prog.cellsOf 98=1025 by kernel_rfl) (by omega) hw5 (fun m v y hy _=>held_of hy) a5
 obtain ⟨ls,s6,o6,n6⟩:=sl_of (f:=ZP) (Q:=fun e:Ent=>e.1<65536∧e.2.size<9223372036854775808) wuEnts (by kernel_rfl) (k:=2) (by omega) hw6 (fun m v y hy _=>ent_of hy) a6
 have r:=reachBytes_lt
 have w1:=wf_u16 w1
 have k5:1≤Tryz.prog.bytesOf 98:=by decide +kernel
 have k6:1≤Tryz.prog.bytesOf 61:=by decide +kernel
 have m5:=Nat.mul_le_mul_left ld.length k5
 have m6:=Nat.mul_le_mul_left ls.length k6
 refine ⟨⟨q0,q1.toNat,q2,q3,q4,ld,ls⟩,dv,sv,?_,s5,s6,⟨wf_i64 w0,by show q1.toNat<65536; omega,wf_i64 w2,wf_i64 w3,wf_i64 w4,by show ld.length<_; omega,by show ls.length<_; omega,o5,o6⟩⟩
 have b0:=yq b0
 have b1:=yq b1
 have b2:=yq b2
 have b3:=yq b3
 have b4:=yq b4
 have b5:=yq b5
 have b6:=yq b6
 rw [← Array.toList_inj]
 apply List.ext_getElem?
 intro i
 match i with
 | 0=>rw [b0]; rfl
 | 1=>rw [b1]; show _=some (Value.int .u16 ((q1.toNat:Nat):Int)); rw [show ((q1.toNat:Nat):Int)=q1 by omega]
 | 2=>rw [b2]; rfl
 | 3=>rw [b3]; rfl
 | 4=>rw [b4]; rfl
 | 5=>rw [b5]; rfl
 | 6=>rw [b6]; rfl
 | i+7=>rw [List.getElem?_eq_none (by omega),List.getElem?_eq_none (by simp [yl])]
theorem items_of {s:Value} {x:DataW K × List MemPlace} (h:DataW.trod enc Tryz.prog w 0 sp hd m 24 [s]=some x) (hw:∀ n∈x.1.weights Tryz.prog 24,n≤reachBytes):∃ its:List Itm,StAt w.heap s its∧(∀ t∈its,ZK t)∧its.length<281474976710656∧∃ b n c,s=.slice b n c:=by
 obtain ⟨l,s1,o1,n1⟩:=sl_of (α:=Itm × Value × Value) (f:=fun a=>yl a.1 a.2.1 a.2.2) (Q:=fun a=>Sr 1025 w.heap a.2.1 (a.1.data.map zM)∧Sr 2 w.heap a.2.2 (a.1.slots.map ZP)∧ZK a.1) wuItems (by kernel_rfl) (k:=7) (by omega) hw (fun m v y hy hwy=>by
   obtain ⟨t,dv,sv,e,h1,h2,h3⟩:=item_of hy hwy
   exact ⟨(t,dv,sv),e,h1,h2,h3⟩) h
 have r:=reachBytes_lt
 have k5:1≤Tryz.prog.bytesOf 40:=by decide +kernel
 have m5:=Nat.mul_le_mul_left l.length k5
 refine ⟨l.map (·.1),⟨_,s1,by simp,fun i t hi=>?_⟩,fun t ht=>?_,by rw [List.length_map]; omega,?_⟩
 · rw [List.getElem?_map] at hi
   cases hl:l[i]? with
   | none=>rw [hl] at hi; cases hi
   | some a=>
     rw [hl] at hi
     injection hi with hi
     subst hi
     have:=o1 a (List.mem_of_getElem? hl)
     exact ⟨a.2.1,a.2.2,by rw [List.getElem?_map,hl]; rfl,this.1,this.2.1⟩
 · obtain ⟨a,ha,rfl⟩:=List.mem_map.1 ht
   exact (o1 a ha).2.2
 · obtain ⟨b,c,e⟩:=s1.len
   exact ⟨b,_,c,e⟩
theorem agg_of {v:Value} (h:v.cells.size≠1):v=.agg v.cells:=by
 cases v <;> first | rfl | exact absurd rfl h
theorem at_of {l:List Value} {o n j:Nat} {c:Value} (h:(((l.drop o).take n).drop j).take 1=[c]) (hj:j<n):l[o+j]?=some c:=by
 have:=yq h
 rw [List.getElem?_take,if_pos hj,List.getElem?_drop] at this
 exact this
set_option maxRecDepth 100000 in
theorem world_of {v:Value} {x:DataW K × List MemPlace} (h:DataW.trod enc Tryz.prog w 0 sp hd m 28 v.cells.toList=some x) (hw:∀ n∈x.1.weights Tryz.prog 28,n≤reachBytes) :
   ∃ (B L I:Int) (iv:Value) (fr sp seed:Int) (its:List Itm),v=.agg (wldC B L I iv fr sp seed)∧(-9223372036854775808≤B∧B≤9223372036854775807)∧(-9223372036854775808≤seed∧seed≤9223372036854775807)∧StAt w.heap iv its∧(∀ t∈its,ZK t)∧its.length<281474976710656∧∃ b n c,iv=.slice b n c:=by
 obtain ⟨xs,n,rfl,hx,h1,h2,h3⟩:=DataW.trod_struct wuWorld h
 rw [show Tryz.prog.cellsOf 28=7 by kernel_rfl] at h1
 have hw:∀ n∈(DataW.agg (xs.map (·.1))).weights Tryz.prog 28,n≤reachBytes:=by rw [hx] at hw; exact hw
 obtain ⟨y0,a0,_⟩:=zY (i:=0) (o:=0) (t:=23) h2 h3 (by kernel_rfl)
 obtain ⟨y1,a1,e1,f1⟩:=zY (i:=1) (o:=3) (t:=26) h2 h3 (by kernel_rfl)
 obtain ⟨y2,a2,_⟩:=zY (i:=2) (o:=6) (t:=3) h2 h3 (by kernel_rfl)
 rw [show Tryz.prog.cellsOf 23=3 by kernel_rfl] at a0
 rw [show Tryz.prog.cellsOf 26=3 by kernel_rfl] at a1
 rw [wcInt] at a2
 have hw1:=wt_part (c:=reachBytes) wuWorld (parts:=xs.map (·.1)) (x:=y1.1) (i:=1) (by simp only [List.getElem?_map,e1,Option.map_some]) f1 hw
 obtain ⟨q6,b6,_,w6⟩:=DataW.trod_int YH a2
 obtain ⟨gs,ng,rfl,_,g1,g2,g3⟩:=DataW.trod_struct wuGeo a0
 obtain ⟨z0,c0,_⟩:=zY (i:=0) (o:=0) (t:=3) g2 g3 (by kernel_rfl)
 obtain ⟨z1,c1,_⟩:=zY (i:=1) (o:=1) (t:=3) g2 g3 (by kernel_rfl)
 obtain ⟨z2,c2,_⟩:=zY (i:=2) (o:=2) (t:=3) g2 g3 (by kernel_rfl)
 rw [wcInt] at c0 c1 c2
 obtain ⟨q0,b0,_,w0⟩:=DataW.trod_int YH c0
 obtain ⟨q1,b1,_,w1⟩:=DataW.trod_int YH c1
 obtain ⟨q2,b2,_,w2⟩:=DataW.trod_int YH c2
 obtain ⟨ss,ns,_,sx,s1,s2,s3⟩:=DataW.trod_struct wuState a1
 obtain ⟨z3,c3,e3,f3⟩:=zY (i:=0) (o:=0) (t:=24) s2 s3 (by kernel_rfl)
 obtain ⟨z4,c4,_⟩:=zY (i:=1) (o:=1) (t:=3) s2 s3 (by kernel_rfl)
 obtain ⟨z5,c5,_⟩:=zY (i:=2) (o:=2) (t:=3) s2 s3 (by kernel_rfl)
 rw [wcInt] at c4 c5
 rw [show Tryz.prog.cellsOf 24=1 by kernel_rfl] at c3
 have hw1:∀ n∈(DataW.agg (ss.map (·.1))).weights Tryz.prog 26,n≤reachBytes:=by rw [sx] at hw1; exact hw1
 have hw3:=wt_part (c:=reachBytes) wuState (parts:=ss.map (·.1)) (x:=z3.1) (i:=0) (by simp only [List.getElem?_map,e3,Option.map_some]) f3 hw1
 obtain ⟨q4,b4,_,_⟩:=DataW.trod_int YH c4
 obtain ⟨q5,b5,_,_⟩:=DataW.trod_int YH c5
 have hlen:v.cells.size=7:=by rw [← Array.length_toList]; exact h1
 obtain ⟨iv,b3⟩:∃ c,(((v.cells.toList.drop 3).take 3).drop 0).take 1=[c]:=by
   refine ⟨v.cells.toList[3],?_⟩
   rw [List.drop_zero,List.take_take,List.drop_eq_getElem_cons (by omega)]
   rfl
 rw [b3] at c3
 obtain ⟨its,hs,ho,hl,hiv⟩:=items_of c3 hw3
 refine ⟨q0,q1,q2,iv,q4,q5,q6,its,?_,wf_i64 w0,wf_i64 w6,hs,ho,hl,hiv⟩
 have b0:=at_of b0 (by omega)
 have b1:=at_of b1 (by omega)
 have b2:=at_of b2 (by omega)
 have b3:=at_of b3 (by omega)
 have b4:=at_of b4 (by omega)
 have b5:=at_of b5 (by omega)
 have b6:=yq b6
 refine (agg_of (by omega)).trans ?_
 congr 1
 rw [← Array.toList_inj]
 suffices key:∀ l:List Value,l=v.cells.toList→l=(wldC q0 q1 q2 iv q4 q5 q6).toList from key _ rfl
 intro l hl0
 rw [← hl0] at b0 b1 b2 b3 b4 b5 b6 h1
 apply List.ext_getElem?
 intro i
 match i with
 | 0=>rw [show l[0]?=_ from b0]; rfl
 | 1=>rw [show l[1]?=_ from b1]; rfl
 | 2=>rw [show l[2]?=_ from b2]; rfl
 | 3=>rw [show l[3]?=_ from b3]; rfl
 | 4=>rw [show l[4]?=_ from b4]; rfl
 | 5=>rw [show l[5]?=_ from b5]; rfl
 | 6=>rw [b6]; rfl
 | i+7=>rw [List.getElem?_eq_none (by omega),List.getElem?_eq_none (by simp [wldC])]
end
theorem cell_nils_ok {P:Program} {W:World} {r:Reach} {base:Nat} {u e:TypeId} (hu:P.underlying u=some (.slice e)):Cell.okWide P W r base u (.slice none 0 0):=by
 simp [Cell.okWide,hu,Cell.ok]
theorem worldTs:Tryz.prog.cellTypes Tryz.prog.depth 28=some [3,3,3,24,3,3,3]:=by kernel_rfl
set_option maxRecDepth 100000 in
theorem world_ok {W:World} {base:Nat}:Value.okWide Tryz.prog W .any base 28 (.agg (wldC 0 0 0 (.slice none 0 0) 0 0 0)):=by
 refine okWide_cells wuWorld rfl (show Tryz.prog.cellsOf 28=7 by kernel_rfl) worldTs rfl rfl fun i u hu=>?_
 match i,hu with
 | 0,hu=>injection hu with hu; subst hu; exact ⟨_,rfl,Z6 YH (by decide) (by decide)⟩
 | 1,hu=>injection hu with hu; subst hu; exact ⟨_,rfl,Z6 YH (by decide) (by decide)⟩
 | 2,hu=>injection hu with hu; subst hu; exact ⟨_,rfl,Z6 YH (by decide) (by decide)⟩
 | 3,hu=>injection hu with hu; subst hu; exact ⟨_,rfl,cell_nils_ok wuItems⟩
 | 4,hu=>injection hu with hu; subst hu; exact ⟨_,rfl,Z6 YH (by decide) (by decide)⟩
 | 5,hu=>injection hu with hu; subst hu; exact ⟨_,rfl,Z6 YH (by decide) (by decide)⟩
 | 6,hu=>injection hu with hu; subst hu; exact ⟨_,rfl,Z6 YH (by decide) (by decide)⟩
 | i+7,hu=>simp at hu
end Go.Vc
