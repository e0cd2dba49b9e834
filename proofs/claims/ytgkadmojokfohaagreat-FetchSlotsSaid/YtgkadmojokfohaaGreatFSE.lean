/- Parts of a proof, joined in build order: a calculus of contracts, contracts of functions. -/
import Derived.Test.YtgkadmojokfohaaGreatFSD
import Derived.RangeFuncLeaves
set_option linter.unusedVariables false
set_option linter.unusedSimpArgs false
namespace Go.Vc
theorem havoc_len (j:Nat→Value) (fr:Fr):∀ J,(havoc J j fr).length=fr.length
 | []=>rfl
 | k :: J=>by simp [havoc,havoc_len j fr J]
theorem havoc_get (j:Nat→Value) (fr:Fr) (k:Nat):∀ J,(havoc J j fr)[k]?=if k∈J∧k<fr.length then some (j k) else fr[k]?
 | []=>by simp [havoc]
 | i :: J=>by
   simp only [havoc,List.getElem?_set,havoc_len,havoc_get j fr k J,List.mem_cons]
   by_cases hi:i=k
   · subst hi
     by_cases hl:i<fr.length
     · simp [hl]
     · simp [hl]
   · have:¬ k=i:=fun h=>hi h.symm
     simp [hi,this]
theorem lay_len (fr:Fr):∀ L (s:Tup (List.length L)),(lay L s fr).length=fr.length
 | [],_=>rfl
 | k :: L,s=>by simp [lay,lay_len fr L s.2]
theorem lay_grab_get (fr fr1:Fr) (k:Nat):∀ L,(lay L (grab fr1 L) fr)[k]?=if k∈L∧k<fr.length then some (slot fr1 k) else fr[k]?
 | []=>by simp [lay]
 | i :: L=>by
   simp only [lay,grab,List.getElem?_set,lay_len,lay_grab_get fr fr1 k L,List.mem_cons]
   by_cases hi:i=k
   · subst hi
     by_cases hl:i<fr.length
     · simp [hl]
     · simp [hl]
   · have:¬ k=i:=fun h=>hi h.symm
     simp [hi,this]
theorem subB_spec {xs ys:List Nat} (h:subB xs ys=true):∀ k∈xs,k∈ys:=fun k hk=>by
 simpa using List.all_eq_true.1 h k hk
theorem lay_back {W L J:List Nat} {fr fr1:Fr} (h:Agree W fr fr1) (hs:subB W (L++J)=true):lay L (grab fr1 L) (havoc J (slot fr1) fr)=fr1:=by
 apply List.ext_getElem?
 intro k
 have hsl:k<fr.length→fr1[k]?=some (slot fr1 k):=fun hl=>by
   have:k<fr1.length:=by rw [h.1]; exact hl
   simp [slot,this]
 rw [lay_grab_get,havoc_len,havoc_get]
 by_cases hl:k<fr.length
 · by_cases hL:k∈L
   · simp [hL,hl,hsl hl]
   · by_cases hJ:k∈J
     · simp [hL,hJ,hl,hsl hl]
     · have:k ∉ W:=fun hm=>by
         have:=subB_spec hs k hm
         simp [hL,hJ] at this
       simp [hL,hJ,h.2 k this]
 · have h1:fr[k]?=none:=List.getElem?_eq_none (by omega)
   have h2:fr1[k]?=none:=List.getElem?_eq_none (by rw [h.1]; omega)
   simp [hl,h1,h2]
section
variable {P:Program} {b:Frame} {a:Act} {k:List Item} {cs:List Frame} {w:World} {F:Fence} {n:Nat} {Q:Exit→Act→World→Prop}
theorem yr {c:Code}:step P (lone (b.atR a (.code (.scope c) :: k)) cs w)=.next (lone (b.atR a (.code c :: .inScope c :: k)) cs w):=
 step_lone_go (by simp [stepG,stepG.exec,Frame.atR])
theorem stepR_inScope {c:Code}:step P (lone (b.atR a (.inScope c :: k)) cs w)=.next (lone (b.atR a k) cs w):=
 step_lone_go (by simp [stepG,stepG.exec,Frame.atR])
def inScp (Q:Exit→Act→World→Prop):Exit→Act→World→Prop
 | .goto _,_,_=>False
 | e,a,w=>Q e a w
theorem wpIn_scope {c:Code} (h:c.wpIn F n P (inScp Q) a w):(Code.scope c).wpIn F n P Q a w:=by
 intro b k cs hro hb hr
 have h0:(lone (b.atR a (.code (.scope c) :: k)) cs w).fenced P F:=fenced_calm hb hr rfl
 obtain ⟨e,a₁,w₁,hq,harr⟩:=h b (.inScope c :: k) cs hro hb hr
 cases e with
 | normal=>exact ⟨.normal,a₁,w₁,hq,.head h0 yr (StepsIn.trans harr (.one (fenced_calm hb hr rfl) stepR_inScope))⟩
 | exit id'=>
   have hx:exitTo id' (.inScope c :: k)=exitTo id' k:=by simp [exitTo]
   exact ⟨.exit id',a₁,w₁,hq,fun k' hk=>.head h0 yr (harr.1 k' (by rw [hx]; exact hk)),
     fun hr' hk=>let ⟨k₁,h1,h2⟩:=harr.2 hr' (by rw [hx]; exact hk); ⟨k₁,h1,.head h0 yr h2⟩⟩
 | goto l=>exact hq.elim
 | ret=>exact ⟨_,a₁,w₁,hq,.of_steps (.one h0 yr) harr⟩
 | panic ch=>exact ⟨_,a₁,w₁,hq,.of_steps (.one h0 yr) harr⟩
 | outgrown=>exact ⟨_,a₁,w₁,hq,.of_steps (.one h0 yr) harr⟩
end
section
variable {P:Program} {qf:FuncId→Bool} {r:Option Nat}
theorem wpOpsIn_of_runD {q:Bool} {ops:Array Oper} {cl:Nat→Cls} (hn:noSelB ops=true) {Q:Exit→Act→World→Prop} {K:Act→Hp→Prop} {w₀:World} (hQ:∀ a w,K a w.heap→Sm w₀ w→Q .normal a w) :
   ∀ (l:List Nat) (a:Act) (H:Hp) (w:World),Ex q H w.heap→Sm w₀ w→runD q P ops cl K l a H→wpOpsIn (ZV r) 0 P ops Q l a w
 | [],a,H,w,hx,hsm,h=>hQ a w (h _ hx) hsm
 | i :: l,a,H,w,hx,hsm,h=>by
   rw [wpOpsIn_cons]
   exact ye hn hx h fun a' H' w' hr hx' hsm'=>wpOpsIn_of_runD hn hQ l a' H' w' hx' (hsm.trans hsm') hr
def Post (W:List Nat) (nd:Bool) (Q:Exit→Ks) (fr:Fr) (a:Act) (w:World):Exit→Act→World→Prop:=fun e a' w'=>
 ∃ fr',At a' fr'∧(nd=true→a'.defers=a.defers)∧Agree W fr fr'∧Q e fr' a'.defers w'.heap∧Sm w w'
theorem region_sound {ops:Array Oper} {dr:Bool} {id:Nat} {Q:Exit→Ks} {fr:Fr} {a:Act} {w:World} (ha:At a fr) (h:vcReg P qf ops dr fr w.heap fun fr' H'=>Q .normal fr' a.defers H') :
   (Code.region id ops dr).wpIn (ZV r) 0 P (Post (Zx ops.toList) true Q fr a w) a w:=by
 have out:∀ (a':Act) (w':World),(∃ fr',At a' fr'∧a'.defers=a.defers∧Agree (Zx ops.toList) fr fr'∧Q .normal fr' a.defers w'.heap)→Sm w w'→Post (Zx ops.toList) true Q fr a w .normal a' w':=by
   rintro a' w' ⟨fr',h1,h2,h3,h4⟩ hsm
   exact ⟨fr',h1,fun _=>h2,h3,by rw [h2]; exact h4,hsm⟩
 unfold vcReg at h
 cases dr with
 | false=>
   simp only at h
   split at h
   · rename_i hn
     refine wpIn_region ?_
     have hrun:=Yi (P:=P) (qf:=qf) (dr:=false) (q:=false) (fz:=false) (all:=ops) (fun _=>rfl) (fun h=>by cases h) (W:=Zx ops.toList) (ds:=a.defers) (fr₀:=fr) ops.toList 0 [] fr a w.heap (fun fr' H'=>Q .normal fr' a.defers H') (by simp) (fun _ h=>h) ha rfl (Agree.refl _ _) h
     rw [List.range_eq_range',← Array.length_toList]
     exact wpOpsIn_of_runD hn (w₀:=w) (fun a' w' hk hsm=>out a' w' hk hsm) _ a w.heap w (Ex.refl _ _) (Sm.refl w) hrun
   · exact h.elim
 | true=>
   simp only at h
   split at h
   · rename_i hB
     simp only [Bool.and_eq_true] at hB
     have hrun:=Yi (P:=P) (qf:=qf) (dr:=true) (q:=anyQ qf ops) (fz:=false) (all:=ops) (fun h=>by cases h) (fun h=>by cases h) (W:=Zx ops.toList) (ds:=a.defers) (fr₀:=fr) ops.toList 0 [] fr a w.heap (fun fr' H'=>Q .normal fr' a.defers H') (by simp) (fun _ h=>h) ha rfl (Agree.refl _ _) h
     rw [← List.range_eq_range',Array.length_toList] at hrun
     exact wpIn_draw hB.1 hB.2 hrun fun a' w' hk hsm=>out a' w' hk hsm
   · split at h
     · rename_i hB
       simp only [Bool.and_eq_true] at hB
       have hrun:=Yi (P:=P) (qf:=qf) (dr:=true) (q:=true) (fz:=true) (all:=ops) (fun h=>by cases h) (fun _=>rfl) (W:=Zx ops.toList) (ds:=a.defers) (fr₀:=fr) ops.toList 0 [] fr a w.heap (fun fr' H'=>Q .normal fr' a.defers H') (by simp) (fun _ h=>h) ha rfl (Agree.refl _ _) h
       rw [← List.range_eq_range',Array.length_toList] at hrun
       exact wpIn_draw hB.1 hB.2 hrun fun a' w' hk hsm=>out a' w' hk hsm
     · exact h.elim
theorem Post.mono {W W':List Nat} {nd nd':Bool} {Q Q':Exit→Ks} {fr:Fr} {a:Act} {w:World} (hW:∀ k∈W,k∈W') (hn:nd'=true→nd=true) {e:Exit} {a':Act} {w':World} (hQ:∀ fr ds H,Q e fr ds H→Q' e fr ds H) (h:Post W nd Q fr a w e a' w'):Post W' nd' Q' fr a w e a' w':=by
 obtain ⟨fr',h1,h2,h3,h4,h5⟩:=h
 exact ⟨fr',h1,fun h=>h2 (hn h),h3.mono hW,hQ _ _ _ h4,h5⟩
theorem Post.trans {W:List Nat} {nd:Bool} {Q:Exit→Ks} {fr fr₁:Fr} {a a₁:Act} {w w₁:World} (hd:nd=true→a₁.defers=a.defers) (hA:Agree W fr fr₁) (hs:Sm w w₁) {e:Exit} {a':Act} {w':World} (h:Post W nd Q fr₁ a₁ w₁ e a' w'):Post W nd Q fr a w e a' w':=by
 obtain ⟨fr',h1,h2,h3,h4,h5⟩:=h
 exact ⟨fr',h1,fun h=>(h2 h).trans (hd h),hA.trans h3,h4,hs.trans h5⟩
end
theorem setL_at:∀ (l:List (Nat × Value)) (fr:Fr),l.foldl (fun (tmps:Array Value) (x:Nat × Value)=>tmps.setIfInBounds x.1 x.2) fr.toArray=(setL fr l).toArray
 | [],fr=>rfl
 | (t,v) :: l,fr=>by
   simp only [List.foldl_cons,setL]
   rw [← setL_at l (fr.set t v)]
   simp
theorem tupL_len:∀ (n:Nat) (s:Tup n),(tupL n s).length=n
 | 0,_=>rfl
 | n+1,s=>by simp [tupL,tupL_len n s.2]
section
variable {P:Program} {qf:FuncId→Bool}
theorem getLoop_ok {rec:Loop} {l:Nat} {st:LoopState} {j:Jmp} {w:World} (h:LpAt rec l st j w.heap):(Instr.getLoop l).run P w=.ok { rec with state:=st,pending:=Yr j } w:=by
 have h':w.heap[l]?=some (.loop { rec with state:=st,pending:=Yr j }):=h
 simp [Instr.getLoop,getObj,Sem.run,h',bind,Sem.bind]
theorem setLoop_ok {rec:Loop} {l:Nat} {st:LoopState} {j:Jmp} {w:World} (h:LpAt rec l st j w.heap) (o:Obj):(setObj l o).run P w=.ok () { w with heap:=w.heap.setIfInBounds l o }:=by
 have h':w.heap[l]?=some (.loop { rec with state:=st,pending:=Yr j }):=h
 simp [setObj,Sem.run,h']
theorem begin_ok {rec:Loop} {l:Nat} {w:World} (h:LpAt rec l .ready none w.heap):(Instr.beginRound l).run P w=.ok () { w with heap:=setLp rec l .busy none w.heap }:=by
 unfold Instr.beginRound
 simp only [Sem.run_bind,getLoop_ok h,Result.andThen_ok,setLoop_ok h,Sem.run_pure]
 rfl
theorem end_ok {rec:Loop} {l:Nat} {j:Jmp} {w:World} (h:LpAt rec l .busy none w.heap):(Instr.endRound l (Yr j)).run P w=.ok (.bool j.isNone) { w with heap:=setLp rec l (if j.isNone then .ready else .done) j w.heap }:=by
 have e:(Yr j).isNone=j.isNone:=by
   match j with
   | none=>rfl
   | some none=>rfl
   | some (some id)=>rfl
 unfold Instr.endRound
 simp only [Sem.run_bind,getLoop_ok h,Result.andThen_ok,setLoop_ok h,Sem.run_pure,e]
 rfl
theorem endLoop_ok {rec:Loop} {l:Nat} {st:LoopState} {j:Jmp} {w:World} (hst:st≠.busy) (h:LpAt rec l st j w.heap):(Instr.endLoop l).run P w=.ok (Yr j) { w with heap:=setLp rec l .exhausted j w.heap }:=by
 unfold Instr.endLoop
 have hb:(st == LoopState.busy)=false:=by cases st <;> first | rfl | exact absurd rfl hst
 simp only [Sem.run_bind,getLoop_ok h,Result.andThen_ok,hb,Bool.false_eq_true,if_false,setLoop_ok h,Sem.run_pure]
 rfl
theorem vc_sound:∀ (c:Code) (top:Bool) (r:Option Nat) (ann:Ann) (Q:Exit→Ks) (fr:Fr) (a:Act) (w:World),(top=true→r=none)→At a fr→vc P qf top c ann Q fr a.defers w.heap →
   c.wpIn (ZV r) 0 P (Post (ZM c) (Zt c) Q fr a w) a w:=by
 intro c
 induction c with
 | skip=>intro top r ann Q fr a w ht ha h; cases top <;> exact wpIn_skip ⟨fr,ha,fun _=>rfl,Agree.refl _ _,h,Sm.refl w⟩
 | label l=>intro top r ann Q fr a w ht ha h; cases top <;> exact wpIn_label ⟨fr,ha,fun _=>rfl,Agree.refl _ _,h,Sm.refl w⟩
 | ret=>intro top r ann Q fr a w ht ha h; cases top <;> exact wpIn_ret ⟨fr,ha,fun _=>rfl,Agree.refl _ _,h,Sm.refl w⟩
 | exit id=>intro top r ann Q fr a w ht ha h; cases top <;> exact wpIn_exit ⟨fr,ha,fun _=>rfl,Agree.refl _ _,h,Sm.refl w⟩
 | region id ops dr=>intro top r ann Q fr a w ht ha h; cases top <;> exact region_sound ha h
 | block id c ih=>
   intro top r ann Q fr a w ht ha h
   have h':vc P qf top c ann (blk id Q) fr a.defers w.heap:=by cases top <;> exact h
   refine wpIn_block (wpIn_mono (ih top r ann (blk id Q) fr a w ht ha h') fun e a' w' hp=>?_)
   cases e <;> try exact hp
   rename_i k
   simp only [Exit.inBlock]
   split
   · rename_i hk
     obtain ⟨fr',h1,h2,h3,h4,h5⟩:=hp
     simp only [blk,isX,hk,if_true] at h4
     exact ⟨fr',h1,h2,h3,h4,h5⟩
   · rename_i hk
     obtain ⟨fr',h1,h2,h3,h4,h5⟩:=hp
     simp only [blk,isX,hk,if_false] at h4
     exact ⟨fr',h1,h2,h3,h4,h5⟩
 | cond c x y ihx ihy=>
   intro top r ann Q fr a w ht ha h
   have key:∃ l r',Ite (ev fr c) (vc P qf top x l Q fr a.defers w.heap) (vc P qf top y r' Q fr a.defers w.heap):=by
     cases top <;> (unfold vc at h; split at h) <;> exact ⟨_,_,h⟩
   obtain ⟨l,r',h⟩:=key
   unfold Ite at h
   have n1:Zt (.cond c x y)=true→Zt x=true:=fun h=>by simp only [Zt,Bool.and_eq_true] at h; exact h.1
   have n2:Zt (.cond c x y)=true→Zt y=true:=fun h=>by simp only [Zt,Bool.and_eq_true] at h; exact h.2
   split at h
   · rename_i hc
     refine wpIn_cond_true (by rw [ha.ev]; exact hc) (wpIn_mono (ihx top r l Q fr a w ht ha h) fun e a' w' hp=>hp.mono (fun k hk=>List.mem_append_left _ hk) n1 fun _ _ _ h=>h)
   · rename_i hc
     refine wpIn_cond_false (by rw [ha.ev]; exact hc) (wpIn_mono (ihy top r r' Q fr a w ht ha h) fun e a' w' hp=>hp.mono (fun k hk=>List.mem_append_right _ hk) n2 fun _ _ _ h=>h)
   · exact h.elim
 | seq x y ihx ihy=>
   intro top r ann Q fr a w ht ha h
   have n1:Zt (.seq x y)=true→Zt x=true:=fun h=>by simp only [Zt,Bool.and_eq_true] at h; exact h.1
   have n2:Zt (.seq x y)=true→Zt y=true:=fun h=>by simp only [Zt,Bool.and_eq_true] at h; exact h.2
   have fin:∀ (l:Ann) (K:Ks),vc P qf top x l (thn K Q) fr a.defers w.heap→(∀ fr' a' w',At a' fr'→(Zt x=true→a'.defers=a.defers)→Agree (ZM x) fr fr'→K fr' a'.defers w'.heap→Sm w w'→∃ r',vc P qf top y r' Q fr' a'.defers w'.heap) →
       (Code.seq x y).wpIn (ZV r) 0 P (Post (ZM (.seq x y)) (Zt (.seq x y)) Q fr a w) a w:=by
     intro l K hx hk
     refine wpIn_seq (wpIn_mono (ihx top r l (thn K Q) fr a w ht ha hx) fun e a' w' hp=>?_)
     cases e <;> try exact hp.mono (fun k hk=>List.mem_append_left _ hk) n1 fun _ _ _ h=>h
     obtain ⟨fr',h1,h2,h3,h4,h5⟩:=hp
     obtain ⟨r',h6⟩:=hk fr' a' w' h1 h2 h3 h4 h5
     exact wpIn_mono (ihy top r r' Q fr' a' w' ht h1 h6) fun e a'' w'' hp=>(hp.mono (fun k hk=>List.mem_append_right _ hk) n2 fun _ _ _ h=>h).trans (fun h=>h2 (n1 h)) (h3.mono fun k hk=>List.mem_append_left _ hk) h5
   have key:(∃ L J l r',ann=.join L J l r'∧(subB (ZM x) (L++J) && Zt x)=true∧zS (fun s H=>Any fun j=>vc P qf top y r' Q (lay L s (havoc J j fr)) a.defers H) fun K=>vc P qf top x l (thn (fun fr' _ H'=>K (grab fr' L) H') Q) fr a.defers w.heap) ∨
       ∃ l r',vc P qf top x l (thn (vc P qf top y r' Q) Q) fr a.defers w.heap:=by
     cases top <;> (unfold vc at h; split at h)
     · rename_i L J l r'
       split at h
       · rename_i hs; exact .inl ⟨L,J,l,r',rfl,hs,h⟩
       · exact h.elim
     · exact .inr ⟨_,_,h⟩
     · exact .inr ⟨_,_,h⟩
     · rename_i L J l r'
       split at h
       · rename_i hs; exact .inl ⟨L,J,l,r',rfl,hs,h⟩
       · exact h.elim
     · exact .inr ⟨_,_,h⟩
     · exact .inr ⟨_,_,h⟩
   rcases key with ⟨L,J,l,r',_,hs,K,hr,hf⟩ | ⟨l,r',h⟩
   · simp only [Bool.and_eq_true] at hs
     refine fin l _ hf fun fr' a' w' h1 h2 h3 h4 h5=>⟨r',?_⟩
     have:=hr _ _ h4 (slot fr')
     simp only [lay_back h3 hs.1] at this
     rw [h2 hs.2]
     exact this
   · exact fin _ _ h fun fr' a' w' h1 h2 h3 h4 h5=>⟨_,h4⟩
 | loop c ih=>
   intro top r ann Q fr a w ht ha h
   have key:∃ L J b,(subB (ZM c) (L++J) && Zt c)=true∧zx (grab fr L) w.heap fun K s H=>Any fun j=>vc P qf top c b (thn (fun fr' _ H'=>K (grab fr' L) H') Q) (lay L s (havoc J j fr)) a.defers H:=by
     cases top <;> (unfold vc at h; split at h)
     · split at h
       · rename_i hs; exact ⟨_,_,_,hs,h⟩
       · exact h.elim
     · exact h.elim
     · split at h
       · rename_i hs; exact ⟨_,_,_,hs,h⟩
       · exact h.elim
     · exact h.elim
   obtain ⟨L,J,b,hs,I,μ,h0,hround⟩:=key
   simp only [Bool.and_eq_true] at hs
   refine wpIn_loop (fun a' w'=>∃ fr',At a' fr'∧a'.defers=a.defers∧Agree (ZM c) fr fr'∧I (grab fr' L) w'.heap∧Sm w w') (fun a' w'=>μ (grab a'.tmps.toList L) w'.heap) ⟨fr,ha,rfl,Agree.refl _ _,h0,Sm.refl w⟩ ?_
   rintro a' w' ⟨fr',h1,h2,h3,h4,h5⟩
   have hr:=hround _ _ h4 (slot fr')
   simp only [lay_back h3 hs.1] at hr
   rw [← h2] at hr
   refine wpIn_mono (ih top r b _ fr' a' w' ht h1 hr) fun e a'' w'' hp=>?_
   have hp':=hp.trans (fun _=>h2) h3 h5
   cases e <;> try exact hp'
   obtain ⟨fr'',k1,k2,k3,k4,k5⟩:=hp'
   have e1:a'.tmps.toList=fr':=by rw [show a'.tmps=fr'.toArray from h1]
   have e2:a''.tmps.toList=fr'':=by rw [show a''.tmps=fr''.toArray from k1]
   refine ⟨⟨fr'',k1,k2 hs.2,k3,k4.1,k5⟩,?_⟩
   rw [e1,e2]
   exact k4.2
 | scope c ih=>
   intro top r ann Q fr a w ht ha h
   have h':vc P qf top c ann (scp Q) fr a.defers w.heap:=by cases top <;> exact h
   refine wpIn_scope (wpIn_mono (ih top r ann (scp Q) fr a w ht ha h') fun e a' w' hp=>?_)
   cases e <;> try exact hp
   obtain ⟨fr',h1,h2,h3,h4,h5⟩:=hp
   exact h4.elim
 | goto l=>intro top r ann Q fr a w ht ha h; cases top <;> exact h.elim
 | refuse why=>intro top r ann Q fr a w ht ha h; cases top <;> exact h.elim
 | rangeFunc g ps x y ihx ihy=>
   intro top r ann Q fr a w ht ha h
   cases top with
   | false=>exact h.elim
   | true=>
     have hr:=ht rfl
     subst hr
     unfold vc at h
     split at h
     · rename_i l r'
       obtain ⟨⟨f,first,cap,hg⟩,h⟩:=h
       have hga:a.eval g=.func (.func f) first cap:=by rw [ha.ev]; exact hg
       refine wpIn_rangeFunc fun fn _=>?_
       let rec0:Loop:={ state:=.ready,pending:=none,fn:=fn,tmps:=a.tmps,params:=ps,assign:=x,body:=y,defers:=w.heap.size }
       let H1:Hp:=(w.heap.push (.deferred (some []))).push (.loop rec0)
       let w1:World:={ w with heap:=H1 }
       have hs1:H1.size=w.heap.size+2:=by simp [H1]
       have hlp:LpAt rec0 (w.heap.size+1) .ready none H1:=by
         show H1[w.heap.size+1]?=_
         simp only [H1]
         rw [Array.getElem?_push,if_pos (by simp)]; rfl
       have hdf:H1[w.heap.size]?=some (.deferred (some [])):=by
         simp only [H1]
         rw [Array.getElem?_push,if_neg (by simp),Array.getElem?_push,if_pos rfl]
       have hcall:=h rec0 (w.heap.size+1) w.heap.size (.func (.yield (w.heap.size+1)) #[] #[]) H1 ((Ext.push _ _).trans (Ext.push _ _)) (Nat.le_refl _) (by omega) (by omega) hdf hlp (by
         intro s H2 K hl2 hround
         unfold CallV
         simp only
         unfold Yld
         rw [show H2[w.heap.size+1]?=_ from hl2]
         simp only
         refine ⟨by simp [rec0,tupL_len],?_⟩
         intro w2 hw2
         subst hw2
         refine roundIn_of_wpIn (F:=ZV none) (n:=0) trivial ?_
         have ha0:At { tmps:=((ps.zip (tupL ps.size s).toArray).foldl (fun tmps (x:Nat × Value)=>tmps.setIfInBounds x.1 x.2) a.tmps),defers:=[] } (setL fr (ps.toList.zip (tupL ps.size s))):=by
           have ht':a.tmps=fr.toArray:=ha
           show _=_
           simp only
           rw [← setL_at,ht',← Array.foldl_toList]
           simp
         have hA:=ihx false (some (w.heap.size+1)) l _ _ _ w2 (fun e=>by cases e) ha0 hround
         refine wpIn_mono hA fun e a1 w3 hp=>?_
         obtain ⟨fr1,k1,k2,_,k4,k5⟩:=hp
         cases e <;> simp only [asgQ] at k4 <;> try exact k4.elim
         obtain ⟨hl3,hbody⟩:=k4
         refine ⟨_,begin_ok hl3,?_⟩
         have hB:=ihy false (some (w.heap.size+1)) r' _ fr1 a1 { w3 with heap:=setLp rec0 (w.heap.size+1) .busy none w3.heap } (fun e=>by cases e) k1 hbody
         refine wpIn_mono hB fun e a2 w4 hp=>?_
         obtain ⟨fr2,j1,j2,_,j4,j5⟩:=hp
         have hsm:Sm w2 w4:=k5.trans ⟨j5.os,j5.out,j5.tape⟩
         have fin:∀ j:Jmp,(LpAt rec0 (w.heap.size+1) .busy none w4.heap∧K (.bool j.isNone) (setLp rec0 (w.heap.size+1) (if j.isNone then .ready else .done) j w4.heap)) →
             ∃ v w',(Instr.endRound (w.heap.size+1) (Yr j)).run P w4=.ok v w'∧∃ v',Ending.returned v=.returned v'∧K v' w'.heap∧Sm w2 w':=fun j hj=>
           ⟨_,_,end_ok hj.1,_,rfl,hj.2,hsm.trans ⟨rfl,rfl,rfl⟩⟩
         cases e <;> simp only [rndQ] at j4 <;> try exact j4.elim
         · exact fin none j4
         · exact fin (some (some _)) j4
         · exact fin (some none) j4)
       rw [hg] at hcall
       obtain ⟨hen,hfc⟩:=hcall
       refine ⟨w.heap.size+1,[markD w.heap.size],w1,{ target:=.fn (.func f) cap,args:=first++#[.func (.yield (w.heap.size+1)) #[] #[]] },w1,f,(first++#[.func (.yield (w.heap.size+1)) #[] #[]])++cap,w1,?_,?_,fun _ _=>trivial,?_,fun h=>by simp [ZV,Fence.wide] at h,?_⟩
       · simp [Instr.enterLoop,newObj,ZV,Sem.run,markD,w1,H1,rec0]
         rfl
       · unfold resolve
         simp only [rangeCall,hga]
         simp [Deferred.ofValue,Act.eval]
       · have:=enter_ok hen ((first++#[.func (.yield (w.heap.size+1)) #[] #[]])++cap) w1
         simpa [invoke] using this
       · have e1:((first.toList++#[Value.func (.yield (w.heap.size+1)) #[] #[]].toList)++cap.toList).toArray=(first++#[.func (.yield (w.heap.size+1)) #[] #[]])++cap:=by simp
         rw [e1] at hfc
         refine CallsIn.mono (hfc w1 rfl) fun e w5 ⟨v,he,hpost,hsm⟩=>?_
         subst he
         obtain ⟨st,j,hst,hlpj,haft⟩:=hpost
         refine ⟨_,_,endLoop_ok hst hlpj,?_⟩
         have hsm':Sm w { w5 with heap:=setLp rec0 (w.heap.size+1) .exhausted j w5.heap }:=⟨hsm.os,hsm.out,hsm.tape⟩
         match j,haft with
         | none,haft=>exact ⟨fr,ha,fun h=>(by cases h),Agree.refl _ _,haft,hsm'⟩
         | some none,haft=>exact wpIn_ret ⟨fr,ha,fun h=>(by cases h),Agree.refl _ _,haft,hsm'⟩
         | some (some id),haft=>exact wpIn_exit ⟨fr,ha,fun h=>(by cases h),Agree.refl _ _,haft,hsm'⟩
     · exact h.elim
end
section
variable {P:Program} {qf:FuncId→Bool}
def resE (P:Program) (rv:ResultVar) (fr:Fr) (H:Hp):Option Value:=
 match rv with
 | .tmp t=>some (slot fr t)
 | .cell t T=>zb (ldK P T) (slot fr t) H
def resAll (P:Program) (fr:Fr) (H:Hp):List ResultVar→Option (List Value)
 | []=>some []
 | r :: rs=>match resE P r fr H with
   | some v=>match resAll P fr H rs with
     | some vs=>some (v :: vs)
     | none=>none
   | none=>none
def mkRes (vs:List Value):Value:=
 match vs with
 | [v]=>v
 | vs=>.tuple vs.toArray
def resK (P:Program) (fr:Fr) (H:Hp) (R:Value→Hp→Prop):List ResultVar→List Value→Prop
 | [],acc=>R (mkRes acc.reverse) H
 | .tmp t :: rs,acc=>resK P fr H R rs (slot fr t :: acc)
 | .cell t T :: rs,acc=>Pu (zb (ldK P T) (slot fr t) H) fun v=>resK P fr H R rs (v :: acc)
def Res (P:Program) (rs:List ResultVar) (fr:Fr) (H:Hp) (R:Value→Hp→Prop):Prop:=resK P fr H R rs []
theorem resK_all {P:Program} {fr:Fr} {H:Hp} {R:Value→Hp→Prop}:∀ (rs:List ResultVar) (acc:List Value),resK P fr H R rs acc→∃ vs,resAll P fr H rs=some vs∧R (mkRes (acc.reverse++vs)) H
 | [],acc,h=>⟨[],rfl,by simpa [resK] using h⟩
 | .tmp t :: rs,acc,h=>by
   obtain ⟨vs,h1,h2⟩:=resK_all rs _ h
   exact ⟨slot fr t :: vs,by simp [resAll,resE,h1],by simpa using h2⟩
 | .cell t T :: rs,acc,h=>by
   obtain ⟨v,hv,h⟩:=h
   obtain ⟨vs,h1,h2⟩:=resK_all rs _ h
   exact ⟨v :: vs,by simp [resAll,resE,hv,h1],by simpa using h2⟩
def padF (args:List Value) (n:Nat):Fr:=args++List.replicate (n - args.length) undef
def TakeD (r:Nat) (H:Hp) (K:Hp→Prop):Prop:=H[r]?=some (.deferred (some []))∧K (H.setIfInBounds r (.deferred none))
def VcEnd:List Deferred→Hp→(Hp→Prop)→Prop
 | [],H,K=>K H
 | ⟨.collected r,_⟩ :: ds,H,K=>TakeD r H fun H'=>VcEnd ds H' K
 | _ :: _,_,_=>False
def retQ (P:Program) (fn:Func) (R:Value→Hp→Prop):Exit→Ks
 | .normal,fr,ds,H=>VcEnd ds H fun H'=>Res P fn.results.toList fr H' R
 | .ret,fr,ds,H=>VcEnd ds H fun H'=>Res P fn.results.toList fr H' R
 | _,_,_,_=>False
def VcFn (P:Program) (qf:FuncId→Bool) (fn:Func) (ann:Ann) (args:List Value) (H:Hp) (R:Value→Hp→Prop):Prop:=
 match fn.body with
 | none=>False
 | some c=>vc P qf true c ann (retQ P fn R) (padF args fn.ntmps) [] H
def resSem (tmps:Array Value):ResultVar→Sem Value
 | .tmp t=>pure (tmps.getD t undef)
 | .cell x t=>do loadVar t (← asAddr (tmps.getD x undef))
theorem results_eq (fn:Func) (tmps:Array Value):results fn tmps=(do
   let vs ← fn.results.toList.mapM (resSem tmps)
   pure (if h:vs.toArray.size=1 then vs.toArray[0] else .tuple vs.toArray)):=by
 have e:results fn tmps=(do
     let vs ← fn.results.mapM (resSem tmps)
     pure (if h:vs.size=1 then vs[0] else .tuple vs)):=by
   unfold results
   congr 2
 rw [e,← Array.toArray_toList (xs:=fn.results),List.mapM_toArray]
 simp only [bind_map_left]
theorem resE_ok {rv:ResultVar} {fr:Fr} {a:Act} (ha:At a fr) {w:World} {v:Value} (h:resE P rv fr w.heap=some v):(resSem a.tmps rv).run P w=.ok v w:=by
 cases rv with
 | tmp t=>simp only [resE,Option.some.injEq] at h; subst h; unfold resSem; simp only [ha.slot]; rfl
 | cell x T=>
   simp only [resE] at h
   have hp:∃ b,slot fr x=.pointer (some b):=by
     unfold zb at h
     split at h
     · rename_i b _ hb; exact ⟨b,hb⟩
     · rename_i b _ hb; exact ⟨b,hb⟩
     · cases h
   obtain ⟨b,hb⟩:=hp
   rw [hb] at h
   simp only [resSem,ha.slot,hb,asAddr,Sem.run_bind,Sem.run_pure,Result.andThen_ok]
   exact loadVar_ok h
theorem resAll_ok {fr:Fr} {a:Act} (ha:At a fr) {w:World}:∀ (rs:List ResultVar) (vs:List Value),resAll P fr w.heap rs=some vs →
   (rs.mapM (resSem a.tmps)).run P w=.ok vs w∧vs.length=rs.length
 | [],vs,h=>by simp only [resAll,Option.some.injEq] at h; subst h; exact ⟨rfl,rfl⟩
 | r :: rs,vs,h=>by
   simp only [resAll] at h
   cases h1:resE P r fr w.heap with
   | none=>simp [h1] at h
   | some v=>
     simp only [h1] at h
     cases h2:resAll P fr w.heap rs with
     | none=>simp [h2] at h
     | some vs'=>
       simp only [h2,Option.some.injEq] at h
       subst h
       obtain ⟨k1,k2⟩:=resAll_ok ha rs vs' h2
       rw [List.mapM_cons]
       exact ⟨by simp only [Sem.run_bind,resE_ok ha h1,Result.andThen_ok,k1,Sem.run_pure],by simp [k2]⟩
theorem results_ok {fn:Func} {fr:Fr} {a:Act} (ha:At a fr) {w:World} {R:Value→Hp→Prop} (h:Res P fn.results.toList fr w.heap R):∃ v,(results fn a.tmps).run P w=.ok v w∧R v w.heap:=by
 rw [results_eq]
 obtain ⟨vs,hv,hR⟩:=resK_all _ _ h
 refine ⟨_,?_,hR⟩
 simp only [Sem.run_bind,(resAll_ok ha _ _ hv).1,Result.andThen_ok,Sem.run_pure]
 have e:(if h:vs.toArray.size=1 then vs.toArray[0] else Value.tuple vs.toArray)=mkRes ([].reverse++vs):=by
   match vs with
   | []=>rfl
   | [v]=>rfl
   | v :: u :: vs=>simp [mkRes]
 rw [e]
theorem ends_ok {fn:Func} {tmps:Array Value} {R:Value→Hp→Prop} {w0:World}:∀ (ds:List Deferred) (w:World),Sm w0 w→(∀ w',Sm w0 w'→Res P fn.results.toList tmps.toList w'.heap R→LeavesInM (ZV none) 0 P fn tmps (fun e w'=>∃ v,e=.returned v∧R v w'.heap∧Sm w0 w') [] .returning w') →
   VcEnd ds w.heap (fun H'=>Res P fn.results.toList tmps.toList H' R)→LeavesInM (ZV none) 0 P fn tmps (fun e w'=>∃ v,e=.returned v∧R v w'.heap∧Sm w0 w') ds .returning w
 | [],w,hs,hb,h=>hb w hs h
 | ⟨t,aq⟩ :: ds,w,hs,hb,h=>by
   cases t <;> try exact h.elim
   rename_i r
   obtain ⟨h1,h2⟩:=h
   refine ⟨by simp,.inl ⟨r,{ w with heap:=w.heap.setIfInBounds r (.deferred none) },rfl,?_,ends_ok ds _ (hs.trans ⟨rfl,rfl,rfl⟩) hb h2⟩⟩
   simp [Instr.takeDeferred,getObj,setObj,Sem.run,h1,bind,Sem.bind]
theorem zs {f:FuncId} {fn:Func} (qf:FuncId→Bool) (ann:Ann) (hf:P.funcs[f]?=some fn) {args:List Value} {H:Hp} {R:Value→Hp→Prop} (h:VcFn P qf fn ann args H R):Fc P f args.toArray H R:=by
 intro w hw
 subst hw
 unfold VcFn at h
 cases hb:fn.body with
 | none=>simp only [hb] at h
 | some c=>
   simp only [hb] at h
   refine callsIn_of_wp_marks hf hb trivial ?_ rfl
   have ha:At { tmps:=args.toArray++Array.replicate (fn.ntmps - args.toArray.size) undef,defers:=[] } (padF args fn.ntmps):=by
     simp [At,padF]
   refine wpIn_mono (vc_sound c true none ann _ _ _ w (fun _=>rfl) ha h) fun e a' w' hp=>?_
   obtain ⟨fr',h1,h2,_,h4,h5⟩:=hp
   have ht:a'.tmps.toList=fr':=by rw [show a'.tmps=fr'.toArray from h1]
   have fin:VcEnd a'.defers w'.heap (fun H'=>Res P fn.results.toList fr' H' R)→LeavesInM (ZV none) 0 P fn a'.tmps (fun e w'=>∃ v,e=.returned v∧R v w'.heap∧Sm w w') a'.defers .returning w':=fun h=>by
     refine ends_ok a'.defers w' h5 (fun w2 hs hr=>?_) (by rw [ht]; exact h)
     rw [ht] at hr
     obtain ⟨v,hv,hR⟩:=results_ok h1 hr
     exact ⟨v,hv,v,rfl,hR,hs⟩
   cases e <;> simp only [retQ] at h4 <;> try exact h4.elim
   · exact fin h4
   · exact fin h4
end
def Box (T:TypeId) (v:Value) (H:Hp) (K:Value→Hp→Prop):Prop:=K (.pointer (some ⟨H.size,0,none⟩)) (H.push (.cells v.cells T))
def NewS (T:TypeId) (n:Nat) (cs:Array Value) (H:Hp) (K:Value→Hp→Prop):Prop:=K (.slice (some ⟨H.size,0,none⟩) n n) (H.push (.cells cs T))
def NewMap (H:Hp) (K:Value→Hp→Prop):Prop:=K (.map (some H.size)) (H.push (.map #[] 0))
def w64 (x:Int):Int:=IntKind.i64.wrap x
theorem w64_id {x:Int} (h0 : -9223372036854775808≤x) (h1:x≤9223372036854775807):w64 x=x:=by
 unfold w64 IntKind.wrap
 simp [IntKind.bits,IntKind.signed]
 omega
theorem zg {x:Int} (h0 : -9223372036854775808≤x) (h1:x≤9223372036854775807):IntKind.i64.wrap x=x:=w64_id h0 h1
theorem u8wrap_id {x:Int} (h0:0≤x) (h1:x≤255):IntKind.u8.wrap x=x:=by
 unfold IntKind.wrap; simp [IntKind.bits,IntKind.signed]; omega
theorem Zv {x:Int} (h0:0≤x) (h1:x≤65535):IntKind.u16.wrap x=x:=by
 unfold IntKind.wrap; simp [IntKind.bits,IntKind.signed]; omega
theorem Zk {x:Int} (h0:0≤x) (h1:x≤4294967295):IntKind.u32.wrap x=x:=by
 unfold IntKind.wrap; simp [IntKind.bits,IntKind.signed]; omega
theorem Zl {a b:Int} (h0:0≤a):a.tdiv b=a / b:=Int.tdiv_eq_ediv_of_nonneg h0
theorem Za {a b:Int} (h0:0≤a):a.tmod b=a % b:=Int.tmod_eq_emod_of_nonneg h0
section
variable {td:Option TypeDesc} {k:IntKind} {a b:Int}
theorem beq_kind (k:IntKind):(k == k)=true:=by cases k <;> rfl
theorem Z4 (op:BinOp):zo td op (.int k a) (.int k b)=binI op k a b:=by
 simp [zo,beq_kind]
theorem zk:zo td .add (.int k a) (.int k b)=some (.int k (k.wrap (a+b))):=by rw [Z4]; rfl
theorem zO:zo td .sub (.int k a) (.int k b)=some (.int k (k.wrap (a - b))):=by rw [Z4]; rfl
theorem zX:zo td .mul (.int k a) (.int k b)=some (.int k (k.wrap (a*b))):=by rw [Z4]; rfl
theorem Zh (h:b≠0):zo td .quo (.int k a) (.int k b)=some (.int k (k.wrap (a.tdiv b))):=by rw [Z4]; simp [binI,h]
theorem zW (h:b≠0):zo td .rem (.int k a) (.int k b)=some (.int k (a.tmod b)):=by rw [Z4]; simp [binI,h]
theorem binE_or:zo td .or (.int k a) (.int k b)=some (.int k (bitsE .or k a b)):=by rw [Z4]; rfl
theorem zr:zo td .lss (.int k a) (.int k b)=some (.bool (decide (a<b))):=by rw [Z4]; rfl
theorem Yp:zo td .leq (.int k a) (.int k b)=some (.bool (decide (a≤b))):=by rw [Z4]; rfl
theorem zL:zo td .gtr (.int k a) (.int k b)=some (.bool (decide (b<a))):=by rw [Z4]; rfl
theorem zQ:zo td .geq (.int k a) (.int k b)=some (.bool (decide (b≤a))):=by rw [Z4]; rfl
theorem zy:zo td .eql (.int k a) (.int k b)=some (.bool (decide (a=b))):=by
 rw [Z4]; simp only [binI,Option.some.injEq,Value.bool.injEq]; exact (by rw [Bool.eq_iff_iff]; simp)
theorem zw:zo td .neq (.int k a) (.int k b)=some (.bool (decide (a≠b))):=by
 rw [Z4]; simp only [binI,Option.some.injEq,Value.bool.injEq]; exact (by rw [Bool.eq_iff_iff]; simp)
theorem binE_shl {k':IntKind} (h:0≤b):zo td .shl (.int k a) (.int k' b)=some (.int k (k.wrap (a*2 ^ (min b.toNat k.bits)))):=by
 have:¬ b<0:=by omega
 simp [zo,isShift,binI,this]
theorem binE_eqb (x y:Bool):zo (some .bool) .eql (.bool x) (.bool y)=some (.bool (x == y)):=rfl
theorem binE_neb (x y:Bool):zo (some .bool) .neq (.bool x) (.bool y)=some (.bool (!(x == y))):=rfl
theorem zT (x:Bool):unE .not (.bool x)=some (.bool !x):=rfl
theorem zE (s:IntKind) (d:IntKind):z9 (some (.int s)) (some (.int d)) (.int k a)=some (.int d (d.wrap a)):=rfl
theorem min_int {k':IntKind}:minE (.int k a) (.int k' b)=some (.int k (min a b)):=by
 simp only [minE,Option.some.injEq,Value.int.injEq,true_and]; split <;> omega
end
theorem Zz {x:Bool} {A B:Prop}:Ite (.bool x) A B=((x=true→A)∧(x=false→B)):=by
 cases x <;> simp [Ite]
theorem zf {p:Prop} [Decidable p] {A B:Prop}:Ite (.bool (decide p)) A B=((p→A)∧(¬ p→B)):=by
 by_cases h:p <;> simp [Ite,h]
theorem yy {x:Bool} {A B:Prop}:Ite (.bool (!x)) A B=((x=false→A)∧(x=true→B)):=by
 cases x <;> simp [Ite]
theorem Zm {A B:Prop}:Ite (.bool true) A B=A:=rfl
theorem zn {A B:Prop}:Ite (.bool false) A B=B:=rfl
theorem zt {X:Prop}:(Any fun _=>X)=X:=by
 apply propext; exact ⟨fun h=>h fun _=>undef,fun h _=>h⟩
theorem zl {H:Hp} {K:Hp→Prop}:ForX true H K=∀ H',Ext H H'→K H':=rfl
theorem zi {o b i:Nat}:zd (some o) (.pointer (some ⟨b,i,none⟩))=some (.pointer (some ⟨b,i+o,none⟩)):=by
 simp [zd,Addr.add_mk]
theorem idx_arr {n s b i:Nat} {k:IntKind} {j:Int} (h0:0≤j) (h1:j<n):zh (some (some n,s)) (.pointer (some ⟨b,i,none⟩)) (.int k j)=some (.pointer (some ⟨b,i+j.toNat*s,none⟩)):=by
 simp [zh,h0,h1,Addr.add_mk]
theorem idx_slc {n c s b i:Nat} {k:IntKind} {j:Int} (h0:0≤j) (h1:j<n):zh (some (none,s)) (.slice (some ⟨b,i,none⟩) n c) (.int k j)=some (.pointer (some ⟨b,i+j.toNat*s,none⟩)):=by
 simp [zh,h0,h1,Addr.add_mk]
theorem zq {H:Hp} {b i:Nat} {c:Array Value} {T:TypeId} {fr:Nat × Nat} (hb:H[b]?=some (.cells c T fr)):zb (some none) (.pointer (some ⟨b,i,none⟩)) H=c[i]?:=by
 simp [zb,YZ,hb]
theorem Zp {H:Hp} {b i n:Nat} {c:Array Value} {T:TypeId} {fr:Nat × Nat} (hb:H[b]?=some (.cells c T fr)) (h:i+n≤c.size):zb (some (some n)) (.pointer (some ⟨b,i,none⟩)) H=some (.agg (c.extract i (i+n))):=by
 simp [zb,rowH,hb,h]
theorem zV {H:Hp} {b n:Nat} {c:Array Value} {T:TypeId} {fr:Nat × Nat} (hb:H[b]?=some (.cells c T fr)) (h:c.size=n):zb (some (some n)) (.pointer (some ⟨b,0,none⟩)) H=some (.agg c):=by
 subst h
 rw [Zp hb (by omega)]; simp
theorem splice_one {c:Array Value} {i:Nat} {v:Value} (h:i<c.size):zZ c i #[v]=c.setIfInBounds i v:=by
 apply Array.ext_getElem?; intro j
 rw [zU (by simp; omega),Array.getElem?_setIfInBounds]
 by_cases h1:j<i
 · have:¬ i=j:=by omega
   simp [h1,this]
 · by_cases h2:i=j
   · subst h2; simp [h]
   · have h3:¬ j<i+1:=by omega
     simp [h1,h2,h3]
theorem splice_all {c vs:Array Value} (h:c.size=vs.size):zZ c 0 vs=vs:=by
 apply Array.ext_getElem?; intro j
 rw [zU (by omega)]
 by_cases h1:j<vs.size
 · simp [h1]
 · have h2:c.size≤j:=by omega
   simp [h1,h2]
theorem store_cell {H:Hp} {b i:Nat} {c:Array Value} {T:TypeId} {v:Value} (hb:H[b]?=some (.cells c T)) (h:i<c.size) (hv:v.oneCell'=true) (hc:v.cells=#[v]) :
   zj (some 1) (.pointer (some ⟨b,i,none⟩)) v H=some (H.setIfInBounds b (.cells (c.setIfInBounds i v) T)):=by
 have h1:i+1≤c.size:=by omega
 simp [zj,putH,hb,hc,h1,hv,splice_one h]
theorem store_all {H:Hp} {b n:Nat} {c vs:Array Value} {T:TypeId} (hb:H[b]?=some (.cells c T)) (h:c.size=n) (h':vs.size=n) (hv:(vs.all fun v=>v.oneCell')=true) :
   zj (some n) (.pointer (some ⟨b,0,none⟩)) (.agg vs) H=some (H.setIfInBounds b (.cells vs T)):=by
 have h1:vs.size≤c.size:=by omega
 subst h'
 simp [zj,putH,hb,Value.cells,splice_all (show c.size=vs.size by omega),h1]
 simpa using hv
theorem cells_int (k:IntKind) (a:Int):(Value.int k a).cells=#[.int k a]:=rfl
theorem zP (c:Array Value):(Value.agg c).cells=c:=rfl
theorem Z8 (H:Hp) (o:Obj):(H.push o)[H.size]?=some o:=by simp
theorem ZF {H:Hp} {b:Nat} {o x:Obj} (h:H[b]?=some x):(H.setIfInBounds b o)[b]?=some o:=by
 have:=ZH h
 simp [Array.getElem?_setIfInBounds,this]
theorem get_set_other {H:Hp} {b c:Nat} {o:Obj} (h:b≠c):(H.setIfInBounds b o)[c]?=H[c]?:=by
 simp [Array.getElem?_setIfInBounds,h]
structure IsB (c:Array Value):Prop where
 size:c.size=1024
 cell:∀ i,i<1024→∃ n:Nat,n<256∧c[i]?=some (.int .u8 n)
def byt (c:Array Value) (i:Nat):Nat:=match c[i]? with | some (.int _ n)=>n.toNat | _=>0
theorem IsB.get {c:Array Value} (h:IsB c) {i:Nat} (hi:i<1024):c[i]?=some (.int .u8 (byt c i)):=by
 obtain ⟨n,_,hn⟩:=h.cell i hi
 simp [byt,hn]
theorem IsB.lt {c:Array Value} (h:IsB c) (i:Nat):byt c i<256:=by
 by_cases hi:i<1024
 · obtain ⟨n,h1,hn⟩:=h.cell i hi
   simpa [byt,hn] using h1
 · have:c[i]?=none:=Array.getElem?_eq_none (by rw [h.size]; omega)
   simp [byt,this]
theorem IsB.set {c:Array Value} (h:IsB c) (k:Nat) {m:Nat} (hm:m<256):IsB (c.setIfInBounds k (.int .u8 m)):=by
 refine ⟨by simp [h.size],fun i hi=>?_⟩
 rw [Array.getElem?_setIfInBounds]
 by_cases hk:k=i
 · subst hk; exact ⟨m,hm,by simp [h.size,hi]⟩
 · rw [if_neg hk]; exact h.cell i hi
theorem byt_set {c:Array Value} (h:IsB c) {k:Nat} (hk:k<1024) (m i:Nat):byt (c.setIfInBounds k (.int .u8 m)) i=if k=i then m else byt c i:=by
 unfold byt
 rw [Array.getElem?_setIfInBounds]
 by_cases hki:k=i
 · subst hki; simp [h.size,hk]
 · simp [hki]
theorem IsB.ext {a b:Array Value} (ha:IsB a) (hb:IsB b) (h:∀ i,i<1024→byt a i=byt b i):a=b:=by
 apply Array.ext_getElem?
 intro i
 by_cases hi:i<1024
 · rw [ha.get hi,hb.get hi,h i hi]
 · rw [Array.getElem?_eq_none (by rw [ha.size]; omega),Array.getElem?_eq_none (by rw [hb.size]; omega)]
theorem isB_zero:IsB (Array.replicate 1024 (.int .u8 0)):=⟨by simp,fun i hi=>⟨0,by omega,by simp [Array.getElem?_replicate,hi]⟩⟩
theorem IsB.all {c:Array Value} (h:IsB c):(c.all fun v=>v.oneCell')=true:=by
 rw [Array.all_eq_true]
 intro i hi
 have h1:=h.get (i:=i) (by rw [← h.size]; exact hi)
 rw [Array.getElem?_eq_getElem hi] at h1
 injection h1 with h1
 rw [h1]; rfl
theorem eqAll_dec {α:Type} {f:α→Option Bool} {g:α→Prop} [DecidablePred g]:∀ {l:List α},(∀ a∈l,f a=some (decide (g a)))→YE f l=some (decide (∀ a∈l,g a))
 | [],_=>by simp [YE]
 | a :: l,h=>by
   unfold YE
   rw [h a List.mem_cons_self]
   by_cases hg:g a
   · simp only [hg,decide_true]
     rw [eqAll_dec (fun b hb=>h b (List.mem_cons_of_mem _ hb))]
     simp [hg]
   · simp [hg]
structure IntRow (P:Program) (T:TypeId) (n:Nat) (k:IntKind):Prop where
 row:∃ e,P.underlying T=some (.array n e)∧P.underlying e=some (.int k)∧P.cellsOf e=1∧(P.info? e).isSome=true
 guard:P.eqGuardType P.depth T=false
open Classical in
theorem eqT_row {P:Program} {T:TypeId} {n:Nat} {k:IntKind} (hr:IntRow P T n k) {a b:Array Value} (ha:∀ i,i<n→∃ x,a[i]?=some (.int k x)) (hb:∀ i,i<n→∃ x,b[i]?=some (.int k x)) (d:Nat) :
   eqT P (d+2) T (.agg a) (.agg b)=some (decide (∀ i,i∈List.range n→a[i]?=b[i]?)):=by
 obtain ⟨e,hu,he,hc,hi⟩:=hr.row
 have hl:ldK P e=some none:=by unfold ldK; rw [he]
 unfold eqT
 rw [hu]
 simp only
 cases hinf:P.info? e with
 | none=>rw [hinf] at hi; cases hi
 | some inf=>
   simp only [Option.bind_some,hl,hc,Nat.mul_one,yK]
   apply eqAll_dec
   intro i hi
   obtain ⟨x,hx⟩:=ha i (List.mem_range.1 hi)
   obtain ⟨y,hy⟩:=hb i (List.mem_range.1 hi)
   rw [hx,hy]
   simp only [Option.bind_some]
   unfold eqT
   rw [he]
   simp only [if_true,Option.some.injEq,Value.int.injEq,true_and]
   rw [Bool.eq_iff_iff]; simp
open Classical in
theorem eqX_row {P:Program} {T:TypeId} {n:Nat} {k:IntKind} (hr:IntRow P T n k) {a b:Array Value} (hsa:a.size=n) (hsb:b.size=n) (ha:∀ i,i<n→∃ x,a[i]?=some (.int k x)) (hb:∀ i,i<n→∃ x,b[i]?=some (.int k x)) {lit:Bool} {H:Hp} :
   eqE P T lit (.agg a) (.agg b) H=some (decide (a=b)):=by
 have h:=eqT_row hr ha hb 9998
 obtain ⟨e,hu,_⟩:=hr.row
 unfold eqE eqD
 rw [hu]
 simp only [hr.guard,Bool.false_eq_true,if_false]
 rw [h,Option.some.injEq,Bool.eq_iff_iff,decide_eq_true_iff,decide_eq_true_iff]
 constructor
 · intro h
   apply Array.ext_getElem?
   intro i
   by_cases hi:i<n
   · exact h i (List.mem_range.2 hi)
   · rw [Array.getElem?_eq_none (by omega),Array.getElem?_eq_none (by omega)]
 · rintro rfl _ _; rfl
open Classical in
theorem eqB {P:Program} {T:TypeId} (hr:IntRow P T 1024 .u8) {a b:Array Value} (ha:IsB a) (hb:IsB b) {lit:Bool} {H:Hp}:eqE P T lit (.agg a) (.agg b) H=some (decide (a=b)):=
 eqX_row hr ha.size hb.size (fun i hi=>⟨_,ha.get hi⟩) (fun i hi=>⟨_,hb.get hi⟩)
theorem eqB_false {P:Program} {T:TypeId} (hr:IntRow P T 1024 .u8) {a b:Array Value} (ha:IsB a) (hb:IsB b) (hne:a≠b) {lit:Bool} {H:Hp}:eqE P T lit (.agg a) (.agg b) H=some false:=by
 rw [eqB hr ha hb]; simp [hne]
theorem eqXE_eql {P:Program} {T:TypeId} {lit:Bool} {x y:Value} {H:Hp}:yH P T lit .eql x y H=(eqE P T lit x y H).map .bool:=rfl
theorem Ym {P:Program} {T:TypeId} {lit:Bool} {x y:Value} {H:Hp}:yH P T lit .neq x y H=(eqE P T lit x y H).map fun b=>.bool (!b):=rfl
def ZS:Value→Option Nat
 | .slice (some a) _ _=>some a.block
 | _=>none
theorem len_slice {P:Program} {T e:TypeId} {b:Option Addr} {n c:Nat} (hu:P.underlying T=some (.slice e)):lenE P T (.slice b n c)=some (.int .i64 n):=by
 unfold lenE; rw [hu]; rfl
structure Kp (S:Nat→Prop) (H H':Hp):Prop where
 le:H.size≤H'.size
 same:∀ b,b<H.size→¬ S b→H'[b]?=H[b]?
theorem Kp.refl (S:Nat→Prop) (H:Hp):Kp S H H:=⟨Nat.le_refl _,fun _ _ _=>rfl⟩
theorem Ext.kp {H H':Hp} (h:Ext H H') (S:Nat→Prop):Kp S H H':=⟨h.le,fun b hb _=>h.same b hb⟩
theorem Kp.mono {S S':Nat→Prop} {H H':Hp} (h:Kp S H H') (hs:∀ b,b<H.size→S b→S' b):Kp S' H H':=⟨h.le,fun b hb hn=>h.same b hb fun hS=>hn (hs b hb hS)⟩
theorem Kp.trans {S:Nat→Prop} {a b c:Hp} (h:Kp S a b) (h':Kp S b c):Kp S a c:=⟨Nat.le_trans h.le h'.le,fun k hk hn=>(h'.same k (Nat.lt_of_lt_of_le hk h.le) hn).trans (h.same k hk hn)⟩
theorem Kp.ext {S:Nat→Prop} {H H':Hp} (h:Kp S H H') (hs:∀ b,b<H.size→¬ S b):Ext H H':=⟨h.le,fun b hb=>h.same b hb (hs b hb)⟩
theorem Kp.at {S:Nat→Prop} {H H':Hp} (h:Kp S H H') {b:Nat} {o:Obj} (hb:H[b]?=some o) (hn:¬ S b):H'[b]?=some o:=by
 rw [h.same b (ZH hb) hn]; exact hb
theorem Kp.set (H:Hp) (b:Nat) (o:Obj):Kp (·=b) H (H.setIfInBounds b o):=⟨by simp,fun k hk hn=>get_set_other (fun e=>hn e.symm)⟩
theorem Kp.tr {S T U:Nat→Prop} {a b c:Hp} (h:Kp S a b) (h':Kp T b c) (hs:∀ k,k<a.size→S k→U k) (ht:∀ k,k<a.size→T k→U k):Kp U a c:=
 ⟨Nat.le_trans h.le h'.le,fun k hk hn=>(h'.same k (Nat.lt_of_lt_of_le hk h.le) fun hT=>hn (ht k hk hT)).trans (h.same k hk fun hS=>hn (hs k hk hS))⟩
theorem yc {T:TypeId} {v:Value} {H:Hp} {K:Value→Hp→Prop} (h:∀ b H',H.size=b→Ext H H'→H'.size=b+1→H'[b]?=some (.cells v.cells T)→K (.pointer (some ⟨b,0,none⟩)) H'):Box T v H K:=
 h _ _ rfl (Ext.push H _) (by simp) (Z8 H _)
theorem newS_i {T:TypeId} {n:Nat} {cs:Array Value} {H:Hp} {K:Value→Hp→Prop} (h:∀ b H',H.size=b→Ext H H'→H'.size=b+1→H'[b]?=some (.cells cs T)→K (.slice (some ⟨b,0,none⟩) n n) H'):NewS T n cs H K:=
 h _ _ rfl (Ext.push H _) (by simp) (Z8 H _)
theorem Yj {H:Hp} {K:Value→Hp→Prop} (h:∀ b H',H.size=b→Ext H H'→H'.size=b+1→H'[b]?=some (.map #[] 0)→K (.map (some b)) H'):NewMap H K:=
 h _ _ rfl (Ext.push H _) (by simp) (Z8 H _)
theorem YP {b i:Nat} {c:Array Value} {T:TypeId} {v:Value} {H:Hp} {K:Hp→Prop} (hb:H[b]?=some (.cells c T)) (hi:i<c.size) (hv:v.oneCell'=true) (hc:v.cells=#[v])
   (h:∀ H',Kp (·=b) H H'→H'.size=H.size→H'[b]?=some (.cells (c.setIfInBounds i v) T)→K H'):Pu (zj (some 1) (.pointer (some ⟨b,i,none⟩)) v H) K:=by
 rw [store_cell hb hi hv hc,za]
 exact h _ (Kp.set H b _) (by simp) (ZF hb)
theorem store_row {H:Hp} {b i n:Nat} {c vs:Array Value} {T:TypeId} (hb:H[b]?=some (.cells c T)) (h:i+n≤c.size) (h':vs.size=n) (hv:(vs.all fun v=>v.oneCell')=true) :
   zj (some n) (.pointer (some ⟨b,i,none⟩)) (.agg vs) H=some (H.setIfInBounds b (.cells (zZ c i vs) T)):=by
 subst h'
 simp [zj,putH,hb,Value.cells,h]
 simpa using hv
theorem storeRow_i {b i n:Nat} {c vs:Array Value} {T:TypeId} {H:Hp} {K:Hp→Prop} (hb:H[b]?=some (.cells c T)) (hi:i+n≤c.size) (hn:vs.size=n) (hv:(vs.all fun v=>v.oneCell')=true)
   (h:∀ H',Kp (·=b) H H'→H'.size=H.size→H'[b]?=some (.cells (zZ c i vs) T)→K H'):Pu (zj (some n) (.pointer (some ⟨b,i,none⟩)) (.agg vs) H) K:=by
 rw [store_row hb hi hn hv,za]
 exact h _ (Kp.set H b _) (by simp) (ZF hb)
theorem Zb {b n:Nat} {c vs:Array Value} {T:TypeId} {H:Hp} {K:Hp→Prop} (hb:H[b]?=some (.cells c T)) (hi:c.size=n) (hn:vs.size=n) (hv:(vs.all fun v=>v.oneCell')=true)
   (h:∀ H',Kp (·=b) H H'→H'.size=H.size→H'[b]?=some (.cells vs T)→K H'):Pu (zj (some n) (.pointer (some ⟨b,0,none⟩)) (.agg vs) H) K:=by
 rw [store_all hb hi hn hv,za]
 exact h _ (Kp.set H b _) (by simp) (ZF hb)
def zF (c:Array Value):Prop:=(c.all fun v=>v.oneCell')=true
structure Sv (T n:Nat) (H:Hp) (s:Value) (vs:List (Array Value)):Prop where
 is:∃ (base:Option Addr) (cap:Nat),s=.slice base vs.length cap∧vs.length≤cap∧(∀ v∈vs,v.size=n)∧(match base with
   | none=>cap=0
   | some a=>a.spot=none∧∃ cs,H[a.block]?=some (.cells cs T)∧a.off+cap*n≤cs.size∧∀ i v,vs[i]?=some v→cs.extract (a.off+i*n) (a.off+i*n+n)=v)
section
variable {T n:Nat} {H H':Hp} {s:Value} {vs:List (Array Value)}
theorem Sv.nil (T n:Nat) (H:Hp):Sv T n H (.slice none 0 0) []:=⟨none,0,rfl,Nat.le_refl _,by simp,rfl⟩
theorem Sv.of (h:Sv T n H s vs) (hb:∀ b,ZS s=some b→H'[b]?=H[b]?):Sv T n H' s vs:=by
 obtain ⟨base,cap,rfl,hle,hn,h⟩:=h
 refine ⟨base,cap,rfl,hle,hn,?_⟩
 cases base with
 | none=>exact h
 | some a=>
   obtain ⟨hsp,cs,hg,h⟩:=h
   exact ⟨hsp,cs,by rw [hb a.block rfl]; exact hg,h⟩
theorem Sv.ext (h:Sv T n H s vs) (hx:Ext H H'):Sv T n H' s vs:=by
 obtain ⟨base,cap,rfl,hle,hn,h⟩:=h
 refine ⟨base,cap,rfl,hle,hn,?_⟩
 cases base with
 | none=>exact h
 | some a=>
   obtain ⟨hsp,cs,hg,h⟩:=h
   exact ⟨hsp,cs,hx.at hg,h⟩
theorem Sv.lt (h:Sv T n H s vs) {b:Nat} (hb:ZS s=some b):b<H.size:=by
 obtain ⟨base,cap,rfl,hle,hn,h⟩:=h
 cases base with
 | none=>cases hb
 | some a=>
   obtain ⟨hsp,cs,hg,h⟩:=h
   injection hb with hb; subst hb
   exact ZH hg
theorem Sv.kp {S:Nat→Prop} (h:Sv T n H s vs) (hk:Kp S H H') (hs:∀ b,ZS s=some b→¬ S b):Sv T n H' s vs:=h.of fun b hb=>hk.same b (h.lt hb) (hs b hb)
theorem Sv.len (h:Sv T n H s vs):∃ b c,s=.slice b vs.length c:=by
 obtain ⟨base,cap,rfl,_⟩:=h; exact ⟨base,cap,rfl⟩
theorem Sv.one (h:Sv T n H s vs):s.cells=#[s]∧s.oneCell'=true:=by
 obtain ⟨b,c,rfl⟩:=h.len; exact ⟨rfl,rfl⟩
theorem Sv.lenE {P:Program} {S:TypeId} {e:TypeId} (h:Sv T n H s vs) (hu:P.underlying S=some (.slice e)):lenE P S s=some (.int .i64 vs.length):=by
 obtain ⟨b,c,rfl⟩:=h.len; exact len_slice hu
theorem Sv.elem (h:Sv T n H s vs) {i:Nat} {v:Array Value} (hi:vs[i]?=some v):∃ b o cs,ZS s=some b∧H[b]?=some (.cells cs T)∧o+n≤cs.size∧cs.extract o (o+n)=v ∧
   ∀ k,zh (some (none,n)) s (.int k i)=some (.pointer (some ⟨b,o,none⟩)):=by
 obtain ⟨base,cap,rfl,hle,hn,h⟩:=h
 have hlt:i<vs.length:=by
   rcases Nat.lt_or_ge i vs.length with h1 | h1
   · exact h1
   · rw [List.getElem?_eq_none h1] at hi; cases hi
 cases base with
 | none=>simp only at h; omega
 | some a=>
   obtain ⟨hsp,cs,hg,hsz,h⟩:=h
   obtain ⟨blk,off,sp⟩:=a
   simp only at hsp hg hsz h
   subst hsp
   have hm:(i+1)*n≤cap*n:=Nat.mul_le_mul_right n (by omega)
   rw [Nat.add_mul,Nat.one_mul] at hm
   refine ⟨blk,off+i*n,cs,rfl,hg,by omega,h i v hi,fun k=>?_⟩
   have:=@idx_slc vs.length cap n blk off k i (by omega) (by omega)
   simpa using this
theorem extract_get {cs v:Array Value} {o n j:Nat} (h:cs.extract o (o+n)=v) (ho:o+n≤cs.size) (hj:j<n):cs[o+j]?=v[j]?:=by
 rw [← h,Array.getElem?_extract,if_pos (by omega)]
theorem Sv.cell (h:Sv T n H s vs) {i j:Nat} {v:Array Value} (hi:vs[i]?=some v) (hj:j<n):∃ b o,(∀ k,zh (some (none,n)) s (.int k i)=some (.pointer (some ⟨b,o,none⟩)))∧zb (some none) (.pointer (some ⟨b,o+j,none⟩)) H=v[j]?:=by
 obtain ⟨b,o,cs,_,hg,hsz,hx,ha⟩:=h.elem hi
 exact ⟨b,o,ha,by rw [zq hg]; exact extract_get hx hsz hj⟩
theorem Sv.row (h:Sv T n H s vs) {i:Nat} {v:Array Value} (hi:vs[i]?=some v):∃ b o,(∀ k,zh (some (none,n)) s (.int k i)=some (.pointer (some ⟨b,o,none⟩)))∧zb (some (some n)) (.pointer (some ⟨b,o,none⟩)) H=some (.agg v):=by
 obtain ⟨b,o,cs,_,hg,hsz,hx,ha⟩:=h.elem hi
 exact ⟨b,o,ha,by rw [Zp hg hsz,hx]⟩
theorem Sv.size (h:Sv T n H s vs) {i:Nat} {v:Array Value} (hi:vs[i]?=some v):v.size=n:=by
 obtain ⟨base,cap,rfl,hle,hn,h⟩:=h
 exact hn v (List.mem_of_getElem? hi)
theorem Yb {c v:Array Value} {o n:Nat} (h:o+n≤c.size) (hv:v.size=n):(zZ c o v).extract o (o+n)=v:=by
 apply Array.ext_getElem?
 intro j
 rw [Array.getElem?_extract,z7 (by omega)]
 by_cases hj:j<n
 · rw [if_pos (by omega),zU (by omega),if_neg (by omega),if_pos (by omega)]
   congr 1; omega
 · rw [if_neg (by omega),Array.getElem?_eq_none (by omega)]
theorem yN {c v:Array Value} {o n o' m:Nat} (h:o+n≤c.size) (hv:v.size=n) (h':o'+m≤c.size) (hd:o'+m≤o∨o+n≤o'):(zZ c o v).extract o' (o'+m)=c.extract o' (o'+m):=by
 apply Array.ext_getElem?
 intro j
 rw [Array.getElem?_extract,Array.getElem?_extract,z7 (by omega)]
 by_cases hj:j<m
 · rw [if_pos (by omega),if_pos (by omega),zU (by omega)]
   by_cases h1:o'+j<o
   · rw [if_pos h1]
   · rw [if_neg h1,if_neg (by omega)]
 · rw [if_neg (by omega),if_neg (by omega)]
theorem Sv.put {K:Hp→Prop} (h:Sv T n H s vs) {i:Nat} (hi:i<vs.length) {v:Array Value} (hv:v.size=n) (hc:zF v):∃ b o,ZS s=some b∧(∀ k,zh (some (none,n)) s (.int k i)=some (.pointer (some ⟨b,o,none⟩))) ∧
   ((∀ H',Kp (·=b) H H'→H'.size=H.size→Sv T n H' s (vs.set i v)→K H')→Pu (zj (some n) (.pointer (some ⟨b,o,none⟩)) (.agg v) H) K):=by
 have h0:=h
 obtain ⟨base,cap,rfl,hle,hn,h⟩:=h
 cases base with
 | none=>simp only at h; omega
 | some a=>
   obtain ⟨hsp,cs,hg,hsz,h⟩:=h
   obtain ⟨blk,off,sp⟩:=a
   simp only at hsp hg hsz h
   subst hsp
   have hm:(i+1)*n≤cap*n:=Nat.mul_le_mul_right n (by omega)
   rw [Nat.add_mul,Nat.one_mul] at hm
   refine ⟨blk,off+i*n,rfl,fun k=>?_,fun hK=>?_⟩
   · have:=@idx_slc vs.length cap n blk off k i (by omega) (by omega)
     simpa using this
   · refine storeRow_i hg (by omega) hv hc fun H' hk hs hg'=>hK H' hk hs ?_
     refine ⟨some ⟨blk,off,none⟩,cap,by simp,by simpa using hle,fun x hx=>?_,rfl,_,hg',by rw [z7 (by omega)]; exact hsz,fun j x hj=>?_⟩
     · rcases List.mem_or_eq_of_mem_set hx with h1 | h1
       · exact hn x h1
       · rw [h1]; exact hv
     · rw [List.getElem?_set] at hj
       by_cases hij:i=j
       · subst hij
         rw [if_pos rfl,if_pos hi] at hj
         injection hj with hj; subst hj
         exact Yb (by omega) hv
       · rw [if_neg hij] at hj
         have hjl:j<vs.length:=by
           rcases Nat.lt_or_ge j vs.length with h1 | h1
           · exact h1
           · rw [List.getElem?_eq_none h1] at hj; cases hj
         have hm2:(j+1)*n≤cap*n:=Nat.mul_le_mul_right n (by omega)
         rw [Nat.add_mul,Nat.one_mul] at hm2
         have hd:off+j*n+n≤off+i*n∨off+i*n+n≤off+j*n:=by
           rcases Nat.lt_or_gt_of_ne hij with h1 | h1
           · have:=Nat.mul_le_mul_right n (show i+1≤j from h1); rw [Nat.add_mul,Nat.one_mul] at this; omega
           · have:=Nat.mul_le_mul_right n (show j+1≤i from h1); rw [Nat.add_mul,Nat.one_mul] at this; omega
         show (zZ cs (off+i*n) v).extract (off+j*n) (off+j*n+n)=x
         rw [yN (by omega) hv (by omega) hd]
         exact h j x hj
theorem Sv.cellsS (h:Sv T n H s vs):cellsS n s H=some (vs.flatMap (·.toList)).toArray:=by
 obtain ⟨base,cap,rfl,hle,hn,h⟩:=h
 have hfl:∀ (vs:List (Array Value)),(∀ v∈vs,v.size=n)→(vs.flatMap (·.toList)).length=vs.length*n:=by
   intro vs hn
   induction vs with
   | nil=>simp
   | cons v vs ih=>
     rw [List.flatMap_cons,List.length_append,ih (fun w hw=>hn w (List.mem_cons_of_mem _ hw)),List.length_cons,Nat.add_mul,Nat.one_mul,Array.length_toList,hn v List.mem_cons_self]; omega
 cases base with
 | none=>
   simp only at h
   have:vs=[]:=List.eq_nil_of_length_eq_zero (by omega)
   subst this; rfl
 | some a=>
   obtain ⟨hsp,cs,hg,hsz,h⟩:=h
   obtain ⟨blk,off,sp⟩:=a
   simp only at hsp hg hsz h
   subst hsp
   have hm:vs.length*n≤cap*n:=Nat.mul_le_mul_right n hle
   have:rowH H ⟨blk,off,none⟩ (vs.length*n)=some (cs.extract off (off+vs.length*n)):=by
     unfold rowH; simp only [hg]; rw [if_pos ⟨trivial,by omega⟩]
   show rowH H ⟨blk,off,none⟩ (vs.length*n)=_
   rw [this]
   congr 1
   apply Array.ext'
   have key:∀ (us:List (Array Value)) (o:Nat),(∀ v∈us,v.size=n)→(∀ i v,us[i]?=some v→cs.extract (o+i*n) (o+i*n+n)=v)→o+us.length*n≤cs.size →
       (cs.extract o (o+us.length*n)).toList=us.flatMap (·.toList):=by
     intro us
     induction us with
     | nil=>intro o _ _ _; simp
     | cons u us ih=>
       intro o hn h hs
       rw [List.length_cons,Nat.add_mul,Nat.one_mul] at hs ⊢
       have h1:=ih (o+n) (fun v hv=>hn v (List.mem_cons_of_mem _ hv)) (fun i v hi=>by
         have:=h (i+1) v (by simpa using hi)
         rw [Nat.add_mul,Nat.one_mul] at this
         rw [show o+n+i*n=o+(i*n+n) by omega]; exact this) (by omega)
       have h2:=h 0 u rfl
       rw [Nat.zero_mul,Nat.add_zero] at h2
       rw [List.flatMap_cons,← h1,← h2,show o+(us.length*n+n)=o+n+us.length*n by omega]
       rw [← Array.toList_append]
       congr 1
       apply Array.ext_getElem?
       intro j
       rw [Array.getElem?_append,Array.size_extract]
       simp only [Array.getElem?_extract]
       by_cases hj:j<n
       · rw [if_pos (by omega),if_pos (by omega),if_pos (by omega)]
       · rw [if_neg (show ¬ j<min (o+n) cs.size - o by omega)]
         by_cases hj2:j<n+us.length*n
         · rw [if_pos (by omega),if_pos (by omega)]; congr 1; omega
         · rw [if_neg (by omega),if_neg (by omega)]
   exact key vs off hn (fun i v hi=>h i v hi) (by omega)
end
def yL (vs:List (Array Value)):Array Value:=(vs.flatMap (·.toList)).toArray
section
variable {T n:Nat} {H H':Hp} {s:Value} {vs us:List (Array Value)}
theorem flatC_size (hn:∀ v∈vs,v.size=n):(yL vs).size=vs.length*n:=by
 unfold yL
 simp only [List.size_toArray]
 induction vs with
 | nil=>simp
 | cons v vs ih=>
   rw [List.flatMap_cons,List.length_append,ih (fun w hw=>hn w (List.mem_cons_of_mem _ hw)),List.length_cons,Nat.add_mul,Nat.one_mul,Array.length_toList,hn v List.mem_cons_self]; omega
theorem flatC_append:yL (vs++us)=yL vs++yL us:=by
 unfold yL; rw [List.flatMap_append]; simp
theorem flatC_get:∀ {vs:List (Array Value)} {i j:Nat} {v:Array Value},(∀ v∈vs,v.size=n)→vs[i]?=some v→j<n→(yL vs)[i*n+j]?=v[j]?
 | [],i,j,v,_,h,_=>by simp at h
 | u :: vs,0,j,v,hn,h,hj=>by
   simp only [List.getElem?_cons_zero,Option.some.injEq] at h
   subst h
   have hu:=hn u List.mem_cons_self
   have:yL (u :: vs)=u++yL vs:=by unfold yL; rw [List.flatMap_cons]; simp
   rw [this,Nat.zero_mul,Nat.zero_add,Array.getElem?_append_left (by omega)]
 | u :: vs,i+1,j,v,hn,h,hj=>by
   have hu:=hn u List.mem_cons_self
   have:yL (u :: vs)=u++yL vs:=by unfold yL; rw [List.flatMap_cons]; simp
   rw [this,Array.getElem?_append_right (by rw [hu,Nat.add_mul,Nat.one_mul]; omega),hu,Nat.add_mul,Nat.one_mul]
   rw [show i*n+n+j - n=i*n+j by omega]
   exact flatC_get (fun w hw=>hn w (List.mem_cons_of_mem _ hw)) (by simpa using h) hj
theorem flatC_ok (h:∀ v∈vs,zF v):zF (yL vs):=by
 unfold zF yL
 rw [List.all_toArray,List.all_eq_true]
 intro x hx
 rw [List.mem_flatMap] at hx
 obtain ⟨v,hv,hx⟩:=hx
 have:=h v hv
 unfold zF at this
 rw [← Array.all_toList,List.all_eq_true] at this
 exact this x hx
theorem yv {A v:Array Value} {o:Nat} (hv:v.size=n) (ho:o+n≤A.size) (h:∀ j,j<n→A[o+j]?=v[j]?):A.extract o (o+n)=v:=by
 apply Array.ext_getElem?
 intro j
 rw [Array.getElem?_extract]
 by_cases hj:j<n
 · rw [if_pos (by omega),h j hj]
 · rw [if_neg (by omega),Array.getElem?_eq_none (by omega)]
theorem Sv.cellsS' (h:Sv T n H s vs):Vc.cellsS n s H=some (yL vs):=h.cellsS
theorem app_many {e:ZT} (hT:e.type=T) (hs:e.size=n) (hz:e.zero.size=n) (hby:0<e.bytes) {x:Value} {T':Nat} (h:Sv T n H s vs) (hx:Sv T' n H x us) (hok:∀ u∈us,zF u)
   (hlim:(vs.length+us.length)*e.bytes≤2 ^ 47) {K:Value→Hp→Prop}
   (hk:∀ s' H',Sv T n H' s' (vs++us)→Kp (fun b=>ZS s=some b) H H'→(∀ b,ZS s'=some b→ZS s=some b∨H.size≤b)→K s' H') :
   Y2 (some e) s x H K:=by
 have hcx:=hx.cellsS'
 have hcs:=h.cellsS'
 have hlx:lenS x=us.length:=by obtain ⟨_,_,rfl⟩:=hx.len; rfl
 have hnu:∀ u∈us,u.size=n:=by obtain ⟨_,_,_,_,h1,_⟩:=hx.is; exact h1
 obtain ⟨base,cap,rfl,hle,hn,hb⟩:=h
 have hnn:∀ v∈vs++us,v.size=n:=fun v hv=>by
   rcases List.mem_append.1 hv with h1 | h1
   · exact hn v h1
   · exact hnu v h1
 have hfu:=flatC_size hnu
 have hfv:=flatC_size hn
 unfold Y2
 rw [za,hs,hcx,za,hlx]
 unfold App
 simp only
 by_cases hc:vs.length+us.length≤cap
 · rw [if_pos hc]
   cases base with
   | none=>
     simp only at hb
     have e1:vs=[]:=List.eq_nil_of_length_eq_zero (by omega)
     have e2:us=[]:=List.eq_nil_of_length_eq_zero (by omega)
     subst e1 e2 hb
     exact ⟨rfl,hk _ _ (Sv.nil T n H) (Kp.refl _ _) (fun b hb=>.inl hb)⟩
   | some a=>
     obtain ⟨hsp,cs,hg,hsz,hvals⟩:=hb
     obtain ⟨blk,off,sp⟩:=a
     simp only at hsp hg hsz hvals
     subst hsp
     have hm:(vs.length+us.length)*n≤cap*n:=Nat.mul_le_mul_right n hc
     rw [Nat.add_mul] at hm
     have hput:putH H ((⟨blk,off,none⟩:Addr).add (vs.length*e.size)) (yL us)=some (H.setIfInBounds blk (.cells (zZ cs (off+vs.length*n) (yL us)) T)):=by
       rw [Addr.add_mk,hs]
       unfold putH
       have hall:(yL us).all (fun v=>v.oneCell')=true:=flatC_ok hok
       simp only [hg,hall,and_true,true_and]
       rw [if_pos (by omega)]
     simp only [hput,za]
     refine hk _ _ ⟨some ⟨blk,off,none⟩,cap,by simp,by simpa using hc,hnn,rfl,_,ZF hg,by rw [z7 (by omega)]; exact hsz,fun i v hi=>?_⟩ (Kp.mono (Kp.set H blk _) fun b _ e=>by rw [e]; rfl) (fun b hb=>.inl hb)
     have hil:i<vs.length+us.length:=by
       rcases Nat.lt_or_ge i (vs++us).length with h1 | h1
       · simpa using h1
       · rw [List.getElem?_eq_none h1] at hi; cases hi
     by_cases h1:i<vs.length
     · rw [List.getElem?_append_left h1] at hi
       have hm2:=Nat.mul_le_mul_right n (show i+1≤vs.length from h1)
       rw [Nat.add_mul,Nat.one_mul] at hm2
       show (zZ cs (off+vs.length*n) (yL us)).extract (off+i*n) (off+i*n+n)=v
       rw [yN (n:=us.length*n) (by omega) hfu (by omega) (by omega)]
       exact hvals i v hi
     · have hi2:=hi
       rw [List.getElem?_append_right (by omega)] at hi
       have hm2:=Nat.mul_le_mul_right n (show i - vs.length+1≤us.length by omega)
       rw [Nat.add_mul,Nat.one_mul] at hm2
       have e3:i*n=vs.length*n+(i - vs.length)*n:=by rw [← Nat.add_mul]; congr 1; omega
       refine yv (hnn v (List.mem_of_getElem? hi2)) (by rw [z7 (by omega)]; simp only; omega) fun j hj=>?_
       rw [zU (by omega)]
       simp only
       rw [if_neg (by omega),if_pos (by omega),show off+i*n+j - (off+vs.length*n)=(i - vs.length)*n+j by omega]
       exact flatC_get hnu hi hj
 · rw [if_neg hc]
   refine ⟨hby,hlim,?_⟩
   rw [hs,hcs,za]
   intro cap' hcap
   have hsz2:(yL vs++yL us++Builtin.zeroCells e.zero (cap' - (vs.length+us.length))).size=cap'*n:=by
     simp only [Array.size_append,hfv,hfu,Builtin.zeroCells,Array.size_map,Array.size_range,hz]
     rw [← Nat.add_mul,← Nat.add_mul]; congr 1; omega
   refine hk _ _ ⟨some ⟨H.size,0,none⟩,cap',by simp,by simpa using hcap,hnn,rfl,yL vs++yL us++Builtin.zeroCells e.zero (cap' - (vs.length+us.length)),?_,?_,fun i v hi=>?_⟩ ((Ext.push H _).kp _) (fun b hb=>.inr ?_)
   · rw [hT]; exact Z8 H _
   · rw [hsz2]; simp
   · have hil:i<vs.length+us.length:=by
       rcases Nat.lt_or_ge i (vs++us).length with h1 | h1
       · simpa using h1
       · rw [List.getElem?_eq_none h1] at hi; cases hi
     have hm2:=Nat.mul_le_mul_right n (show i+1≤cap' by omega)
     have hm3:=Nat.mul_le_mul_right n (show i+1≤vs.length+us.length by omega)
     rw [Nat.add_mul,Nat.one_mul] at hm2
     rw [Nat.add_mul,Nat.add_mul,Nat.one_mul] at hm3
     refine yv (hnn v (List.mem_of_getElem? hi)) (by rw [hsz2]; simp only; omega) fun j hj=>?_
     rw [← flatC_append]
     have hsv:(yL (vs++us)).size=(vs.length+us.length)*n:=by rw [flatC_size hnn,List.length_append]
     simp only [Nat.zero_add]
     rw [Array.getElem?_append_left (by rw [hsv,Nat.add_mul]; omega)]
     exact flatC_get hnn hi hj
   · have:H.size=b:=by simpa [ZS] using hb
     omega
theorem Sv.single {b:Nat} {v:Array Value} (hb:H[b]?=some (.cells v T)) (hv:v.size=n):Sv T n H (.slice (some ⟨b,0,none⟩) 1 1) [v]:=
 ⟨some ⟨b,0,none⟩,1,rfl,Nat.le_refl _,by simpa using hv,rfl,v,hb,by simp [hv],fun i x hi=>by
   cases i with
   | zero=>simp only [List.getElem?_cons_zero,Option.some.injEq] at hi; subst hi; simp [← hv]
   | succ i=>simp at hi⟩
theorem Sv.slice {P:Program} {S e:TypeId} {i:TypeInfo} (h:Sv T n H s vs) (hu:P.underlying S=some (.slice e)) (hi:P.info? e=some i) (hz:i.size=n) {lo hi':Nat} (h1:lo≤hi') (h2:hi'≤vs.length)
   (a b:Option Value) (ha:a=some (.int .i64 lo)∨a=none∧lo=0) (hb:b=some (.int .i64 hi')∨b=none∧hi'=vs.length) :
   ∃ s',ZO P S s a b none=some s'∧Sv T n H s' ((vs.take hi').drop lo)∧∀ k,ZS s'=some k→ZS s=some k:=by
 obtain ⟨base,cap,rfl,hle,hn,h⟩:=h
 have hlo:Zf a 0 hi'=some lo:=by
   rcases ha with rfl | ⟨rfl,rfl⟩
   · have:(0:Int)≤lo∧(lo:Int)≤hi':=by omega
     simp [Zf,this]
   · rfl
 have hhi:Zf b vs.length cap=some hi':=by
   rcases hb with rfl | ⟨rfl,rfl⟩
   · have:(0:Int)≤hi'∧(hi':Int)≤cap:=by omega
     simp [Zf,this]
   · rfl
 have hlen:((vs.take hi').drop lo).length=hi' - lo:=by simp; omega
 have hmem:∀ v∈(vs.take hi').drop lo,v.size=n:=fun v hv=>hn v (List.mem_of_mem_take (List.mem_of_mem_drop hv))
 refine ⟨.slice (if cap=lo then base else base.map (·.add (lo*n))) (hi' - lo) (cap - lo),?_,?_,?_⟩
 · unfold ZO
   rw [hu]
   show ((some cap).bind fun m=>(hiE none b vs.length m).bind fun h=>(Zf a 0 h).bind fun l=>(P.info? e).map fun i=>_)=_
   rw [Option.bind_some]
   show ((Zf b vs.length cap).bind fun h=>(Zf a 0 h).bind fun l=>(P.info? e).map fun i=>_)=_
   rw [hhi,Option.bind_some,hlo,Option.bind_some,hi,Option.map_some,hz]
 · by_cases hc:cap=lo
   · rw [if_pos hc]
     refine ⟨base,cap - lo,by rw [hlen],by rw [hlen]; omega,hmem,?_⟩
     cases base with
     | none=>simp only at h ⊢; omega
     | some x=>
       obtain ⟨hsp,cs,hg,hsz,hv⟩:=h
       refine ⟨hsp,cs,hg,?_,fun j v hj=>?_⟩
       · rw [show cap - lo=0 by omega]; have:0≤cap*n:=Nat.zero_le _; omega
       · have:((vs.take hi').drop lo)=[]:=List.eq_nil_of_length_eq_zero (by omega)
         rw [this] at hj; simp at hj
   · rw [if_neg hc]
     cases base with
     | none=>simp only at h; omega
     | some x=>
       obtain ⟨hsp,cs,hg,hsz,hv⟩:=h
       obtain ⟨blk,off,sp⟩:=x
       simp only at hsp hg hsz hv
       subst hsp
       refine ⟨some ⟨blk,off+lo*n,none⟩,cap - lo,by rw [hlen]; simp [Addr.add_mk],by rw [hlen]; omega,hmem,rfl,cs,hg,?_,fun j v hj=>?_⟩
       · have e1:cap*n=lo*n+(cap - lo)*n:=by rw [← Nat.add_mul]; congr 1; omega
         simp only; omega
       · have hj2:vs[lo+j]?=some v:=by
           rw [List.getElem?_drop] at hj
           rw [List.getElem?_take] at hj
           split at hj
           · exact hj
           · cases hj
         have:=hv _ v hj2
         rw [Nat.add_mul] at this
         simp only
         rw [show off+lo*n+j*n=off+(lo*n+j*n) by omega]; exact this
 · intro k hk
   split at hk
   · cases base with
     | none=>simp [ZS] at hk
     | some x=>exact hk
   · cases base with
     | none=>simp [ZS] at hk
     | some x=>
       simp only [Option.map_some,ZS,Addr.add_block] at hk ⊢
       exact hk
theorem make_i {P:Program} {e:ZT} {l:Nat} {k k':IntKind} {K:Value × Hp→Prop} (hT:e.type=T) (hs:e.size=n) (hz:e.zero.size=n) (hl:l≤2 ^ 48) (hby:e.bytes*l≤2 ^ 47) (hn:l=0∨n≠0)
   (h:∀ b H',H.size=b→Ext H H'→H'.size=b+1→Sv T n H' (.slice (some ⟨b,0,none⟩) l l) (List.replicate l e.zero)→K (.slice (some ⟨b,0,none⟩) l l,H')) :
   Pu (YT (some e) (.int k l) (.int k' l) H) K:=by
 have hc:(0:Int)≤l∧(l:Int)≤l∧(l:Int)≤2 ^ 48∧(e.bytes:Int)*l≤2 ^ 47∧((l:Int)=0∨e.size≠0):=by
   refine ⟨by omega,by omega,by omega,?_,by rw [hs]; omega⟩
   have:((e.bytes*l:Nat):Int)≤2 ^ 47:=by omega
   simpa using this
 have he:YT (some e) (.int k l) (.int k' l) H=some (.slice (some ⟨H.size,0,none⟩) l l,H.push (.cells ((Array.range (l*e.size)).map (e.zero[· % e.zero.size]!)) e.type)):=by
   unfold YT; simp only [hc,and_self,if_true,Int.toNat_natCast]
 rw [he,za]
 refine h _ _ rfl (Ext.push H _) (by simp) ⟨some ⟨H.size,0,none⟩,l,by simp,by simp,fun v hv=>?_,rfl,_,by rw [← hT]; exact Z8 H _,by simp [hs],fun i v hi=>?_⟩
 · rw [List.mem_replicate] at hv; rw [hv.2,hz]
 · rw [List.getElem?_replicate] at hi
   split at hi
   · rename_i hil
     injection hi with hi; subst hi
     have hm2:=Nat.mul_le_mul_right n (show i+1≤l from hil)
     rw [Nat.add_mul,Nat.one_mul] at hm2
     refine yv hz (by simp [hs]; omega) fun j hj=>?_
     simp only [Nat.zero_add]
     rw [Array.getElem?_map,Array.getElem?_range,hs,if_pos (by omega),Option.map_some,hz]
     rw [Nat.add_comm,Nat.add_mul_mod_self_right,Nat.mod_eq_of_lt hj]
     rw [getElem!_pos e.zero j (by omega),Array.getElem?_eq_getElem (by omega)]
   · cases hi
end
abbrev ML:=List (Int × Value)
def fndM:ML→Int→Nat→Option (Nat × Value)
 | [],_,_=>none
 | (j,v) :: l,k,n=>if k=j then some (n,v) else fndM l k (n+1)
def getM:ML→Int→Option Value
 | [],_=>none
 | (j,v) :: l,k=>if k=j then some v else getM l k
def setM:ML→Int→Value→ML
 | [],k,v=>[(k,v)]
 | (j,w) :: l,k,v=>if k=j then (k,v) :: l else (j,w) :: setM l k v
def delM:ML→Int→ML
 | [],_=>[]
 | (j,w) :: l,k=>if k=j then l else (j,w) :: delM l k
def entsM (l:List MapEntry) (m:ML):Prop:=l.map (fun e=>(e.key,e.val))=m.map fun x=>(Value.int .i64 x.1,x.2)
theorem entsM_nil:∀ {m:ML},entsM [] m→m=[]:=by
 intro m h
 cases m with
 | nil=>rfl
 | cons x m=>simp [entsM] at h
theorem entsM_cons {e:MapEntry} {l:List MapEntry} {m:ML} (h:entsM (e :: l) m):∃ k m',m=(k,e.val) :: m'∧e.key=.int .i64 k∧entsM l m':=by
 cases m with
 | nil=>simp [entsM] at h
 | cons x m=>
   simp only [entsM,List.map_cons,List.cons.injEq,Prod.mk.injEq] at h
   exact ⟨x.1,m,by rw [h.1.2],h.1.1,h.2⟩
theorem findNow_M:∀ {l:List MapEntry} {m:ML} {k:Int} {n:Nat},entsM l m→Instr.findNow (.int .i64) (.int .i64 k) l n=some (fndM m k n)
 | [],m,k,n,h=>by rw [entsM_nil h]; rfl
 | e :: l,m,k,n,h=>by
   obtain ⟨j,m',rfl,hk,h'⟩:=entsM_cons h
   unfold Instr.findNow fndM
   rw [hk]
   have:Instr.sameNow (.int .i64) (.int .i64 k) (.int .i64 j)=some (k == j):=rfl
   rw [this]
   by_cases hkj:k=j
   · subst hkj; simp
   · have:(k == j)=false:=by simpa using hkj
     rw [this,if_neg hkj]
     exact findNow_M h'
theorem fndM_get:∀ {m:ML} {k:Int} {n:Nat},(fndM m k n).map (·.2)=getM m k
 | [],_,_=>rfl
 | (j,v) :: m,k,n=>by
   unfold fndM getM
   by_cases h:k=j
   · simp [h]
   · simp only [h,if_false]; exact fndM_get
theorem fndM_none {m:ML} {k:Int} {n:Nat} (h:getM m k=none):fndM m k n=none:=by
 have:=fndM_get (m:=m) (k:=k) (n:=n)
 rw [h] at this
 cases hf:fndM m k n with
 | none=>rfl
 | some x=>rw [hf] at this; cases this
theorem fndM_some {m:ML} {k:Int} {n:Nat} {v:Value} (h:getM m k=some v):∃ i,fndM m k n=some (i,v):=by
 have:=fndM_get (m:=m) (k:=k) (n:=n)
 rw [h] at this
 cases hf:fndM m k n with
 | none=>rw [hf] at this; cases this
 | some x=>
   rw [hf] at this
   simp only [Option.map_some,Option.some.injEq] at this
   exact ⟨x.1,by rw [← this]⟩
theorem modify_M:∀ {l:List MapEntry} {m:ML} {k:Int} {n i:Nat} {u v:Value},entsM l m→fndM m k n=some (i,u)→n≤i∧entsM (l.modify (i - n) fun e=>{ e with key:=.int .i64 k,val:=v }) (setM m k v)
 | [],m,k,n,i,u,v,h,hf=>by rw [entsM_nil h] at hf; cases hf
 | e :: l,m,k,n,i,u,v,h,hf=>by
   obtain ⟨j,m',rfl,hk,h'⟩:=entsM_cons h
   unfold fndM at hf
   unfold setM
   by_cases hkj:k=j
   · rw [if_pos hkj] at hf ⊢
     injection hf with hf; injection hf with h1 h2
     subst h1
     refine ⟨Nat.le_refl _,?_⟩
     rw [Nat.sub_self]
     simp only [List.modify_zero_cons,entsM,List.map_cons]
     rw [show l.map (fun e=>(e.key,e.val))=_ from h']
   · rw [if_neg hkj] at hf ⊢
     obtain ⟨h1,h2⟩:=modify_M (v:=v) h' hf
     refine ⟨by omega,?_⟩
     rw [show i - n=(i - (n+1))+1 by omega,List.modify_succ_cons]
     simp only [entsM,List.map_cons] at h2 ⊢
     rw [h2,hk]
theorem erase_M:∀ {l:List MapEntry} {m:ML} {k:Int} {n i:Nat} {u:Value},entsM l m→fndM m k n=some (i,u)→n≤i∧i - n<l.length∧entsM (l.eraseIdx (i - n)) (delM m k)
 | [],m,k,n,i,u,h,hf=>by rw [entsM_nil h] at hf; cases hf
 | e :: l,m,k,n,i,u,h,hf=>by
   obtain ⟨j,m',rfl,hk,h'⟩:=entsM_cons h
   unfold fndM at hf
   unfold delM
   by_cases hkj:k=j
   · rw [if_pos hkj] at hf ⊢
     injection hf with hf; injection hf with h1 h2
     subst h1
     refine ⟨Nat.le_refl _,by simp,?_⟩
     rw [Nat.sub_self]
     exact h'
   · rw [if_neg hkj] at hf ⊢
     obtain ⟨h1,h3,h2⟩:=erase_M h' hf
     refine ⟨by omega,by simp; omega,?_⟩
     rw [show i - n=(i - (n+1))+1 by omega,List.eraseIdx_cons_succ]
     simp only [entsM,List.map_cons] at h2 ⊢
     rw [h2,hk]
theorem push_M {l:List MapEntry} {m:ML} {k:Int} {v:Value} {c:Nat} (h:entsM l m) (hg:getM m k=none):entsM (l++[{ key:=.int .i64 k,val:=v,born:=c }]) (setM m k v):=by
 have:setM m k v=m++[(k,v)]:=by
   clear h
   induction m with
   | nil=>rfl
   | cons x m ih=>
     obtain ⟨j,w⟩:=x
     unfold getM at hg
     unfold setM
     by_cases hkj:k=j
     · rw [if_pos hkj] at hg; cases hg
     · rw [if_neg hkj] at hg ⊢
       rw [ih hg]; rfl
 rw [this]
 unfold entsM at *
 rw [List.map_append,h,List.map_append]
 rfl
theorem getM_none {m:ML} {k:Int}:getM m k=none↔k ∉ m.map (·.1):=by
 induction m with
 | nil=>simp [getM]
 | cons x m ih=>
   obtain ⟨j,w⟩:=x
   unfold getM
   by_cases h:k=j
   · simp [h]
   · rw [if_neg h,ih]; simp [h]
theorem getM_set (m:ML) (k:Int) (v:Value) (k':Int):getM (setM m k v) k'=if k'=k then some v else getM m k':=by
 induction m with
 | nil=>simp [setM,getM]
 | cons x m ih=>
   obtain ⟨j,w⟩:=x
   unfold setM
   by_cases h:k=j
   · subst h
     rw [if_pos rfl]
     unfold getM
     by_cases h':k'=k
     · simp [h']
     · simp [h']
   · rw [if_neg h]
     unfold getM
     by_cases h':k'=j
     · have:k'≠k:=fun e=>h (by rw [← e,h'])
       simp [h',this]
       intro e; exact absurd e.symm h
     · simp only [h',if_false]; exact ih
theorem keys_set (m:ML) (k:Int) (v:Value):(setM m k v).map (·.1)=if getM m k=none then m.map (·.1)++[k] else m.map (·.1):=by
 induction m with
 | nil=>simp [setM,getM]
 | cons x m ih=>
   obtain ⟨j,w⟩:=x
   unfold setM getM
   by_cases h:k=j
   · subst h; simp
   · rw [if_neg h,if_neg h,List.map_cons,ih]
     split <;> simp
theorem len_set (m:ML) (k:Int) (v:Value):(setM m k v).length=if getM m k=none then m.length+1 else m.length:=by
 have:=congrArg List.length (keys_set m k v)
 rw [List.length_map] at this
 rw [this]
 split <;> simp
theorem getM_del {m:ML} (hn:(m.map (·.1)).Nodup) (k k':Int):getM (delM m k) k'=if k'=k then none else getM m k':=by
 induction m with
 | nil=>simp [delM,getM]
 | cons x m ih=>
   obtain ⟨j,w⟩:=x
   simp only [List.map_cons,List.nodup_cons] at hn
   unfold delM
   by_cases h:k=j
   · subst h
     rw [if_pos rfl]
     by_cases h':k'=k
     · subst h'; rw [if_pos rfl]; exact getM_none.2 hn.1
     · rw [if_neg h']; conv=>rhs; unfold getM
       rw [if_neg h']
   · rw [if_neg h]
     unfold getM
     by_cases h':k'=j
     · have:k'≠k:=fun e=>h (by rw [← e,h'])
       simp [h']
       intro e; exact absurd e.symm h
     · simp only [h',if_false]; exact ih hn.2
theorem mem_del {m:ML} {k k':Int} (h:k'∈(delM m k).map (·.1)):k'∈m.map (·.1):=by
 induction m with
 | nil=>simp [delM] at h
 | cons x m ih=>
   obtain ⟨j,w⟩:=x
   unfold delM at h
   by_cases hk:k=j
   · rw [if_pos hk] at h; exact List.mem_cons_of_mem _ h
   · rw [if_neg hk] at h
     simp only [List.map_cons,List.mem_cons] at h ⊢
     rcases h with h | h
     · exact .inl h
     · exact .inr (ih h)
theorem nodup_del {m:ML} (hn:(m.map (·.1)).Nodup) (k:Int):((delM m k).map (·.1)).Nodup:=by
 induction m with
 | nil=>simp [delM]
 | cons x m ih=>
   obtain ⟨j,w⟩:=x
   simp only [List.map_cons,List.nodup_cons] at hn
   unfold delM
   by_cases hk:k=j
   · rw [if_pos hk]; exact hn.2
   · rw [if_neg hk]
     simp only [List.map_cons,List.nodup_cons]
     exact ⟨fun h=>hn.1 (mem_del h),ih hn.2⟩
theorem len_del (m:ML) (k:Int):(delM m k).length=if getM m k=none then m.length else m.length - 1:=by
 induction m with
 | nil=>simp [delM,getM]
 | cons x m ih=>
   obtain ⟨j,w⟩:=x
   unfold delM getM
   by_cases h:k=j
   · subst h; simp
   · rw [if_neg h,if_neg h,List.length_cons,ih,List.length_cons]
     split
     · rfl
     · rename_i hg
       have:m≠[]:=fun e=>by subst e; exact hg rfl
       have:0<m.length:=List.length_pos_iff.2 this
       omega
structure MapAt (H:Hp) (r:Nat) (f:Int→Option Value) (n:Nat):Prop where
 is:∃ (es:Array MapEntry) (c:Nat) (m:ML),H[r]?=some (.map es c)∧entsM es.toList m∧(m.map (·.1)).Nodup∧m.length=n∧∀ k,getM m k=f k
def updM (f:Int→Option Value) (k:Int) (v:Option Value):Int→Option Value:=fun j=>if j=k then v else f j
section
variable {P:Program} {H H':Hp} {r n:Nat} {f:Int→Option Value} {kt et:TypeId}
theorem MapAt.of (h:MapAt H r f n) (hb:H'[r]?=H[r]?):MapAt H' r f n:=by
 obtain ⟨es,c,m,h1,h2⟩:=h
 exact ⟨es,c,m,by rw [hb]; exact h1,h2⟩
theorem MapAt.lt (h:MapAt H r f n):r<H.size:=by
 obtain ⟨es,c,m,h1,h2⟩:=h; exact ZH h1
theorem MapAt.ext (h:MapAt H r f n) (hx:Ext H H'):MapAt H' r f n:=h.of (hx.same _ h.lt)
theorem MapAt.kp {S:Nat→Prop} (h:MapAt H r f n) (hk:Kp S H H') (hs:¬ S r):MapAt H' r f n:=h.of (hk.same _ h.lt hs)
theorem MapAt.congr {g:Int→Option Value} (h:MapAt H r f n) (hg:∀ k,g k=f k):MapAt H r g n:=by
 have:g=f:=funext hg
 rw [this]; exact h
theorem MapAt.new (h:H[r]?=some (.map #[] 0)):MapAt H r (fun _=>none) 0:=⟨#[],0,[],h,rfl,List.nodup_nil,rfl,fun _=>rfl⟩
theorem mapH_at {es:Array MapEntry} {c:Nat} (h:H[r]?=some (.map es c)):mapH H r=some (es,c):=by unfold mapH; rw [h]
theorem map_ents {es:Array MapEntry} {c:Nat} (h:H[r]?=some (.map es c)):entsH (.map (some r)) H=some es:=by
 show (mapH H r).map (·.1)=_
 rw [mapH_at h]; rfl
def lookO (ok:Bool) (z:Option Value):Option Value→Option Value
 | some v=>some (mkOk ok v true)
 | none=>z.map fun z=>mkOk ok z false
theorem lookO_some {ok:Bool} {z:Option Value} {v:Value}:lookO ok z (some v)=some (mkOk ok v true):=rfl
theorem lookO_none {ok:Bool} {z:Value}:lookO ok (some z) none=some (mkOk ok z false):=rfl
theorem map_look (h:MapAt H r f n) (ok:Bool) (k:Int):yu P (some (kt,.int .i64,et)) ok (.map (some r)) (.int .i64 k) H=lookO ok (zD P et) (f k):=by
 obtain ⟨es,c,m,h1,h2,h3,h4,h5⟩:=h
 unfold yu
 simp only [map_ents h1,Option.bind_some,findNow_M h2]
 rw [← h5 k]
 cases hg:getM m k with
 | none=>rw [fndM_none hg]; rfl
 | some v=>obtain ⟨i,hi⟩:=fndM_some (n:=0) hg; rw [hi]; rfl
theorem map_len (h:MapAt H r f n):Yq (.map (some r)) H=some (.int .i64 n):=by
 obtain ⟨es,c,m,h1,h2,h3,h4,h5⟩:=h
 unfold Yq
 rw [map_ents h1]
 have:=congrArg List.length h2
 simp only [List.length_map,Array.length_toList] at this
 rw [Option.map_some,this,h4]
theorem mapSet_i {k:Int} {v:Value} {K:Hp→Prop} (h:MapAt H r f n) (hk:∀ H',Kp (·=r) H H'→H'.size=H.size→MapAt H' r (updM f k (some v)) (if f k=none then n+1 else n)→K H') :
   Pu (YS (some (kt,.int .i64,et)) (.map (some r)) (.int .i64 k) v H) K:=by
 obtain ⟨es,c,m,h1,h2,h3,h4,h5⟩:=h
 unfold YS
 simp only [mapH_at h1,Option.bind_some,findNow_M h2,Option.map_some,za]
 have hnd:((setM m k v).map (·.1)).Nodup:=by
   rw [keys_set]
   split
   · rename_i hg
     rw [List.nodup_append]
     refine ⟨h3,by simp,fun a ha b hb=>?_⟩
     simp only [List.mem_singleton] at hb
     subst hb
     intro e; subst e
     exact getM_none.1 hg ha
   · exact h3
 have hlen:(setM m k v).length=if f k=none then n+1 else n:=by rw [len_set,h5 k,h4]
 have hget:∀ k',getM (setM m k v) k'=updM f k (some v) k':=fun k'=>by
   rw [getM_set]; unfold updM; split
   · rfl
   · exact h5 k'
 cases hg:getM m k with
 | none=>
   rw [fndM_none hg]
   exact hk _ (Kp.set H r _) (by simp) ⟨_,_,setM m k v,ZF h1,by simpa using push_M h2 hg,hnd,hlen,hget⟩
 | some u=>
   obtain ⟨i,hi⟩:=fndM_some (n:=0) hg
   rw [hi]
   obtain ⟨_,hm⟩:=modify_M (v:=v) h2 hi
   exact hk _ (Kp.set H r _) (by simp) ⟨_,_,setM m k v,ZF h1,by simpa using hm,hnd,hlen,hget⟩
theorem mapDel_i {k:Int} {K:Hp→Prop} (h:MapAt H r f n) (hk:∀ H',Kp (·=r) H H'→H'.size=H.size→MapAt H' r (updM f k none) (if f k=none then n else n - 1)→K H') :
   Pu (mapDelE (some (kt,.int .i64,et)) (.map (some r)) (.int .i64 k) H) K:=by
 obtain ⟨es,c,m,h1,h2,h3,h4,h5⟩:=h
 unfold mapDelE
 simp only [mapH_at h1,Option.bind_some,findNow_M h2,Option.map_some,za]
 have hlen:(delM m k).length=if f k=none then n else n - 1:=by rw [len_del,h5 k,h4]
 have hget:∀ k',getM (delM m k) k'=updM f k none k':=fun k'=>by
   rw [getM_del h3]; unfold updM; split
   · rfl
   · exact h5 k'
 cases hg:getM m k with
 | none=>
   rw [fndM_none hg]
   have hd:delM m k=m:=by
     clear h2 h3 h4 h5 hlen hget
     induction m with
     | nil=>rfl
     | cons x m ih=>
       obtain ⟨j,w⟩:=x
       unfold getM at hg
       unfold delM
       by_cases hkj:k=j
       · rw [if_pos hkj] at hg; cases hg
       · rw [if_neg hkj] at hg ⊢; rw [ih hg]
   exact hk _ (Kp.set H r _) (by simp) ⟨_,_,m,ZF h1,h2,h3,by rw [← hlen,hd],fun k'=>by rw [← hget k',hd]⟩
 | some u=>
   obtain ⟨i,hi⟩:=fndM_some (n:=0) hg
   rw [hi]
   obtain ⟨_,hlt,hm⟩:=erase_M h2 hi
   exact hk _ (Kp.set H r _) (by simp) ⟨_,_,delM m k,ZF h1,by
     have hlt':i<es.size:=by simpa using hlt
     unfold Array.eraseIdxIfInBounds
     rw [dif_pos hlt']
     simpa using hm,nodup_del h3 k,hlen,hget⟩
end
theorem fold_get {off:Nat}:∀ (l:List Value) (k:Nat) (c:Array Value),off+k+l.length≤c.size →
   ((l.zipIdx k).foldl (fun (cs:Array Value) (x:Value × Nat)=>cs.setIfInBounds (off+x.2) x.1) c).size=c.size ∧
   ∀ i,((l.zipIdx k).foldl (fun (cs:Array Value) (x:Value × Nat)=>cs.setIfInBounds (off+x.2) x.1) c)[i]?=if off+k≤i∧i<off+k+l.length then l[i - (off+k)]? else c[i]?
 | [],k,c,h=>by
   refine ⟨rfl,fun i=>?_⟩
   simp only [List.zipIdx_nil,List.foldl_nil,List.length_nil]
   rw [if_neg (by omega)]
 | v :: l,k,c,h=>by
   simp only [List.length_cons] at h
   obtain ⟨h1,h2⟩:=fold_get (off:=off) l (k+1) (c.setIfInBounds (off+k) v) (by rw [Array.size_setIfInBounds]; omega)
   simp only [List.zipIdx_cons,List.foldl_cons]
   refine ⟨by rw [h1]; simp,fun i=>?_⟩
   rw [h2 i,Array.getElem?_setIfInBounds,List.length_cons]
   by_cases hi:off+k=i
   · subst hi
     rw [if_neg (by omega),if_pos rfl,if_pos (by omega),if_pos (by omega),Nat.sub_self]
     rfl
   · by_cases hr:off+(k+1)≤i∧i<off+(k+1)+l.length
     · rw [if_pos hr,if_pos (by omega),show i - (off+k)=(i - (off+(k+1)))+1 by omega,List.getElem?_cons_succ]
     · rw [if_neg hr,if_neg hi,if_neg (by omega)]
theorem fold_splice {c vs:Array Value} {off:Nat} (h:off+vs.size≤c.size):vs.zipIdx.foldl (fun (cs:Array Value) (x:Value × Nat)=>cs.setIfInBounds (off+x.2) x.1) c=zZ c off vs:=by
 obtain ⟨l⟩:=vs
 have h':off+l.length≤c.size:=h
 obtain ⟨h1,h2⟩:=fold_get (off:=off) l 0 c (by omega)
 have e:(Array.mk l).zipIdx.foldl (fun (cs:Array Value) (x:Value × Nat)=>cs.setIfInBounds (off+x.2) x.1) c=(l.zipIdx 0).foldl (fun (cs:Array Value) (x:Value × Nat)=>cs.setIfInBounds (off+x.2) x.1) c:=by
   rw [← Array.foldl_toList]; simp
 rw [e]
 apply Array.ext_getElem?
 intro i
 rw [h2 i,zU (by simpa using h')]
 simp only [Nat.add_zero,List.size_toArray,List.getElem?_toArray]
 by_cases hi:i<off
 · rw [if_neg (by omega),if_pos hi]
 · by_cases hi2:i<off+l.length
   · rw [if_pos (by omega),if_neg hi,if_pos hi2]
   · rw [if_neg (by omega),if_neg hi,if_neg hi2]
def placesE (P:Program) (T:TypeId):Option (List (Nat × Nat)):=
 match P.underlying T with
 | some (.struct fields)=>fields.toList.mapM (fun f=>(P.info? f.type).map fun i=>(f.offset,i.size))
 | _=>none
def fillS (pl:List (Nat × Nat)):Array Value→List (Nat × Value)→Option (Array Value)
 | c,[]=>some c
 | c,(i,v) :: rest=>match pl[i]? with
   | some (off,size)=>if v.cells.size=size∧off+size≤c.size then fillS pl (zZ c off v.cells) rest else none
   | none=>none
theorem fillS_ok' {pl:List (Nat × Nat)}:∀ {parts:List (Nat × Value)} {c c':Array Value},fillS pl c parts=some c'→Instr.fill (fun (i:Nat)=>pl[i]?) c parts=some c'
 | [],c,c',h=>h
 | (i,v) :: rest,c,c',h=>by
   unfold fillS at h
   unfold Instr.fill
   cases hp:pl[i]? with
   | none=>rw [hp] at h; cases h
   | some x=>
     obtain ⟨off,size⟩:=x
     rw [hp] at h
     simp only at h
     split at h
     · rename_i hc
       simp only
       have hcond:(decide (v.cells.size≠size) || decide (off+v.cells.size > c.size))=false:=by
         rw [decide_eq_false (fun hne=>hne hc.1),decide_eq_false (by omega)]; rfl
       rw [if_neg (by rw [hcond]; decide),fold_splice (by omega)]
       exact fillS_ok' h
     · cases h
theorem fillS_ok {pl:List (Nat × Nat)} {parts:List (Nat × Value)} {c c':Array Value} (h:fillS pl c parts=some c'):Instr.fill (fun (i:Nat)=>pl.toArray[i]?) c parts=some c':=by
 rw [show (fun (i:Nat)=>pl.toArray[i]?)=fun i=>pl[i]? from by funext i; simp]
 exact fillS_ok' h
theorem Yo {P:Program} {T:TypeId} {z c:Array Value} {pl:List (Nat × Nat)} {parts:List (Nat × Value)} (hz:zD P T=some (.agg z)) (hp:placesE P T=some pl) (h:fillS pl z parts=some c):zu P T parts=some (.agg c):=by
 unfold zu Program.built
 unfold zD at hz
 unfold placesE at hp
 cases hi:P.info? T with
 | none=>rw [hi] at hz; cases hz
 | some it=>
   rw [hi,Option.bind_some] at hz
   cases hu:P.underlying T with
   | none=>rw [hu] at hp; cases hp
   | some d=>
     rw [hu] at hp
     cases d <;> simp only at hp <;> try (cases hp; done)
     simp only [hz,hp]
     have:=fillS_ok h
     rw [show (Value.agg z).cells=z from rfl,this]; rfl
section
variable {q:Bool} {P:Program} {ops:Array Oper} {cl:Nat→Cls}
def Prc (ops:Array Oper) (cl:Nat→Cls) (k i:Nat):Prop:=Waits ops i k∨swapB ops cl k i=true
def edgesB (ops:Array Oper):Bool:=ops.toList.zipIdx.all fun (o,i)=>o.after.toList.all fun e=>!Region.binds .any e || decide (e.on<i)
theorem edges_back (h:edgesB ops=true) {i:Nat} {o:Oper} (hi:ops[i]?=some o) {e:Edge} (he:e∈o.after) (hb:Region.binds .any e=true):e.on<i:=by
 have h2:=(List.all_eq_true.1 h) (o,i) (by rw [List.mem_zipIdx_iff_getElem?]; simpa using hi)
 have h3:=(List.all_eq_true.1 h2) e (by simpa using he)
 simpa [hb] using h3
theorem rdy_mem {l:List Nat} {listed:Array Bool} (hsz:listed.size=ops.size) (hl:∀ i,i∈l↔i<ops.size∧listed.getD i false=false) {i:Nat} (hi:i∈Region.ready .any ops listed):i∈l:=by
 obtain ⟨h1,o,ho,_⟩:=mem_ready.1 hi
 have hlt:i<ops.size:=(Array.getElem?_eq_some_iff.1 ho).1
 refine (hl i).2 ⟨hlt,?_⟩
 simp [hsz,hlt] at h1 ⊢
 exact h1
theorem rdy_emp (hE:edgesB ops=true) {l:List Nat} {listed:Array Bool} (hsz:listed.size=ops.size) (hl:∀ i,i∈l↔i<ops.size∧listed.getD i false=false) (hr:Region.ready .any ops listed=[]):l=[]:=by
 have none:∀ n i,i≤n→i ∉ l:=by
   intro n
   induction n with
   | zero=>
     intro i hi hm
     have h0:=(hl i).1 hm
     obtain ⟨o,ho⟩:∃ o,ops[i]?=some o:=⟨_,Array.getElem?_eq_getElem h0.1⟩
     have:i∈Region.ready .any ops listed:=mem_ready.2 ⟨by simp [hsz,h0.1] at h0 ⊢; exact h0,o,ho,fun e he hb=>by have:=edges_back hE ho he hb; omega⟩
     rw [hr] at this; cases this
   | succ n ih=>
     intro i hi hm
     have h0:=(hl i).1 hm
     obtain ⟨o,ho⟩:∃ o,ops[i]?=some o:=⟨_,Array.getElem?_eq_getElem h0.1⟩
     have:i∈Region.ready .any ops listed:=mem_ready.2 ⟨by simp [hsz,h0.1] at h0 ⊢; exact h0,o,ho,fun e he hb=>by
       have hlt:=edges_back hE ho he hb
       cases hg:listed.getD e.on false with
       | true=>rfl
       | false=>exact absurd ((hl e.on).2 ⟨by omega,hg⟩) (ih e.on (by omega))⟩
     rw [hr] at this; cases this
 cases l with
 | nil=>rfl
 | cons i l=>exact absurd List.mem_cons_self (none i i (Nat.le_refl i))
theorem listed_step {l1 l2:List Nat} {i:Nat} {listed:Array Bool} (hsz:listed.size=ops.size) (hlt:i<ops.size) (hnd:(l1++i :: l2).Nodup) (hl:∀ j,j∈l1++i :: l2↔j<ops.size∧listed.getD j false=false) :
   ∀ j,j∈l1++l2↔j<ops.size∧(listed.setIfInBounds i true).getD j false=false:=by
 intro j
 have hset:(listed.setIfInBounds i true).getD j false=(if j=i then true else listed.getD j false):=by
   by_cases hji:j=i
   · subst hji; simp [hsz,hlt]
   · rw [getD_set_ne false (Ne.symm hji),if_neg hji]
 rw [hset]
 by_cases hji:j=i
 · subst hji
   rw [List.nodup_append] at hnd
   obtain ⟨h1,h2,h3⟩:=hnd
   have:=(List.nodup_cons.1 h2).1
   have h4:j ∉ l1:=fun hm=>h3 j hm j List.mem_cons_self rfl
   simp [this,h4]
 · rw [if_neg hji,← hl j]; simp [hji]
theorem closed_step {i:Nat} {listed:Array Bool} (hsz:listed.size=ops.size) (hi:i∈Region.ready .any ops listed)
   (hcl:∀ j oj,ops[j]?=some oj→listed.getD j false=true→∀ e∈oj.after,Region.binds .any e=true→listed.getD e.on false=true) :
   ∀ j oj,ops[j]?=some oj→(listed.setIfInBounds i true).getD j false=true→∀ e∈oj.after,Region.binds .any e=true→(listed.setIfInBounds i true).getD e.on false=true:=by
 obtain ⟨_,oi,hoi,hall⟩:=mem_ready.1 hi
 have hlt:i<ops.size:=(Array.getElem?_eq_some_iff.1 hoi).1
 have hset:∀ j,(listed.setIfInBounds i true).getD j false=(if j=i then true else listed.getD j false):=fun j=>by
   by_cases hji:j=i
   · subst hji; simp [hsz,hlt]
   · rw [getD_set_ne false (Ne.symm hji),if_neg hji]
 intro j oj hj hlj e he hb
 rw [hset] at hlj ⊢
 by_cases hei:e.on=i
 · rw [if_pos hei]
 · rw [if_neg hei]
   by_cases hji:j=i
   · subst hji; rw [hoi] at hj; cases hj; exact hall e he hb
   · rw [if_neg hji] at hlj; exact hcl j oj hj hlj e he hb
def runA (q:Bool) (P:Program) (ops:Array Oper) (cl:Nat→Cls):List Nat→(Act→Hp→Prop)→Act→Hp→Prop
 | [],K,a,H=>K a H
 | i :: l,K,a,H=>yt q P ops cl i (runA q P ops cl l K) a H
theorem runD_A {K:Act→Hp→Prop}:∀ (l:List Nat),runD q P ops cl K l=runA q P ops cl l fun a H=>∀ H',Ex q H H'→K a H'
 | []=>rfl
 | i :: l=>by funext a H; simp only [runD,runA,runD_A l]
theorem runA_mono {K K':Act→Hp→Prop} (h:∀ a H,K a H→K' a H):∀ (l:List Nat) (a:Act) (H:Hp),runA q P ops cl l K a H→runA q P ops cl l K' a H
 | [],a,H,hr=>h a H hr
 | i :: l,a,H,hr=>stepD_mono (fun a H hr=>runA_mono h l a H hr) hr
theorem runA_app {K:Act→Hp→Prop}:∀ (l l':List Nat) (a:Act) (H:Hp),runA q P ops cl l (runA q P ops cl l' K) a H→runA q P ops cl (l++l') K a H
 | [],l',a,H,h=>h
 | i :: l,l',a,H,h=>stepD_mono (fun a H hr=>runA_app l l' a H hr) h
theorem runA_pull (hn:noSelB ops=true) {i:Nat} {K:Act→Hp→Prop} {l2:List Nat}:∀ (l1:List Nat) (a:Act) (H:Hp),(∀ k∈l1,swapB ops cl k i=true) →
   runA q P ops cl (l1++i :: l2) K a H→yt q P ops cl i (runA q P ops cl (l1++l2) K) a H
 | [],_,_,_,h=>h
 | k :: l1,a,H,hs,h=>by
   have h1:yt q P ops cl k (yt q P ops cl i (runA q P ops cl (l1++l2) K)) a H:=
     stepD_mono (fun a' H' h'=>runA_pull hn l1 a' H' (fun k' hk'=>hs k' (List.mem_cons_of_mem _ hk')) h') h
   exact stepD_swap hn (hs k List.mem_cons_self) h1
theorem swaps {l1:List Nat} {i:Nat} {listed:Array Bool} (hl:∀ k∈l1,listed.getD k false=false) (hi:i∈Region.ready .any ops listed)
   (hcl:∀ j oj,ops[j]?=some oj→listed.getD j false=true→∀ e∈oj.after,Region.binds .any e=true→listed.getD e.on false=true)
   (hp:∀ k∈l1,Prc ops cl k i):∀ k∈l1,swapB ops cl k i=true:=by
 obtain ⟨_,oi,hoi,hall⟩:=mem_ready.1 hi
 intro k hk
 rcases hp k hk with h1 | h1
 · exfalso
   have h2:=h1.listed hcl fun o ho e he hb=>by rw [hoi] at ho; cases ho; exact hall e he hb
   rw [hl k hk] at h2; cases h2
 · exact h1
theorem pw_drop {R:Nat→Nat→Prop} {l1 l2:List Nat} {i:Nat} (h:(l1++i :: l2).Pairwise R):(l1++l2).Pairwise R:=by
 obtain ⟨hp1,hp2,hp3⟩:=List.pairwise_append.1 h
 exact List.pairwise_append.2 ⟨hp1,(List.pairwise_cons.1 hp2).2,fun x hx y hy=>hp3 x hx y (List.mem_cons_of_mem _ hy)⟩
theorem pw_left {R:Nat→Nat→Prop} {l1 l2:List Nat} {i:Nat} (h:(l1++i :: l2).Pairwise R):∀ k∈l1,R k i:=
 fun k hk=>(List.pairwise_append.1 h).2.2 k hk i List.mem_cons_self
variable {r:Option Nat} {Q:Exit→Act→World→Prop} {K:Act→Hp→Prop} {w₀:World}
theorem any_one (hn:noSelB ops=true) (hE:edgesB ops=true) (hQ:∀ a w,K a w.heap→Sm w₀ w→Q .normal a w):∀ (l:List Nat) (listed:Array Bool) (a:Act) (H:Hp) (w:World),
     l.Nodup→l.Pairwise (Prc ops cl)→listed.size=ops.size→(∀ i,i∈l↔i<ops.size∧listed.getD i false=false) →
     (∀ j oj,ops[j]?=some oj→listed.getD j false=true→∀ e∈oj.after,Region.binds .any e=true→listed.getD e.on false=true) →
     Ex q H w.heap→Sm w₀ w→runD q P ops cl K l a H→wpAnyIn (ZV r) 0 P .any ops Q l.length listed a w:=by
 intro l
 induction hlen:l.length generalizing l with
 | zero=>
   intro listed a H w hnd hp hsz hl hcl hx hsm h
   have:l=[]:=List.eq_nil_of_length_eq_zero hlen
   subst this
   refine (⟨?_,hQ a w (h _ hx) hsm⟩:_∧_)
   cases hr:Region.ready .any ops listed with
   | nil=>rfl
   | cons i t=>have:=rdy_mem hsz hl (i:=i) (by rw [hr]; exact List.mem_cons_self); cases this
 | succ n ih=>
   intro listed a H w hnd hp hsz hl hcl hx hsm h
   refine ⟨fun hr=>(by have:=rdy_emp hE hsz hl hr; rw [this] at hlen; cases hlen),fun i hi=>?_⟩
   have him:=rdy_mem hsz hl hi
   obtain ⟨l1,l2,rfl⟩:=List.append_of_mem him
   obtain ⟨_,oi,hoi,_⟩:=mem_ready.1 hi
   have hlt:i<ops.size:=(Array.getElem?_eq_some_iff.1 hoi).1
   rw [runD_A] at h
   have h1:=runA_pull hn l1 a H (swaps (fun k hk=>((hl k).1 (List.mem_append_left _ hk)).2) hi hcl (pw_left hp)) h
   refine ye hn hx h1 fun a' H' w' hr hx' hsm'=>?_
   exact ih (l1++l2) (by simp at hlen ⊢; omega) (listed.setIfInBounds i true) a' H' w' (hnd.sublist (by simp)) (pw_drop hp) (by simp [hsz]) (listed_step hsz hlt hnd hl) (closed_step hsz hi hcl) hx' (hsm.trans hsm') (by rw [runD_A]; exact hr)
end
def vcA (P:Program) (qf:FuncId→Bool) (dr q:Bool) (all:Array Oper):List Oper→List Nat→Fr→Hp→(List Nat→Fr→Hp→Prop)→Prop
 | [],sk,fr,H,K=>K sk fr H
 | o :: rest,sk,fr,H,K=>
   match o.guard with
   | none=>vcOp P qf dr q o (ev fr) H fun v H'=>vcA P qf dr q all rest sk (putF fr o.dst v) H' K
   | some (j,want)=>
     match (all[j]?).bind (·.dst) with
     | none=>False
     | some d=>
       if sk.contains d then
         (match slot fr d with
          | .tuple _=>vcA P qf dr q all rest (addSk sk o.dst) (putF fr o.dst undef) H K
          | _=>False)
       else
         Ite (slot fr d)
           (if want then vcOp P qf dr q o (ev (fr.set d (.bool true))) H fun v H'=>vcA P qf dr q all rest sk (putF (fr.set d (.bool true)) o.dst v) H' K
            else vcA P qf dr q all rest (addSk sk o.dst) (putF (fr.set d (.bool true)) o.dst undef) H K)
           (if want then vcA P qf dr q all rest (addSk sk o.dst) (putF (fr.set d (.bool false)) o.dst undef) H K
            else vcOp P qf dr q o (ev (fr.set d (.bool false))) H fun v H'=>vcA P qf dr q all rest sk (putF (fr.set d (.bool false)) o.dst v) H' K)
section
variable {P:Program} {qf:FuncId→Bool} {dr q:Bool} {all:Array Oper}
theorem YQ {fz:Bool} (hq:dr=false→q=false) (hz:fz=true→q=true) {W:List Nat} {ds:List Deferred} {fr₀:Fr} {K:List Nat→Fr→Hp→Prop} {K':Act→Hp→Prop}
   (hK:∀ sk fr a H,At a fr→a.defers=ds→Agree W fr₀ fr→K sk fr H→K' a H):∀ (is:List Nat) (l:List Oper) (sk:List Nat) (fr:Fr) (a:Act) (H:Hp),
   is.map (all[·]?)=l.map some→(∀ d∈Zx l,d∈W)→At a fr→a.defers=ds→Agree W fr₀ fr→vcA P qf dr q all l sk fr H K →
   runA q P all (clAt P qf dr fz all) is K' a H
 | [],l,sk,fr,a,H,hl,_,ha,hd,hA,h=>by
   cases l with
   | nil=>exact hK _ _ _ _ ha hd hA h
   | cons=>cases hl
 | k :: is,[],sk,fr,a,H,hl,_,ha,hd,hA,h=>by cases hl
 | k :: is,o :: rest,sk,fr,a,H,hl,hW,ha,hd,hA,h=>by
   simp only [List.map_cons,List.cons.injEq] at hl
   obtain ⟨ho,hl'⟩:=hl
   have hW':∀ d∈Zx rest,d∈W:=fun d hd=>hW d (by
     unfold Zx at *; rw [List.filterMap_cons]; split
     · exact hd
     · exact List.mem_cons_of_mem _ hd)
   have hWo:∀ d,o.dst=some d→d∈W:=fun d hdd=>hW d (by unfold Zx; rw [List.filterMap_cons,hdd]; exact List.mem_cons_self)
   have hdp:∀ v,(a.put o.dst v).defers=ds:=fun v=>by rw [← hd]; cases o.dst <;> rfl
   simp only [runA]
   have next:∀ (sk:List Nat) (v:Value) (H':Hp),vcA P qf dr q all rest sk (putF fr o.dst v) H' K→runA q P all (clAt P qf dr fz all) is K' (a.put o.dst v) H':=
     fun sk v H' h'=>YQ hq hz hK is rest sk (putF fr o.dst v) (a.put o.dst v) H' hl' hW' (ha.put o.dst v) (hdp v) (hA.trans (Agree.put hWo)) h'
   simp only [vcA] at h
   cases hg:o.guard with
   | none=>
     simp only [hg] at h
     exact Z7 hq hz ho ha (by simp [Region.wanted,hg]) h fun v H' h'=>next sk v H' h'
   | some g=>
     obtain ⟨j,want⟩:=g
     simp only [hg] at h
     cases hjd:(all[j]?).bind (·.dst) with
     | none=>simp only [hjd] at h
     | some d=>
       simp only [hjd] at h
       obtain ⟨hy1,hy2⟩:=yielded_slot ha hjd
       split at h
       · split at h
         · rename_i vs hv
           exact skip_of ho (by simp [Region.wanted,hg,hy2 _ hv]) (next _ undef H h)
         · exact h.elim
       · unfold Ite at h
         split at h
         · rename_i hv
           rw [set_same hv (by simp [undef])] at h
           have hyt:=hy1 true hv
           cases want
           · simp only [Bool.false_eq_true,if_false] at h
             exact skip_of ho (by simp [Region.wanted,hg,hyt]) (next _ undef H h)
           · simp only [if_true] at h
             exact Z7 hq hz ho ha (by simp [Region.wanted,hg,hyt]) h fun v H' h'=>next sk v H' h'
         · rename_i hv
           rw [set_same hv (by simp [undef])] at h
           have hyt:=hy1 false hv
           cases want
           · simp only [Bool.false_eq_true,if_false] at h
             exact Z7 hq hz ho ha (by simp [Region.wanted,hg,hyt]) h fun v H' h'=>next sk v H' h'
           · simp only [if_true] at h
             exact skip_of ho (by simp [Region.wanted,hg,hyt]) (next _ undef H h)
         · exact h.elim
theorem vcA_of_ops:∀ (l:List Oper) (sk:List Nat) (fr:Fr) (H:Hp) (K:Fr→Hp→Prop),YJ P qf dr q all l sk fr H K→vcA P qf dr q all l sk fr H fun _ fr H=>ForX q H (K fr)
 | [],sk,fr,H,K,h=>h
 | o :: rest,sk,fr,H,K,h=>by
   have ih:=vcA_of_ops rest
   have e:∀ sk fr H,YJ P qf dr q all rest sk fr H K=vcA P qf dr q all rest sk fr H fun _ fr H=>ForX q H (K fr):=by
     intro sk fr H
     exact propext ⟨ih sk fr H K,vcA_to_ops rest sk fr H K⟩
   simp only [YJ,e] at h
   simp only [vcA]
   exact h
where
 vcA_to_ops:∀ (l:List Oper) (sk:List Nat) (fr:Fr) (H:Hp) (K:Fr→Hp→Prop),(vcA P qf dr q all l sk fr H fun _ fr H=>ForX q H (K fr))→YJ P qf dr q all l sk fr H K
 | [],sk,fr,H,K,h=>h
 | o :: rest,sk,fr,H,K,h=>by
   have e:∀ sk fr H,YJ P qf dr q all rest sk fr H K=vcA P qf dr q all rest sk fr H fun _ fr H=>ForX q H (K fr):=by
     intro sk fr H
     exact propext ⟨vcA_of_ops rest sk fr H K,vcA_to_ops rest sk fr H K⟩
   simp only [vcA] at h
   simp only [YJ,e]
   exact h
end
def prcB (ops:Array Oper) (cl:Nat→Cls) (ms:List Nat) (k i:Nat):Bool:=(ms.getD i 0).testBit k || swapB ops cl k i
def pairsB (f:Nat→Nat→Bool):List Nat→Bool
 | []=>true
 | x :: l=>l.all (f x) && pairsB f l
theorem pairsB_ok {f:Nat→Nat→Bool}:∀ {l:List Nat},pairsB f l=true→l.Pairwise fun a b=>f a b=true
 | [],_=>List.Pairwise.nil
 | x :: l,h=>by
   simp only [pairsB,Bool.and_eq_true,List.all_eq_true] at h
   exact List.pairwise_cons.2 ⟨h.1,pairsB_ok h.2⟩
def pick (ops:Array Oper) (l:List Nat):List Oper:=l.filterMap (ops[·]?)
theorem pick_ok {ops:Array Oper}:∀ {l:List Nat},(∀ x∈l,x<ops.size)→l.map (ops[·]?)=(pick ops l).map some
 | [],_=>rfl
 | x :: l,h=>by
   obtain ⟨o,hx⟩:∃ o,ops[x]?=some o:=⟨_,Array.getElem?_eq_getElem (h x List.mem_cons_self)⟩
   unfold pick
   rw [List.filterMap_cons,hx]
   simp only [List.map_cons,hx]
   congr 1
   exact pick_ok fun y hy=>h y (List.mem_cons_of_mem _ hy)
theorem pick_dsts {ops:Array Oper} {l:List Nat}:∀ d∈Zx (pick ops l),d∈Zx ops.toList:=by
 intro d hd
 unfold Zx pick at *
 simp only [List.mem_filterMap] at hd ⊢
 obtain ⟨o,⟨x,_,hx⟩,ho⟩:=hd
 exact ⟨o,by simpa using Array.mem_of_getElem? hx,ho⟩
section
variable {P:Program} {qf:FuncId→Bool} {r:Option Nat} {ops:Array Oper} {id:Nat}
theorem msk {x y:Nat} (h1:((yD ops.toList []).getD x 0).testBit y=true):Waits ops x y:=masks_spec ops.toList [] (fun j=>by simp) (fun j k hj=>by simp at hj) x y h1
theorem prc_of {cl:Nat→Cls} {x y:Nat} (h1:prcB ops cl (yD ops.toList []) x y=true):Prc ops cl x y:=by
 simp only [prcB,Bool.or_eq_true] at h1
 rcases h1 with h1 | h1
 · exact .inl (msk h1)
 · exact .inr h1
theorem post_of {Q:Exit→Ks} {fr:Fr} {a:Act} {w:World} {a':Act} {w':World} (h:∃ fr',At a' fr'∧a'.defers=a.defers∧Agree (Zx ops.toList) fr fr'∧Q .normal fr' a.defers w'.heap) (hsm:Sm w w'):Post (Zx ops.toList) true Q fr a w .normal a' w':=by
 obtain ⟨fr',h1,h2,h3,h4⟩:=h
 exact ⟨fr',h1,fun _=>h2,h3,by rw [h2]; exact h4,hsm⟩
end
mutual
inductive OT
 | line (l:List Nat)
 | fork (A:List Nat) (bs:OB)
inductive OB
 | nil
 | cons (i:Nat) (t:OT) (bs:OB)
end
def heads:OB→List Nat
 | .nil=>[]
 | .cons i _ bs=>i :: heads bs
section
variable (q:Bool) (P:Program) (ops:Array Oper) (cl:Nat→Cls) (K:Act→Hp→Prop)
mutual
def runT:OT→Act→Hp→Prop
 | .line l=>runD q P ops cl K l
 | .fork A bs=>runA q P ops cl A (runB bs)
def runB:OB→Act→Hp→Prop
 | .nil=>fun _ _=>True
 | .cons i t bs=>fun a H=>yt q P ops cl i (runT t) a H∧runB bs a H
end
mutual
def ValT:OT→List Nat→(Nat→Prop)→Prop
 | .line l,A,R=>(A++l).Nodup∧(A++l).Pairwise (Prc ops cl)∧∀ x,x∈A++l↔R x
 | .fork B bs,A,R=>(A++B).Nodup∧(A++B).Pairwise (Prc ops cl)∧(∀ x∈A++B,R x)∧(∀ x,R x→x∈A++B∨x∈heads bs∨∃ h∈heads bs,Waits ops x h)∧(∀ h∈heads bs,R h∧h ∉ A++B)∧(∃ h,h∈heads bs)∧ValB bs (A++B) R
def ValB:OB→List Nat→(Nat→Prop)→Prop
 | .nil,_,_=>True
 | .cons i t bs,A,R=>(∀ k∈A,Prc ops cl k i)∧ValT t A (fun x=>R x∧x≠i)∧ValB bs A R
end
end
section
variable {q:Bool} {P:Program} {ops:Array Oper} {cl:Nat→Cls} {K:Act→Hp→Prop}
theorem mem_mid {l1 l2:List Nat} {i x:Nat} (hnd:(l1++i :: l2).Nodup):x∈l1++l2↔x∈l1++i :: l2∧x≠i:=by
 rw [List.nodup_append] at hnd
 obtain ⟨_,h2,h3⟩:=hnd
 have h4:=(List.nodup_cons.1 h2).1
 have h5:i ∉ l1:=fun hm=>h3 i hm i List.mem_cons_self rfl
 by_cases hx:x=i
 · subst hx; simp [h4,h5]
 · simp [hx]
theorem minus_comm {R:Nat→Prop} {i j:Nat}:(fun x=>(R x∧x≠i)∧x≠j)=fun x=>(R x∧x≠j)∧x≠i:=by
 funext x; apply propext; constructor <;> rintro ⟨⟨a,b⟩,c⟩ <;> exact ⟨⟨a,c⟩,b⟩
mutual
theorem ValT_drop:∀ (t:OT) {l1 l2:List Nat} {i:Nat} {R:Nat→Prop},ValT ops cl t (l1++i :: l2) R→ValT ops cl t (l1++l2) (fun x=>R x∧x≠i)
 | .line l,l1,l2,i,R,h=>by
   simp only [ValT,List.append_assoc,List.cons_append] at h ⊢
   obtain ⟨h1,h2,h3⟩:=h
   exact ⟨h1.sublist (by simp),pw_drop h2,fun x=>by rw [mem_mid h1,h3]⟩
 | .fork B bs,l1,l2,i,R,h=>by
   simp only [ValT] at h ⊢
   simp only [List.append_assoc,List.cons_append] at h ⊢
   obtain ⟨h1,h2,h3,h4,h5,hh,h6⟩:=h
   refine ⟨h1.sublist (by simp),pw_drop h2,fun x hx=>?_,fun x hx=>?_,fun y hy=>?_,hh,?_⟩
   · rw [mem_mid h1] at hx; exact ⟨h3 x hx.1,hx.2⟩
   · rcases h4 x hx.1 with h7 | h7
     · exact .inl ((mem_mid h1).2 ⟨h7,hx.2⟩)
     · exact .inr h7
   · obtain ⟨h7,h8⟩:=h5 y hy
     refine ⟨⟨h7,fun e=>h8 (by rw [e]; simp)⟩,fun hm=>h8 ((mem_mid h1).1 hm).1⟩
   · exact ValB_drop bs h6
theorem ValB_drop:∀ (bs:OB) {l1 l2:List Nat} {i:Nat} {R:Nat→Prop},ValB ops cl bs (l1++i :: l2) R→ValB ops cl bs (l1++l2) (fun x=>R x∧x≠i)
 | .nil,_,_,_,_,_=>by simp only [ValB]
 | .cons j t bs,l1,l2,i,R,h=>by
   simp only [ValB] at h ⊢
   obtain ⟨h1,h2,h3⟩:=h
   refine ⟨fun k hk=>h1 k ?_,?_,ValB_drop bs h3⟩
   · rcases List.mem_append.1 hk with h4 | h4
     · exact List.mem_append_left _ h4
     · exact List.mem_append_right _ (List.mem_cons_of_mem _ h4)
   · have:=ValT_drop t h2
     rw [minus_comm] at this; exact this
end
theorem ValB_head:∀ (bs:OB) {A:List Nat} {R:Nat→Prop} {i:Nat},ValB ops cl bs A R→i∈heads bs→∃ t,(∀ k∈A,Prc ops cl k i)∧ValT ops cl t A (fun x=>R x∧x≠i)∧∀ a H,runB q P ops cl K bs a H→yt q P ops cl i (runT q P ops cl K t) a H
 | .nil,_,_,_,_,hi=>by simp [heads] at hi
 | .cons j t bs,A,R,i,h,hi=>by
   simp only [ValB] at h
   obtain ⟨h1,h2,h3⟩:=h
   simp only [heads,List.mem_cons] at hi
   by_cases hij:i=j
   · subst hij
     exact ⟨t,h1,h2,fun a H hr=>by simp only [runB] at hr; exact hr.1⟩
   · obtain ⟨t',q1,q2,q3⟩:=ValB_head bs h3 (hi.resolve_left hij)
     exact ⟨t',q1,q2,fun a H hr=>q3 a H (by simp only [runB] at hr; exact hr.2)⟩
variable {r:Option Nat} {Q:Exit→Act→World→Prop} {w₀:World}
theorem any_tree (hn:noSelB ops=true) (hE:edgesB ops=true) (hQ:∀ a w,K a w.heap→Sm w₀ w→Q .normal a w):∀ (n:Nat) (R:List Nat) (t:OT) (A:List Nat) (listed:Array Bool) (a:Act) (H:Hp) (w:World),
     R.length=n→R.Nodup→ValT ops cl t A (·∈R)→listed.size=ops.size→(∀ i,i∈R↔i<ops.size∧listed.getD i false=false) →
     (∀ j oj,ops[j]?=some oj→listed.getD j false=true→∀ e∈oj.after,Region.binds .any e=true→listed.getD e.on false=true) →
     Ex q H w.heap→Sm w₀ w→runA q P ops cl A (runT q P ops cl K t) a H→wpAnyIn (ZV r) 0 P .any ops Q n listed a w:=by
 intro n
 induction n with
 | zero=>?_
 | succ n ih=>?_
 all_goals
   intro R t A listed a H w hlen hnd hV hsz hl hcl hx hsm h
   cases t with
   | line l=>?_
   | fork B bs=>?_
 case zero.line | succ.line=>
   simp only [ValT] at hV
   obtain ⟨h1,h2,h3⟩:=hV
   have hlen2:(A++l).length=R.length:=(List.Perm.length_eq ((List.perm_ext_iff_of_nodup h1 hnd).2 h3))
   simp only [runT] at h
   rw [hlen] at hlen2
   refine (fun hw=>by rw [hlen2] at hw; exact hw:wpAnyIn (ZV r) 0 P .any ops Q (A++l).length listed a w→_) ?_
   refine any_one hn hE hQ (A++l) listed a H w h1 h2 hsz (fun i=>by rw [h3,hl]) hcl hx hsm ?_
   rw [runD_A]
   rw [show runD q P ops cl K l=_ from runD_A l] at h
   exact runA_app _ _ _ _ h
 case zero.fork=>
   have hR:R=[]:=List.eq_nil_of_length_eq_zero hlen
   subst hR
   simp only [ValT] at hV
   obtain ⟨h1,h2,h3,h4,h5,⟨x,hx⟩,h6⟩:=hV
   have:=(h5 x hx).1
   simp at this
 case succ.fork=>
   simp only [ValT] at hV
   obtain ⟨h1,h2,h3,h4,h5,hh,h6⟩:=hV
   simp only [runT] at h
   have h:=runA_app _ _ _ _ h
   refine ⟨fun hr=>(by have:=rdy_emp hE hsz hl hr; rw [this] at hlen; cases hlen),fun i hi=>?_⟩
   have him:=rdy_mem hsz hl hi
   obtain ⟨_,oi,hoi,hall⟩:=mem_ready.1 hi
   have hlt:i<ops.size:=(Array.getElem?_eq_some_iff.1 hoi).1
   have not:∀ k∈R,¬ Waits ops i k:=fun k hk hw=>by
     have h2:=hw.listed hcl fun o ho e he hb=>by rw [hoi] at ho; cases ho; exact hall e he hb
     rw [((hl k).1 hk).2] at h2; cases h2
   obtain ⟨r1,r2,rfl⟩:=List.append_of_mem him
   have hR:(fun x=>x∈r1++i :: r2∧x≠i)=fun x=>x∈r1++r2:=by
     funext x; exact propext (mem_mid hnd).symm
   have go:∀ {t':OT} {A':List Nat},ValT ops cl t' A' (fun x=>x∈r1++i :: r2∧x≠i)→yt q P ops cl i (runA q P ops cl A' (runT q P ops cl K t')) a H→wpOpIn (ZV r) 0 P ops Q i (fun a w=>wpAnyIn (ZV r) 0 P .any ops Q n (listed.setIfInBounds i true) a w) a w:=by
     intro t' A' hV' hs
     rw [hR] at hV'
     refine ye hn hx hs fun a' H' w' hr hx' hsm'=>?_
     exact ih (r1++r2) t' A' (listed.setIfInBounds i true) a' H' w' (by simp at hlen ⊢; omega) (hnd.sublist (by simp)) hV' (by simp [hsz]) (listed_step hsz hlt hnd hl) (closed_step hsz hi hcl) hx' (hsm.trans hsm') hr
   have free:∀ k∈A++B,listed.getD k false=false:=fun k hk=>((hl k).1 (h3 k hk)).2
   rcases h4 i him with h7 | h7 | ⟨hd,h7,h8⟩
   · obtain ⟨l1,l2,he⟩:=List.append_of_mem h7
     rw [he] at h h1 h2 h3 h4 h5 h6 free
     have hp:=runA_pull hn l1 a H (swaps (fun k hk=>free k (List.mem_append_left _ hk)) hi hcl (pw_left h2)) h
     refine go (t':=.fork (l1++l2) bs) (A':=[]) ?_ hp
     have hT:ValT ops cl (.fork [] bs) (l1++i :: l2) (·∈r1++i :: r2):=by
       simp only [ValT,List.append_nil]
       exact ⟨h1,h2,h3,h4,h5,hh,h6⟩
     have:=ValT_drop _ hT
     simp only [ValT,List.append_nil,List.nil_append] at this ⊢
     exact this
   · obtain ⟨t',q1,q2,q3⟩:=ValB_head (q:=q) (P:=P) (K:=K) bs h6 h7
     have h8:runA q P ops cl ((A++B)++i :: []) (runT q P ops cl K t') a H:=runA_app _ _ _ _ (runA_mono (fun a H hr=>q3 a H hr) _ a H h)
     have hp:=runA_pull hn (A++B) a H (swaps free hi hcl q1) h8
     rw [List.append_nil] at hp
     exact go q2 hp
   · exact absurd h8 (not hd (h5 hd h7).1)
def nodB (l:List Nat):Bool:=pairsB (fun a b=>!(Nat.beq a b)) l
theorem nodB_ok {l:List Nat} (h:nodB l=true):l.Nodup:=(pairsB_ok h).imp fun {a b} hab e=>by subst e; simp at hab
mutual
def valTB (ops:Array Oper) (cl:Nat→Cls) (ms:List Nat):OT→List Nat→List Nat→Bool
 | .line l,A,R=>nodB (A++l) && pairsB (prcB ops cl ms) (A++l) && (A++l).all (R.contains ·) && R.all ((A++l).contains ·)
 | .fork B bs,A,R=>nodB (A++B) && pairsB (prcB ops cl ms) (A++B) && (A++B).all (R.contains ·) && R.all (fun x=>(A++B).contains x || (heads bs).contains x || (heads bs).any fun h=>(ms.getD x 0).testBit h) &&
     (heads bs).all (fun h=>R.contains h && !(A++B).contains h) && !(heads bs).isEmpty && valBB ops cl ms bs (A++B) R
def valBB (ops:Array Oper) (cl:Nat→Cls) (ms:List Nat):OB→List Nat→List Nat→Bool
 | .nil,_,_=>true
 | .cons i t bs,A,R=>A.all (fun k=>prcB ops cl ms k i) && valTB ops cl ms t A (R.filter fun x=>!(Nat.beq x i)) && valBB ops cl ms bs A R
end
theorem filter_ne (R:List Nat) (i:Nat):(·∈R.filter fun x=>!(Nat.beq x i))=fun x=>x∈R∧x≠i:=by
 funext x
 apply propext
 rw [List.mem_filter]
 constructor
 · rintro ⟨h1,h2⟩
   exact ⟨h1,fun e=>by subst e; simp at h2⟩
 · rintro ⟨h1,h2⟩
   refine ⟨h1,?_⟩
   cases hb:Nat.beq x i with
   | false=>rfl
   | true=>exact absurd (Nat.eq_of_beq_eq_true hb) h2
mutual
theorem valTB_ok {ms:List Nat} (hms:ms=yD ops.toList []):∀ (t:OT) {A R:List Nat},valTB ops cl ms t A R=true→ValT ops cl t A (·∈R)
 | .line l,A,R,h=>by
   simp only [valTB,Bool.and_eq_true,List.all_eq_true,List.contains_iff_mem] at h
   simp only [ValT]
   obtain ⟨⟨⟨h1,h2⟩,h3⟩,h4⟩:=h
   subst hms
   exact ⟨nodB_ok h1,(pairsB_ok h2).imp prc_of,fun x=>⟨fun hx=>h3 x hx,fun hx=>h4 x hx⟩⟩
 | .fork B bs,A,R,h=>by
   simp only [valTB,Bool.and_eq_true,List.all_eq_true,List.contains_iff_mem,Bool.or_eq_true,List.any_eq_true,Bool.not_eq_true'] at h
   simp only [ValT]
   obtain ⟨⟨⟨⟨⟨⟨h1,h2⟩,h3⟩,h4⟩,h5⟩,h6⟩,h7⟩:=h
   refine ⟨nodB_ok h1,?_,fun x hx=>h3 x hx,fun x hx=>?_,fun x hx=>⟨(h5 x hx).1,fun hm=>?_⟩,?_,valBB_ok hms bs h7⟩
   · subst hms; exact (pairsB_ok h2).imp prc_of
   · rcases h4 x hx with (h8 | h8) | ⟨y,h8,h9⟩
     · exact .inl h8
     · exact .inr (.inl h8)
     · subst hms; exact .inr (.inr ⟨y,h8,msk h9⟩)
   · have:=(h5 x hx).2
     have h9:(A++B).contains x=true:=List.contains_iff_mem.2 hm
     rw [h9] at this; cases this
   · cases hh:heads bs with
     | nil=>rw [hh] at h6; cases h6
     | cons x l=>exact ⟨x,List.mem_cons_self⟩
theorem valBB_ok {ms:List Nat} (hms:ms=yD ops.toList []):∀ (bs:OB) {A R:List Nat},valBB ops cl ms bs A R=true→ValB ops cl bs A (·∈R)
 | .nil,_,_,_=>by simp only [ValB]
 | .cons i t bs,A,R,h=>by
   simp only [valBB,Bool.and_eq_true,List.all_eq_true] at h
   simp only [ValB]
   obtain ⟨⟨h1,h2⟩,h3⟩:=h
   refine ⟨fun k hk=>?_,?_,valBB_ok hms bs h3⟩
   · have:=h1 k hk
     subst hms; exact prc_of this
   · have:=valTB_ok hms t h2
     rw [filter_ne] at this; exact this
end
def treeB (ops:Array Oper) (cl:Nat→Cls) (t:OT):Bool:=noSelB ops && edgesB ops && valTB ops cl (yD ops.toList []) t [] (List.range ops.size)
end
section
variable (P:Program) (qf:FuncId→Bool) (ops:Array Oper) (K:Fr→Hp→Prop)
mutual
def vcT:OT→List Nat→Fr→Hp→Prop
 | .line l=>fun sk fr H=>YJ P qf true true ops (pick ops l) sk fr H K
 | .fork A bs=>fun sk fr H=>vcA P qf true true ops (pick ops A) sk fr H (vcB bs)
def vcB:OB→List Nat→Fr→Hp→Prop
 | .nil=>fun _ _ _=>True
 | .cons i t bs=>fun sk fr H=>vcA P qf true true ops (pick ops [i]) sk fr H (vcT t)∧vcB bs sk fr H
end
end
section
variable {P:Program} {qf:FuncId→Bool} {ops:Array Oper} {r:Option Nat} {id:Nat}
mutual
theorem runT_of_vcT {fr₀:Fr} {ds:List Deferred} {Kv:Fr→Hp→Prop}:∀ (t:OT) {A:List Nat} {R:Nat→Prop} {cl:Nat→Cls},ValT ops cl t A R→(∀ x,R x→x<ops.size)→∀ {sk:List Nat} {fr:Fr} {a:Act} {H:Hp},At a fr→a.defers=ds→Agree (Zx ops.toList) fr₀ fr→vcT P qf ops Kv t sk fr H →
   runT true P ops (clAt P qf true true ops) (fun a' H'=>∃ fr',At a' fr'∧a'.defers=ds∧Agree (Zx ops.toList) fr₀ fr'∧Kv fr' H') t a H
 | .line l,A,R,cl,hV,hR,sk,fr,a,H,h1,h2,h3,h=>by
   simp only [ValT] at hV
   simp only [vcT] at h
   simp only [runT]
   rw [show runD true P ops (clAt P qf true true ops) _ l=_ from runD_A l]
   exact YQ (P:=P) (qf:=qf) (dr:=true) (q:=true) (all:=ops) (fz:=true) (ds:=ds) (W:=Zx ops.toList) (fr₀:=fr₀) (fun h=>by cases h) (fun _=>rfl) (fun sk fr a H p1 p2 p3 p4 H' hx=>⟨fr,p1,p2,p3,p4 H' hx⟩) l _ sk fr a H (pick_ok fun x hx=>hR x ((hV.2.2 x).1 (List.mem_append_right _ hx))) (fun d hd=>pick_dsts d hd) h1 h2 h3 (vcA_of_ops _ _ _ _ _ h)
 | .fork B bs,A,R,cl,hV,hR,sk,fr,a,H,h1,h2,h3,h=>by
   simp only [ValT] at hV
   simp only [vcT] at h
   simp only [runT]
   exact YQ (K:=vcB P qf ops Kv bs) (P:=P) (qf:=qf) (dr:=true) (q:=true) (all:=ops) (fz:=true) (ds:=ds) (W:=Zx ops.toList) (fr₀:=fr₀) (fun h=>by cases h) (fun _=>rfl) (fun sk fr a H p1 p2 p3 p4=>runB_of_vcB bs hV.2.2.2.2.2.2 hR (fun x hx=>(hV.2.2.2.2.1 x hx).1) p1 p2 p3 p4) B _ sk fr a H (pick_ok fun x hx=>hR x (hV.2.2.1 x (List.mem_append_right _ hx))) (fun d hd=>pick_dsts d hd) h1 h2 h3 h
theorem runB_of_vcB {fr₀:Fr} {ds:List Deferred} {Kv:Fr→Hp→Prop}:∀ (bs:OB) {A:List Nat} {R:Nat→Prop} {cl:Nat→Cls},ValB ops cl bs A R→(∀ x,R x→x<ops.size)→(∀ x∈heads bs,R x)→∀ {sk:List Nat} {fr:Fr} {a:Act} {H:Hp},At a fr→a.defers=ds→Agree (Zx ops.toList) fr₀ fr→vcB P qf ops Kv bs sk fr H →
   runB true P ops (clAt P qf true true ops) (fun a' H'=>∃ fr',At a' fr'∧a'.defers=ds∧Agree (Zx ops.toList) fr₀ fr'∧Kv fr' H') bs a H
 | .nil,_,_,_,_,_,_,_,_,_,_,_,_,_,_=>by simp only [runB]
 | .cons i t bs,A,R,cl,hV,hR,hh,sk,fr,a,H,h1,h2,h3,h=>by
   simp only [ValB] at hV
   simp only [vcB] at h
   simp only [runB]
   refine ⟨?_,runB_of_vcB bs hV.2.2 hR (fun x hx=>hh x (by simp only [heads]; exact List.mem_cons_of_mem _ hx)) h1 h2 h3 h.2⟩
   exact YQ (K:=vcT P qf ops Kv t) (P:=P) (qf:=qf) (dr:=true) (q:=true) (all:=ops) (fz:=true) (ds:=ds) (W:=Zx ops.toList) (fr₀:=fr₀) (fun h=>by cases h) (fun _=>rfl) (fun sk fr a H p1 p2 p3 p4=>runT_of_vcT t hV.2.1 (fun x hx=>hR x hx.1) p1 p2 p3 p4) [i] _ sk fr a H (pick_ok fun x hx=>by
     rw [List.mem_singleton] at hx; subst hx
     exact hR x (hh x (by simp [heads]))) (fun d hd=>pick_dsts d hd) h1 h2 h3 h.1
end
theorem tree_sound {t:OT} (hm:P.follows .mixedOrders=true) (hB:treeB ops (clAt P qf true true ops) t=true) {Q:Exit→Ks} {fr:Fr} {a:Act} {w:World} (ha:At a fr) (h:vcT P qf ops (fun fr' H'=>Q .normal fr' a.defers H') t [] fr w.heap) :
   (Code.region id ops true).wpIn (ZV r) 0 P (Post (Zx ops.toList) true Q fr a w) a w:=by
 simp only [treeB,Bool.and_eq_true] at hB
 obtain ⟨⟨hn,hE⟩,hV⟩:=hB
 have hV:=valTB_ok rfl t hV
 have hrun:=runT_of_vcT t hV (fun x hx=>List.mem_range.1 hx) (fr₀:=fr) (ds:=a.defers) ha rfl (Agree.refl _ _) h
 refine wpIn_region_any hm ?_
 refine any_tree (cl:=clAt P qf true true ops) (q:=true) (w₀:=w) hn hE (fun a' w' hk hsm=>post_of hk hsm) ops.size (List.range ops.size) t [] _ a w.heap _ List.length_range List.nodup_range hV (by simp) (fun j=>?_) (fun j oj hj hlj=>?_) (Ex.refl true _) ⟨rfl,rfl,rfl⟩ hrun
 · rw [List.mem_range]
   simp only [Array.getD_eq_getD_getElem?,Array.getElem?_replicate]
   constructor
   · intro hi; exact ⟨hi,by rw [if_pos hi]; rfl⟩
   · exact fun h=>h.1
 · simp only [Array.getD_eq_getD_getElem?,Array.getElem?_replicate] at hlj
   split at hlj <;> cases hlj
end
def planAt:List (Nat × OT)→Nat→Option OT
 | [],_=>none
 | (i,t) :: l,k=>match Nat.beq i k with
   | true=>some t
   | false=>planAt l k
def vcRegP (P:Program) (qf:FuncId→Bool) (pl:List (Nat × OT)) (id:Nat) (ops:Array Oper) (dr:Bool) (fr:Fr) (H:Hp) (K:Fr→Hp→Prop):Prop:=
 match planAt pl id with
 | none=>vcReg P qf ops dr fr H K
 | some t=>if dr && (P.follows .mixedOrders && treeB ops (clAt P qf true true ops) t) then vcT P qf ops K t [] fr H else False
def vcp (P:Program) (qf:FuncId→Bool) (pl:List (Nat × OT)):(top:Bool)→Code→Ann→(Exit→Ks)→Ks
 | _,.skip,_,Q,fr,ds,H=>Q .normal fr ds H
 | _,.label _,_,Q,fr,ds,H=>Q .normal fr ds H
 | _,.ret,_,Q,fr,ds,H=>Q .ret fr ds H
 | _,.exit id,_,Q,fr,ds,H=>Q (.exit id) fr ds H
 | _,.region id ops dr,_,Q,fr,ds,H=>vcRegP P qf pl id ops dr fr H fun fr' H'=>Q .normal fr' ds H'
 | top,.seq a b,ann,Q,fr,ds,H=>
   match ann with
   | .join L J l r=>
     if subB (ZM a) (L++J) && Zt a then
       zS (fun s H=>Any fun j=>vcp P qf pl top b r Q (lay L s (havoc J j fr)) ds H) fun K=>vcp P qf pl top a l (thn (fun fr' _ H'=>K (grab fr' L) H') Q) fr ds H
     else False
   | .seq l r=>vcp P qf pl top a l (thn (vcp P qf pl top b r Q) Q) fr ds H
   | _=>vcp P qf pl top a .nil (thn (vcp P qf pl top b .nil Q) Q) fr ds H
 | top,.cond c a b,ann,Q,fr,ds,H=>
   match ann with
   | .cond l r=>Ite (ev fr c) (vcp P qf pl top a l Q fr ds H) (vcp P qf pl top b r Q fr ds H)
   | _=>Ite (ev fr c) (vcp P qf pl top a .nil Q fr ds H) (vcp P qf pl top b .nil Q fr ds H)
 | top,.block id c,ann,Q,fr,ds,H=>vcp P qf pl top c ann (blk id Q) fr ds H
 | top,.scope c,ann,Q,fr,ds,H=>vcp P qf pl top c ann (scp Q) fr ds H
 | top,.loop c,ann,Q,fr,ds,H=>
   match ann with
   | .loop L J b=>
     if subB (ZM c) (L++J) && Zt c then
       zx (grab fr L) H fun K s H=>Any fun j=>vcp P qf pl top c b (thn (fun fr' _ H'=>K (grab fr' L) H') Q) (lay L s (havoc J j fr)) ds H
     else False
   | _=>False
 | true,.rangeFunc g ps x y,ann,Q,fr,ds,H=>
   match ann with
   | .seq l r=>RangeF P (ev fr g) ps.size H
       (fun s H2 B K=>vcp P qf pl false x l (asgQ B (vcp P qf pl false y r (rndQ K))) (setL fr (ps.toList.zip (tupL ps.size s))) [] H2)
       (fun j D H'=>onJ j (Q .normal fr (markD D :: ds) H') (Q .ret fr (markD D :: ds) H') fun id=>Q (.exit id) fr (markD D :: ds) H')
   | _=>False
 | _,_,_,_,_,_,_=>False
section
variable {P:Program} {qf:FuncId→Bool} {pl:List (Nat × OT)} {r:Option Nat}
theorem regionP_sound {ops:Array Oper} {dr:Bool} {id:Nat} {Q:Exit→Ks} {fr:Fr} {a:Act} {w:World} (ha:At a fr) (h:vcRegP P qf pl id ops dr fr w.heap fun fr' H'=>Q .normal fr' a.defers H') :
   (Code.region id ops dr).wpIn (ZV r) 0 P (Post (Zx ops.toList) true Q fr a w) a w:=by
 unfold vcRegP at h
 split at h
 · exact region_sound ha h
 · split at h
   · rename_i hB
     simp only [Bool.and_eq_true] at hB
     obtain ⟨h1,h2,h3⟩:=hB
     subst h1
     exact tree_sound h2 h3 ha h
   · exact h.elim
theorem vcp_sound:∀ (c:Code) (top:Bool) (r:Option Nat) (ann:Ann) (Q:Exit→Ks) (fr:Fr) (a:Act) (w:World),(top=true→r=none)→At a fr→vcp P qf pl top c ann Q fr a.defers w.heap →
   c.wpIn (ZV r) 0 P (Post (ZM c) (Zt c) Q fr a w) a w:=by
 intro c
 induction c with
 | skip=>intro top r ann Q fr a w ht ha h; cases top <;> exact wpIn_skip ⟨fr,ha,fun _=>rfl,Agree.refl _ _,h,Sm.refl w⟩
 | label l=>intro top r ann Q fr a w ht ha h; cases top <;> exact wpIn_label ⟨fr,ha,fun _=>rfl,Agree.refl _ _,h,Sm.refl w⟩
 | ret=>intro top r ann Q fr a w ht ha h; cases top <;> exact wpIn_ret ⟨fr,ha,fun _=>rfl,Agree.refl _ _,h,Sm.refl w⟩
 | exit id=>intro top r ann Q fr a w ht ha h; cases top <;> exact wpIn_exit ⟨fr,ha,fun _=>rfl,Agree.refl _ _,h,Sm.refl w⟩
 | region id ops dr=>intro top r ann Q fr a w ht ha h; cases top <;> exact regionP_sound ha h
 | block id c ih=>
   intro top r ann Q fr a w ht ha h
   have h':vcp P qf pl top c ann (blk id Q) fr a.defers w.heap:=by cases top <;> exact h
   refine wpIn_block (wpIn_mono (ih top r ann (blk id Q) fr a w ht ha h') fun e a' w' hp=>?_)
   cases e <;> try exact hp
   rename_i k
   simp only [Exit.inBlock]
   split
   · rename_i hk
     obtain ⟨fr',h1,h2,h3,h4,h5⟩:=hp
     simp only [blk,isX,hk,if_true] at h4
     exact ⟨fr',h1,h2,h3,h4,h5⟩
   · rename_i hk
     obtain ⟨fr',h1,h2,h3,h4,h5⟩:=hp
     simp only [blk,isX,hk,if_false] at h4
     exact ⟨fr',h1,h2,h3,h4,h5⟩
 | cond c x y ihx ihy=>
   intro top r ann Q fr a w ht ha h
   have key:∃ l r',Ite (ev fr c) (vcp P qf pl top x l Q fr a.defers w.heap) (vcp P qf pl top y r' Q fr a.defers w.heap):=by
     cases top <;> (unfold vcp at h; split at h) <;> exact ⟨_,_,h⟩
   obtain ⟨l,r',h⟩:=key
   unfold Ite at h
   have n1:Zt (.cond c x y)=true→Zt x=true:=fun h=>by simp only [Zt,Bool.and_eq_true] at h; exact h.1
   have n2:Zt (.cond c x y)=true→Zt y=true:=fun h=>by simp only [Zt,Bool.and_eq_true] at h; exact h.2
   split at h
   · rename_i hc
     refine wpIn_cond_true (by rw [ha.ev]; exact hc) (wpIn_mono (ihx top r l Q fr a w ht ha h) fun e a' w' hp=>hp.mono (fun k hk=>List.mem_append_left _ hk) n1 fun _ _ _ h=>h)
   · rename_i hc
     refine wpIn_cond_false (by rw [ha.ev]; exact hc) (wpIn_mono (ihy top r r' Q fr a w ht ha h) fun e a' w' hp=>hp.mono (fun k hk=>List.mem_append_right _ hk) n2 fun _ _ _ h=>h)
   · exact h.elim
 | seq x y ihx ihy=>
   intro top r ann Q fr a w ht ha h
   have n1:Zt (.seq x y)=true→Zt x=true:=fun h=>by simp only [Zt,Bool.and_eq_true] at h; exact h.1
   have n2:Zt (.seq x y)=true→Zt y=true:=fun h=>by simp only [Zt,Bool.and_eq_true] at h; exact h.2
   have fin:∀ (l:Ann) (K:Ks),vcp P qf pl top x l (thn K Q) fr a.defers w.heap→(∀ fr' a' w',At a' fr'→(Zt x=true→a'.defers=a.defers)→Agree (ZM x) fr fr'→K fr' a'.defers w'.heap→Sm w w'→∃ r',vcp P qf pl top y r' Q fr' a'.defers w'.heap) →
       (Code.seq x y).wpIn (ZV r) 0 P (Post (ZM (.seq x y)) (Zt (.seq x y)) Q fr a w) a w:=by
     intro l K hx hk
     refine wpIn_seq (wpIn_mono (ihx top r l (thn K Q) fr a w ht ha hx) fun e a' w' hp=>?_)
     cases e <;> try exact hp.mono (fun k hk=>List.mem_append_left _ hk) n1 fun _ _ _ h=>h
     obtain ⟨fr',h1,h2,h3,h4,h5⟩:=hp
     obtain ⟨r',h6⟩:=hk fr' a' w' h1 h2 h3 h4 h5
     exact wpIn_mono (ihy top r r' Q fr' a' w' ht h1 h6) fun e a'' w'' hp=>(hp.mono (fun k hk=>List.mem_append_right _ hk) n2 fun _ _ _ h=>h).trans (fun h=>h2 (n1 h)) (h3.mono fun k hk=>List.mem_append_left _ hk) h5
   have key:(∃ L J l r',ann=.join L J l r'∧(subB (ZM x) (L++J) && Zt x)=true∧zS (fun s H=>Any fun j=>vcp P qf pl top y r' Q (lay L s (havoc J j fr)) a.defers H) fun K=>vcp P qf pl top x l (thn (fun fr' _ H'=>K (grab fr' L) H') Q) fr a.defers w.heap) ∨
       ∃ l r',vcp P qf pl top x l (thn (vcp P qf pl top y r' Q) Q) fr a.defers w.heap:=by
     cases top <;> (unfold vcp at h; split at h)
     · rename_i L J l r'
       split at h
       · rename_i hs; exact .inl ⟨L,J,l,r',rfl,hs,h⟩
       · exact h.elim
     · exact .inr ⟨_,_,h⟩
     · exact .inr ⟨_,_,h⟩
     · rename_i L J l r'
       split at h
       · rename_i hs; exact .inl ⟨L,J,l,r',rfl,hs,h⟩
       · exact h.elim
     · exact .inr ⟨_,_,h⟩
     · exact .inr ⟨_,_,h⟩
   rcases key with ⟨L,J,l,r',_,hs,K,hr,hf⟩ | ⟨l,r',h⟩
   · simp only [Bool.and_eq_true] at hs
     refine fin l _ hf fun fr' a' w' h1 h2 h3 h4 h5=>⟨r',?_⟩
     have:=hr _ _ h4 (slot fr')
     simp only [lay_back h3 hs.1] at this
     rw [h2 hs.2]
     exact this
   · exact fin _ _ h fun fr' a' w' h1 h2 h3 h4 h5=>⟨_,h4⟩
 | loop c ih=>
   intro top r ann Q fr a w ht ha h
   have key:∃ L J b,(subB (ZM c) (L++J) && Zt c)=true∧zx (grab fr L) w.heap fun K s H=>Any fun j=>vcp P qf pl top c b (thn (fun fr' _ H'=>K (grab fr' L) H') Q) (lay L s (havoc J j fr)) a.defers H:=by
     cases top <;> (unfold vcp at h; split at h)
     · split at h
       · rename_i hs; exact ⟨_,_,_,hs,h⟩
       · exact h.elim
     · exact h.elim
     · split at h
       · rename_i hs; exact ⟨_,_,_,hs,h⟩
       · exact h.elim
     · exact h.elim
   obtain ⟨L,J,b,hs,I,μ,h0,hround⟩:=key
   simp only [Bool.and_eq_true] at hs
   refine wpIn_loop (fun a' w'=>∃ fr',At a' fr'∧a'.defers=a.defers∧Agree (ZM c) fr fr'∧I (grab fr' L) w'.heap∧Sm w w') (fun a' w'=>μ (grab a'.tmps.toList L) w'.heap) ⟨fr,ha,rfl,Agree.refl _ _,h0,Sm.refl w⟩ ?_
   rintro a' w' ⟨fr',h1,h2,h3,h4,h5⟩
   have hr:=hround _ _ h4 (slot fr')
   simp only [lay_back h3 hs.1] at hr
   rw [← h2] at hr
   refine wpIn_mono (ih top r b _ fr' a' w' ht h1 hr) fun e a'' w'' hp=>?_
   have hp':=hp.trans (fun _=>h2) h3 h5
   cases e <;> try exact hp'
   obtain ⟨fr'',k1,k2,k3,k4,k5⟩:=hp'
   have e1:a'.tmps.toList=fr':=by rw [show a'.tmps=fr'.toArray from h1]
   have e2:a''.tmps.toList=fr'':=by rw [show a''.tmps=fr''.toArray from k1]
   refine ⟨⟨fr'',k1,k2 hs.2,k3,k4.1,k5⟩,?_⟩
   rw [e1,e2]
   exact k4.2
 | scope c ih=>
   intro top r ann Q fr a w ht ha h
   have h':vcp P qf pl top c ann (scp Q) fr a.defers w.heap:=by cases top <;> exact h
   refine wpIn_scope (wpIn_mono (ih top r ann (scp Q) fr a w ht ha h') fun e a' w' hp=>?_)
   cases e <;> try exact hp
   obtain ⟨fr',h1,h2,h3,h4,h5⟩:=hp
   exact h4.elim
 | goto l=>intro top r ann Q fr a w ht ha h; cases top <;> exact h.elim
 | refuse why=>intro top r ann Q fr a w ht ha h; cases top <;> exact h.elim
 | rangeFunc g ps x y ihx ihy=>
   intro top r ann Q fr a w ht ha h
   cases top with
   | false=>exact h.elim
   | true=>
     have hr:=ht rfl
     subst hr
     unfold vcp at h
     split at h
     · rename_i l r'
       obtain ⟨⟨f,first,cap,hg⟩,h⟩:=h
       have hga:a.eval g=.func (.func f) first cap:=by rw [ha.ev]; exact hg
       refine wpIn_rangeFunc fun fn _=>?_
       let rec0:Loop:={ state:=.ready,pending:=none,fn:=fn,tmps:=a.tmps,params:=ps,assign:=x,body:=y,defers:=w.heap.size }
       let H1:Hp:=(w.heap.push (.deferred (some []))).push (.loop rec0)
       let w1:World:={ w with heap:=H1 }
       have hs1:H1.size=w.heap.size+2:=by simp [H1]
       have hlp:LpAt rec0 (w.heap.size+1) .ready none H1:=by
         show H1[w.heap.size+1]?=_
         simp only [H1]
         rw [Array.getElem?_push,if_pos (by simp)]; rfl
       have hdf:H1[w.heap.size]?=some (.deferred (some [])):=by
         simp only [H1]
         rw [Array.getElem?_push,if_neg (by simp),Array.getElem?_push,if_pos rfl]
       have hcall:=h rec0 (w.heap.size+1) w.heap.size (.func (.yield (w.heap.size+1)) #[] #[]) H1 ((Ext.push _ _).trans (Ext.push _ _)) (Nat.le_refl _) (by omega) (by omega) hdf hlp (by
         intro s H2 K hl2 hround
         unfold CallV
         simp only
         unfold Yld
         rw [show H2[w.heap.size+1]?=_ from hl2]
         simp only
         refine ⟨by simp [rec0,tupL_len],?_⟩
         intro w2 hw2
         subst hw2
         refine roundIn_of_wpIn (F:=ZV none) (n:=0) trivial ?_
         have ha0:At { tmps:=((ps.zip (tupL ps.size s).toArray).foldl (fun tmps (x:Nat × Value)=>tmps.setIfInBounds x.1 x.2) a.tmps),defers:=[] } (setL fr (ps.toList.zip (tupL ps.size s))):=by
           have ht':a.tmps=fr.toArray:=ha
           show _=_
           simp only
           rw [← setL_at,ht',← Array.foldl_toList]
           simp
         have hA:=ihx false (some (w.heap.size+1)) l _ _ _ w2 (fun e=>by cases e) ha0 hround
         refine wpIn_mono hA fun e a1 w3 hp=>?_
         obtain ⟨fr1,k1,k2,_,k4,k5⟩:=hp
         cases e <;> simp only [asgQ] at k4 <;> try exact k4.elim
         obtain ⟨hl3,hbody⟩:=k4
         refine ⟨_,begin_ok hl3,?_⟩
         have hB:=ihy false (some (w.heap.size+1)) r' _ fr1 a1 { w3 with heap:=setLp rec0 (w.heap.size+1) .busy none w3.heap } (fun e=>by cases e) k1 hbody
         refine wpIn_mono hB fun e a2 w4 hp=>?_
         obtain ⟨fr2,j1,j2,_,j4,j5⟩:=hp
         have hsm:Sm w2 w4:=k5.trans ⟨j5.os,j5.out,j5.tape⟩
         have fin:∀ j:Jmp,(LpAt rec0 (w.heap.size+1) .busy none w4.heap∧K (.bool j.isNone) (setLp rec0 (w.heap.size+1) (if j.isNone then .ready else .done) j w4.heap)) →
             ∃ v w',(Instr.endRound (w.heap.size+1) (Yr j)).run P w4=.ok v w'∧∃ v',Ending.returned v=.returned v'∧K v' w'.heap∧Sm w2 w':=fun j hj=>
           ⟨_,_,end_ok hj.1,_,rfl,hj.2,hsm.trans ⟨rfl,rfl,rfl⟩⟩
         cases e <;> simp only [rndQ] at j4 <;> try exact j4.elim
         · exact fin none j4
         · exact fin (some (some _)) j4
         · exact fin (some none) j4)
       rw [hg] at hcall
       obtain ⟨hen,hfc⟩:=hcall
       refine ⟨w.heap.size+1,[markD w.heap.size],w1,{ target:=.fn (.func f) cap,args:=first++#[.func (.yield (w.heap.size+1)) #[] #[]] },w1,f,(first++#[.func (.yield (w.heap.size+1)) #[] #[]])++cap,w1,?_,?_,fun _ _=>trivial,?_,fun h=>by simp [ZV,Fence.wide] at h,?_⟩
       · simp [Instr.enterLoop,newObj,ZV,Sem.run,markD,w1,H1,rec0]
         rfl
       · unfold resolve
         simp only [rangeCall,hga]
         simp [Deferred.ofValue,Act.eval]
       · have:=enter_ok hen ((first++#[.func (.yield (w.heap.size+1)) #[] #[]])++cap) w1
         simpa [invoke] using this
       · have e1:((first.toList++#[Value.func (.yield (w.heap.size+1)) #[] #[]].toList)++cap.toList).toArray=(first++#[.func (.yield (w.heap.size+1)) #[] #[]])++cap:=by simp
         rw [e1] at hfc
         refine CallsIn.mono (hfc w1 rfl) fun e w5 ⟨v,he,hpost,hsm⟩=>?_
         subst he
         obtain ⟨st,j,hst,hlpj,haft⟩:=hpost
         refine ⟨_,_,endLoop_ok hst hlpj,?_⟩
         have hsm':Sm w { w5 with heap:=setLp rec0 (w.heap.size+1) .exhausted j w5.heap }:=⟨hsm.os,hsm.out,hsm.tape⟩
         match j,haft with
         | none,haft=>exact ⟨fr,ha,fun h=>(by cases h),Agree.refl _ _,haft,hsm'⟩
         | some none,haft=>exact wpIn_ret ⟨fr,ha,fun h=>(by cases h),Agree.refl _ _,haft,hsm'⟩
         | some (some id),haft=>exact wpIn_exit ⟨fr,ha,fun h=>(by cases h),Agree.refl _ _,haft,hsm'⟩
     · exact h.elim
end
def VcFnP (P:Program) (qf:FuncId→Bool) (pl:List (Nat × OT)) (fn:Func) (ann:Ann) (args:List Value) (H:Hp) (R:Value→Hp→Prop):Prop:=
 match fn.body with
 | none=>False
 | some c=>vcp P qf pl true c ann (retQ P fn R) (padF args fn.ntmps) [] H
section
variable {P:Program} {qf:FuncId→Bool}
theorem ZB {f:FuncId} {fn:Func} (qf:FuncId→Bool) (pl:List (Nat × OT)) (ann:Ann) (hf:P.funcs[f]?=some fn) {args:List Value} {H:Hp} {R:Value→Hp→Prop} (h:VcFnP P qf pl fn ann args H R):Fc P f args.toArray H R:=by
 intro w hw
 subst hw
 unfold VcFnP at h
 cases hb:fn.body with
 | none=>simp only [hb] at h
 | some c=>
   simp only [hb] at h
   refine callsIn_of_wp_marks hf hb trivial ?_ rfl
   have ha:At { tmps:=args.toArray++Array.replicate (fn.ntmps - args.toArray.size) undef,defers:=[] } (padF args fn.ntmps):=by
     simp [At,padF]
   refine wpIn_mono (vcp_sound c true none ann _ _ _ w (fun _=>rfl) ha h) fun e a' w' hp=>?_
   obtain ⟨fr',h1,h2,_,h4,h5⟩:=hp
   have ht:a'.tmps.toList=fr':=by rw [show a'.tmps=fr'.toArray from h1]
   have fin:VcEnd a'.defers w'.heap (fun H'=>Res P fn.results.toList fr' H' R)→LeavesInM (ZV none) 0 P fn a'.tmps (fun e w'=>∃ v,e=.returned v∧R v w'.heap∧Sm w w') a'.defers .returning w':=fun h=>by
     refine ends_ok a'.defers w' h5 (fun w2 hs hr=>?_) (by rw [ht]; exact h)
     rw [ht] at hr
     obtain ⟨v,hv,hR⟩:=results_ok h1 hr
     exact ⟨v,hv,v,rfl,hR,hs⟩
   cases e <;> simp only [retQ] at h4 <;> try exact h4.elim
   · exact fin h4
   · exact fin h4
end
end Go.Vc
