/- Parts of a proof, joined in build order: a calculus of contracts, contracts of functions. -/
import Derived.Test.YtfegkmmifpgpfaaGreatRQD
import Derived.RangeFuncLeaves
set_option linter.unusedVariables false
set_option linter.unusedSimpArgs false
set_option maxHeartbeats 8000000
set_option maxRecDepth 100000
namespace Go.Vc
theorem xN(j:Nat->Value)(fr:Fr):∀ J,(oU J j fr).length=fr.length
 | []=>rfl
 | k :: J=>by simp[oU,xN j fr J]
theorem EW(j:Nat->Value)(fr:Fr)(k:Nat):∀ J,(oU J j fr)[k]?=if k∈J/\k<fr.length then some (j k) else fr[k]?
 | []=>by simp[oU]
 | i :: J=>by
  simp only[oU,lU,xN,EW j fr k J,jg];by_cases hi:i=k
  ·subst hi;by_cases hl:i<fr.length
   ·simp[hl]
   ·simp[hl]
  ·have:¬ k=i:=fun h=>hi h.symm;simp[hi,this]
theorem MN(fr:Fr):∀ L (s:Bw (List.length L)),(lay L s fr).length=fr.length
 | [],_=>rfl
 | k :: L,s=>by simp[lay,MN fr L s.2]
theorem wx(fr uN:Fr)(k:Nat):∀ L,(lay L (qP uN L) fr)[k]?=if k∈L/\k<fr.length then some (slot uN k) else fr[k]?
 | []=>by simp[lay]
 | i :: L=>by
  simp only[lay,qP,lU,MN,wx fr uN k L,jg];by_cases hi:i=k
  ·subst hi;by_cases hl:i<fr.length
   ·simp[hl]
   ·simp[hl]
  ·have:¬ k=i:=fun h=>hi h.symm;simp[hi,this]
theorem NG{xs ys:List Nat}(h:DM xs ys=true):∀ k∈xs,k∈ys:=fun k hk=>by
 simpa using kl.1 h k hk
theorem wy{W L J:List Nat}{fr uN:Fr}(h:ky W fr uN)(hs:DM W (L++J)=true):lay L (qP uN L) (oU J (slot uN) fr)=uN:=by
 apply ku;intro k;have uy:k<fr.length->uN[k]?=some (slot uN k):=fun hl=>by
  have:k<uN.length:=by rw[h.1];exact hl
  simp[slot,this]
 rw[wx,xN,EW];by_cases hl:k<fr.length
 ·by_cases hL:k∈L
  ·simp[hL,hl,uy hl]
  ·by_cases hJ:k∈J
   ·simp[hL,hJ,hl,uy hl]
   ·have:k ∉ W:=fun hm=>by
     have:=NG hs k hm;simp[hL,hJ]at this
    simp[hL,hJ,h.2 k this]
 ·have h1:fr[k]?=none:=eR (by omega);have h2:uN[k]?=none:=eR (by rw[h.1];omega);simp[hl,h1,h2]
section
variable{P:Program}{b:Frame}{a:Act}{k:List Item}{cs:List Frame}{w:World}{F:Fence}{n:Nat}{Q:Exit->Act->World->Prop}
theorem yV{c:Code}:step P (lone (b.atR a (.code (.scope c) :: k)) cs w)=.next (lone (b.atR a (.code c :: .inScope c :: k)) cs w):=
 step_lone_go (by simp[stepG,stepG.exec,Frame.atR])
theorem DN{c:Code}:step P (lone (b.atR a (.inScope c :: k)) cs w)=.next (lone (b.atR a k) cs w):=
 step_lone_go (by simp[stepG,stepG.exec,Frame.atR])
def agd(Q:Exit->Act->World->Prop):Exit->Act->World->Prop
 | .goto _,_,_=>False
 | e,a,w=>Q e a w
theorem BE{c:Code}(h:c.wpIn F n P (agd Q) a w):(Code.scope c).wpIn F n P Q a w:=by
 intro b k cs hro hb hr;have h0:(lone (b.atR a (.code (.scope c) :: k)) cs w).fenced P F:=fenced_calm hb hr rfl;obtain⟨e,a₁,w₁,hq,Ou⟩:=h b (.inScope c :: k) cs hro hb hr;cases e with
 | normal=>exact⟨.normal,a₁,w₁,hq,.head h0 yV (StepsIn.trans Ou (.one (fenced_calm hb hr rfl) DN))⟩
 | exit id'=>
  have hx:exitTo id' (.inScope c :: k)=exitTo id' k:=by simp[exitTo]
  exact⟨.exit id',a₁,w₁,hq,fun k' hk=>.head h0 yV (Ou.1 k' (by rw[hx];exact hk)),
   fun hr' hk=>let ⟨k₁,h1,h2⟩:=Ou.2 hr' (by rw[hx];exact hk);⟨k₁,h1,.head h0 yV h2⟩⟩
 | goto l=>exact hq.elim
 | ret=>exact⟨_,a₁,w₁,hq,.of_steps (.one h0 yV) Ou⟩
 | panic ch=>exact⟨_,a₁,w₁,hq,.of_steps (.one h0 yV) Ou⟩
 | outgrown=>exact⟨_,a₁,w₁,hq,.of_steps (.one h0 yV) Ou⟩
end
section
variable{P:Program}{qf:FuncId->Bool}{r:Option Nat}
theorem rX{q:Bool}{ops:Array Oper}{cl:Nat->GO}(hn:oB ops=true){Q:Exit->Act->World->Prop}{K:Act->Hp->Prop}{w₀:World}(hQ:∀ a w,K a w.heap->Sm w₀ w->Q .normal a w) :
   ∀ (l:List Nat) (a:Act) (H:Hp) (w:World),Ex q H w.heap->Sm w₀ w->uq q P ops cl K l a H->wpOpsIn (Z5 r) 0 P ops Q l a w
 | [],a,H,w,hx,mL,h=>hQ a w (h _ hx) mL
 | i :: l,a,H,w,hx,mL,h=>by
   rw[wpOpsIn_cons]
   exact yK hn hx h fun a' H' w' hr AQ vn=>rX hn hQ l a' H' w' AQ (mL.trans vn) hr
def vK(W:List Nat)(nd:Bool)(Q:Exit->Ks)(fr:Fr)(a:Act)(w:World):Exit->Act->World->Prop:=fun e a' w'=>
 ∃ kR,At a' kR/\(nd=true->a'.defers=a.defers)/\ky W fr kR/\Q e kR a'.defers w'.heap/\Sm w w'
theorem ry{ops:Array Oper}{dr:Bool}{id:Nat}{Q:Exit->Ks}{fr:Fr}{a:Act}{w:World}(ha:At a fr)(h:Hb P qf ops dr fr w.heap fun kR H'=>Q .normal kR a.defers H') :
   (Code.region id ops dr).wpIn (Z5 r) 0 P (vK (ZU ops.toList) true Q fr a w) a w:=by
 have out:∀ (a':Act) (w':World),(∃ kR,At a' kR/\a'.defers=a.defers/\ky (ZU ops.toList) fr kR/\Q .normal kR a.defers w'.heap)->Sm w w'->vK (ZU ops.toList) true Q fr a w .normal a' w':=by
   rintro a' w' ⟨kR,h1,h2,h3,h4⟩ mL
   exact⟨kR,h1,fun _=>h2,h3,by rw[h2];exact h4,mL⟩
 unfold Hb at h
 cases dr with
 | false=>
   simp only at h
   split at h
   · rename_i hn
     refine wpIn_region ?_
     have vo:=YQ (P:=P) (qf:=qf) (dr:=false) (q:=false) (fz:=false) (all:=ops) (fun _=>rfl) (fun h=>by cases h) (W:=ZU ops.toList) (ds:=a.defers) (fr₀:=fr) ops.toList 0 [] fr a w.heap (fun kR H'=>Q .normal kR a.defers H') (by simp) (fun _ h=>h) ha rfl (ky.refl _ _) h
     rw[List.range_eq_range',<- lG]
     exact rX hn (w₀:=w) (fun a' w' hk mL=>out a' w' hk mL) _ a w.heap w (Ex.refl _ _) (Sm.refl w) vo
   · exact h.elim
 | true=>
   simp only at h
   split at h
   · rename_i hB
     simp only[jd]at hB
     have vo:=YQ (P:=P) (qf:=qf) (dr:=true) (q:=ahY qf ops) (fz:=false) (all:=ops) (fun h=>by cases h) (fun h=>by cases h) (W:=ZU ops.toList) (ds:=a.defers) (fr₀:=fr) ops.toList 0 [] fr a w.heap (fun kR H'=>Q .normal kR a.defers H') (by simp) (fun _ h=>h) ha rfl (ky.refl _ _) h
     rw[<- List.range_eq_range',lG]at vo
     exact Eg hB.1 hB.2 vo fun a' w' hk mL=>out a' w' hk mL
   · split at h
     · rename_i hB
       simp only[jd]at hB
       have vo:=YQ (P:=P) (qf:=qf) (dr:=true) (q:=true) (fz:=true) (all:=ops) (fun h=>by cases h) (fun _=>rfl) (W:=ZU ops.toList) (ds:=a.defers) (fr₀:=fr) ops.toList 0 [] fr a w.heap (fun kR H'=>Q .normal kR a.defers H') (by simp) (fun _ h=>h) ha rfl (ky.refl _ _) h
       rw[<- List.range_eq_range',lG]at vo
       exact Eg hB.1 hB.2 vo fun a' w' hk mL=>out a' w' hk mL
     · exact h.elim
theorem vK.mono{W W':List Nat}{nd nd':Bool}{Q Q':Exit->Ks}{fr:Fr}{a:Act}{w:World}(hW:∀ k∈W,k∈W')(hn:nd'=true->nd=true){e:Exit}{a':Act}{w':World}(hQ:∀ fr ds H,Q e fr ds H->Q' e fr ds H)(h:vK W nd Q fr a w e a' w'):vK W' nd' Q' fr a w e a' w':=by
 obtain⟨kR,h1,h2,h3,h4,h5⟩:=h;exact⟨kR,h1,fun h=>h2 (hn h),h3.mono hW,hQ _ _ _ h4,h5⟩
theorem vK.trans{W:List Nat}{nd:Bool}{Q:Exit->Ks}{fr fr₁:Fr}{a a₁:Act}{w w₁:World}(hd:nd=true->a₁.defers=a.defers)(hA:ky W fr fr₁)(hs:Sm w w₁){e:Exit}{a':Act}{w':World}(h:vK W nd Q fr₁ a₁ w₁ e a' w'):vK W nd Q fr a w e a' w':=by
 obtain⟨kR,h1,h2,h3,h4,h5⟩:=h;exact⟨kR,h1,fun h=>(h2 h).trans (hd h),hA.trans h3,h4,hs.trans h5⟩
end
theorem FP:∀ (l:List (Nat × Value)) (fr:Fr),l.foldl (fun(tmps:Array Value) (x:Nat × Value)=>tmps.setIfInBounds x.1 x.2) fr.toArray=(ny fr l).toArray
 | [],fr=>rfl
 | (t,v) :: l,fr=>by
  simp only[List.foldl_cons,ny];rw[<- FP l (fr.set t v)];simp
theorem BI:∀ (n:Nat) (s:Bw n),(DK n s).length=n
 | 0,_=>rfl
 | n+1,s=>by simp[DK,BI n s.2]
section
variable{P:Program}{qf:FuncId->Bool}
theorem vv{rec:Loop}{l:Nat}{st:LoopState}{j:PC}{w:World}(h:xc rec l st j w.heap):(Instr.getLoop l).run P w=.ok { rec with state:=st,pending:=Y2 j } w:=by
 have h':w.heap[l]?=some (.loop { rec with state:=st,pending:=Y2 j }):=h;simp[Instr.getLoop,getObj,Sem.run,h',bind,Sem.bind]
theorem uY{rec:Loop}{l:Nat}{st:LoopState}{j:PC}{w:World}(h:xc rec l st j w.heap)(o:Obj):(setObj l o).run P w=.ok () { w with heap:=w.heap.setIfInBounds l o }:=by
 have h':w.heap[l]?=some (.loop { rec with state:=st,pending:=Y2 j }):=h;simp[setObj,Sem.run,h']
theorem Jv{rec:Loop}{l:Nat}{w:World}(h:xc rec l .ready none w.heap):(Instr.beginRound l).run P w=.ok () { w with heap:=rZ rec l .busy none w.heap }:=by
 unfold Instr.beginRound;simp only[Sem.run_bind,vv h,Result.andThen_ok,uY h,Sem.run_pure];rfl
theorem SX{rec:Loop}{l:Nat}{j:PC}{w:World}(h:xc rec l .busy none w.heap):(Instr.endRound l (Y2 j)).run P w=.ok (.bool j.isNone) { w with heap:=rZ rec l (if j.isNone then .ready else .done) j w.heap }:=by
 have e:(Y2 j).isNone=j.isNone:=by
  match j with
  | none=>rfl
  | some none=>rfl
  | some (some id)=>rfl
 unfold Instr.endRound;simp only[Sem.run_bind,vv h,Result.andThen_ok,uY h,Sem.run_pure,e];rfl
theorem C1{rec:Loop}{l:Nat}{st:LoopState}{j:PC}{w:World}(kH:st≠.busy)(h:xc rec l st j w.heap):(Instr.endLoop l).run P w=.ok (Y2 j) { w with heap:=rZ rec l .exhausted j w.heap }:=by
 unfold Instr.endLoop;have hb:(st == LoopState.busy)=false:=by cases st<;>first | rfl | exact absurd rfl kH
 simp only[Sem.run_bind,vv h,Result.andThen_ok,hb,jl,jD,uY h,Sem.run_pure];rfl
theorem Ha:∀ (c:Code) (top:Bool) (r:Option Nat) (lW:BC) (Q:Exit->Ks) (fr:Fr) (a:Act) (w:World),(top=true->r=none)->At a fr->vc P qf top c lW Q fr a.defers w.heap ->
   c.wpIn (Z5 r) 0 P (vK (Z7 c) (ZP c) Q fr a w) a w:=by
 intro c
 induction c with
 | skip=>intro top r lW Q fr a w ht ha h;cases top<;>exact wpIn_skip ⟨fr,ha,fun _=>rfl,ky.refl _ _,h,Sm.refl w⟩
 | label l=>intro top r lW Q fr a w ht ha h;cases top<;>exact wpIn_label ⟨fr,ha,fun _=>rfl,ky.refl _ _,h,Sm.refl w⟩
 | ret=>intro top r lW Q fr a w ht ha h;cases top<;>exact wpIn_ret ⟨fr,ha,fun _=>rfl,ky.refl _ _,h,Sm.refl w⟩
 | exit id=>intro top r lW Q fr a w ht ha h;cases top<;>exact wpIn_exit ⟨fr,ha,fun _=>rfl,ky.refl _ _,h,Sm.refl w⟩
 | region id ops dr=>intro top r lW Q fr a w ht ha h;cases top<;>exact ry ha h
 | block id c ih=>
   intro top r lW Q fr a w ht ha h
   have h':vc P qf top c lW (kC id Q) fr a.defers w.heap:=by cases top<;>exact h
   refine wpIn_block (wpIn_mono (ih top r lW (kC id Q) fr a w ht ha h') fun e a' w' hp=>?_)
   cases e<;>try exact hp
   rename_i k
   simp only[Exit.inBlock]
   split
   · rename_i hk
     obtain⟨kR,h1,h2,h3,h4,h5⟩:=hp
     simp only[kC,isX,hk,jO]at h4
     exact⟨kR,h1,h2,h3,h4,h5⟩
   · rename_i hk
     obtain⟨kR,h1,h2,h3,h4,h5⟩:=hp
     simp only[kC,isX,hk,jD]at h4
     exact⟨kR,h1,h2,h3,h4,h5⟩
 | cond c x y RX RW=>
   intro top r lW Q fr a w ht ha h
   have key:∃ l r',hU (ev fr c) (vc P qf top x l Q fr a.defers w.heap) (vc P qf top y r' Q fr a.defers w.heap):=by
     cases top<;>(unfold vc at h;split at h)<;>exact⟨_,_,h⟩
   obtain⟨l,r',h⟩:=key
   unfold hU at h
   have n1:ZP (.cond c x y)=true->ZP x=true:=fun h=>by simp only[ZP,jd]at h;exact h.1
   have n2:ZP (.cond c x y)=true->ZP y=true:=fun h=>by simp only[ZP,jd]at h;exact h.2
   split at h
   · rename_i hc
     refine wpIn_cond_true (by rw[ha.ev];exact hc) (wpIn_mono (RX top r l Q fr a w ht ha h) fun e a' w' hp=>hp.mono (fun k hk=>jI _ hk) n1 fun _ _ _ h=>h)
   · rename_i hc
     refine wpIn_cond_false (by rw[ha.ev];exact hc) (wpIn_mono (RW top r r' Q fr a w ht ha h) fun e a' w' hp=>hp.mono (fun k hk=>km _ hk) n2 fun _ _ _ h=>h)
   · exact h.elim
 | seq x y RX RW=>
   intro top r lW Q fr a w ht ha h
   have n1:ZP (.seq x y)=true->ZP x=true:=fun h=>by simp only[ZP,jd]at h;exact h.1
   have n2:ZP (.seq x y)=true->ZP y=true:=fun h=>by simp only[ZP,jd]at h;exact h.2
   have fin:∀ (l:BC) (K:Ks),vc P qf top x l (FH K Q) fr a.defers w.heap->(∀ kR a' w',At a' kR->(ZP x=true->a'.defers=a.defers)->ky (Z7 x) fr kR->K kR a'.defers w'.heap->Sm w w'->∃ r',vc P qf top y r' Q kR a'.defers w'.heap) ->
       (Code.seq x y).wpIn (Z5 r) 0 P (vK (Z7 (.seq x y)) (ZP (.seq x y)) Q fr a w) a w:=by
     intro l K hx hk
     refine wpIn_seq (wpIn_mono (RX top r l (FH K Q) fr a w ht ha hx) fun e a' w' hp=>?_)
     cases e<;>try exact hp.mono (fun k hk=>jI _ hk) n1 fun _ _ _ h=>h
     obtain⟨kR,h1,h2,h3,h4,h5⟩:=hp
     obtain⟨r',h6⟩:=hk kR a' w' h1 h2 h3 h4 h5
     exact wpIn_mono (RW top r r' Q kR a' w' ht h1 h6) fun e a'' w'' hp=>(hp.mono (fun k hk=>km _ hk) n2 fun _ _ _ h=>h).trans (fun h=>h2 (n1 h)) (h3.mono fun k hk=>jI _ hk) h5
   have key:(∃ L J l r',lW=.join L J l r'/\(DM (Z7 x) (L++J) && ZP x)=true/\Zg (fun s H=>Any fun j=>vc P qf top y r' Q (lay L s (oU J j fr)) a.defers H) fun K=>vc P qf top x l (FH (fun kR _ H'=>K (qP kR L) H') Q) fr a.defers w.heap) \/
       ∃ l r',vc P qf top x l (FH (vc P qf top y r' Q) Q) fr a.defers w.heap:=by
     cases top<;>(unfold vc at h;split at h)
     · rename_i L J l r'
       split at h
       · rename_i hs;exact .inl ⟨L,J,l,r',rfl,hs,h⟩
       · exact h.elim
     · exact .inr ⟨_,_,h⟩
     · exact .inr ⟨_,_,h⟩
     · rename_i L J l r'
       split at h
       · rename_i hs;exact .inl ⟨L,J,l,r',rfl,hs,h⟩
       · exact h.elim
     · exact .inr ⟨_,_,h⟩
     · exact .inr ⟨_,_,h⟩
   rcases key with ⟨L,J,l,r',_,hs,K,hr,hf⟩ | ⟨l,r',h⟩
   · simp only[jd]at hs
     refine fin l _ hf fun kR a' w' h1 h2 h3 h4 h5=>⟨r',?_⟩
     have:=hr _ _ h4 (slot kR)
     simp only[wy h3 hs.1]at this
     rw[h2 hs.2]
     exact this
   · exact fin _ _ h fun kR a' w' h1 h2 h3 h4 h5=>⟨_,h4⟩
 | loop c ih=>
   intro top r lW Q fr a w ht ha h
   have key:∃ L J b,(DM (Z7 c) (L++J) && ZP c)=true/\zF (qP fr L) w.heap fun K s H=>Any fun j=>vc P qf top c b (FH (fun kR _ H'=>K (qP kR L) H') Q) (lay L s (oU J j fr)) a.defers H:=by
     cases top<;>(unfold vc at h;split at h)
     · split at h
       · rename_i hs;exact⟨_,_,_,hs,h⟩
       · exact h.elim
     · exact h.elim
     · split at h
       · rename_i hs;exact⟨_,_,_,hs,h⟩
       · exact h.elim
     · exact h.elim
   obtain⟨L,J,b,hs,I,μ,h0,vp⟩:=key
   simp only[jd]at hs
   refine wpIn_loop (fun a' w'=>∃ kR,At a' kR/\a'.defers=a.defers/\ky (Z7 c) fr kR/\I (qP kR L) w'.heap/\Sm w w') (fun a' w'=>μ (qP a'.tmps.toList L) w'.heap) ⟨fr,ha,rfl,ky.refl _ _,h0,Sm.refl w⟩ ?_
   rintro a' w' ⟨kR,h1,h2,h3,h4,h5⟩
   have hr:=vp _ _ h4 (slot kR)
   simp only[wy h3 hs.1]at hr
   rw[<- h2]at hr
   refine wpIn_mono (ih top r b _ kR a' w' ht h1 hr) fun e a'' w'' hp=>?_
   have T7:=hp.trans (fun _=>h2) h3 h5
   cases e<;>try exact T7
   obtain⟨KU,k1,k2,k3,k4,k5⟩:=T7
   have e1:a'.tmps.toList=kR:=by rw[show a'.tmps=kR.toArray from h1]
   have e2:a''.tmps.toList=KU:=by rw[show a''.tmps=KU.toArray from k1]
   refine⟨⟨KU,k1,k2 hs.2,k3,k4.1,k5⟩,?_⟩
   rw[e1,e2]
   exact k4.2
 | scope c ih=>
   intro top r lW Q fr a w ht ha h
   have h':vc P qf top c lW (scp Q) fr a.defers w.heap:=by cases top<;>exact h
   refine BE (wpIn_mono (ih top r lW (scp Q) fr a w ht ha h') fun e a' w' hp=>?_)
   cases e<;>try exact hp
   obtain⟨kR,h1,h2,h3,h4,h5⟩:=hp
   exact h4.elim
 | goto l=>intro top r lW Q fr a w ht ha h;cases top<;>exact h.elim
 | refuse why=>intro top r lW Q fr a w ht ha h;cases top<;>exact h.elim
 | rangeFunc g ps x y RX RW=>
   intro top r lW Q fr a w ht ha h
   cases top with
   | false=>exact h.elim
   | true=>
     have hr:=ht rfl
     subst hr
     unfold vc at h
     split at h
     · rename_i l r'
       obtain⟨⟨f,first,cap,hg⟩,h⟩:=h
       have hga:a.eval g=.func (.func f) first cap:=by rw[ha.ev];exact hg
       refine wpIn_rangeFunc fun fn _=>?_
       let rz:Loop:={ state:=.ready,pending:=none,fn:=fn,tmps:=a.tmps,params:=ps,assign:=x,body:=y,defers:=w.heap.size }
       let H1:Hp:=(w.heap.push (.deferred (some []))).push (.loop rz)
       let w1:World:={ w with heap:=H1 }
       have X1:H1.size=w.heap.size+2:=by simp[H1]
       have hlp:xc rz (w.heap.size+1) .ready none H1:=by
         show H1[w.heap.size+1]?=_
         simp only[H1]
         rw[ou,aU (by simp)];rfl
       have hdf:H1[w.heap.size]?=some (.deferred (some [])):=by
         simp only[H1]
         rw[ou,aH (by simp),ou,aU rfl]
       have IH:=h rz (w.heap.size+1) w.heap.size (.func (.yield (w.heap.size+1)) #[] #[]) H1 ((Ext.push _ _).trans (Ext.push _ _)) (iU _) (by omega) (by omega) hdf hlp (by
         intro s H2 K hl2 vp
         unfold om
         simp only
         unfold Yld
         rw[show H2[w.heap.size+1]?=_ from hl2]
         simp only
         refine⟨by simp[rz,BI],?_⟩
         intro w2 T6
         subst T6
         refine roundIn_of_wpIn (F:=Z5 none) (n:=0) trivial ?_
         have WG:At { tmps:=((ps.zip (DK ps.size s).toArray).foldl (fun tmps (x:Nat × Value)=>tmps.setIfInBounds x.1 x.2) a.tmps),defers:=[] } (ny fr (ps.toList.zip (DK ps.size s))):=by
           have vM:a.tmps=fr.toArray:=ha
           show _=_
           simp only
           rw[<- FP,vM,<- Array.foldl_toList]
           simp
         have hA:=RX false (some (w.heap.size+1)) l _ _ _ w2 (fun e=>by cases e) WG vp
         refine wpIn_mono hA fun e a1 w3 hp=>?_
         obtain⟨uN,k1,k2,_,k4,k5⟩:=hp
         cases e<;>simp only[Xw]at k4<;>try exact k4.elim
         obtain⟨hl3,Sz⟩:=k4
         refine⟨_,Jv hl3,?_⟩
         have hB:=RW false (some (w.heap.size+1)) r' _ uN a1 { w3 with heap:=rZ rz (w.heap.size+1) .busy none w3.heap } (fun e=>by cases e) k1 Sz
         refine wpIn_mono hB fun e a2 w4 hp=>?_
         obtain⟨fr2,j1,j2,_,j4,j5⟩:=hp
         have mL:Sm w2 w4:=k5.trans ⟨j5.os,j5.out,j5.tape⟩
         have fin:∀ j:PC,(xc rz (w.heap.size+1) .busy none w4.heap/\K (.bool j.isNone) (rZ rz (w.heap.size+1) (if j.isNone then .ready else .done) j w4.heap)) ->
             ∃ v w',(Instr.endRound (w.heap.size+1) (Y2 j)).run P w4=.ok v w'/\∃ v',Ending.returned v=.returned v'/\K v' w'.heap/\Sm w2 w':=fun j hj=>
           ⟨_,_,SX hj.1,_,rfl,hj.2,mL.trans ⟨rfl,rfl,rfl⟩⟩
         cases e<;>simp only[Vu]at j4<;>try exact j4.elim
         · exact fin none j4
         · exact fin (some (some _)) j4
         · exact fin (some none) j4)
       rw[hg]at IH
       obtain⟨xM,Wy⟩:=IH
       refine⟨w.heap.size+1,[uI w.heap.size],w1,{ target:=.fn (.func f) cap,args:=first++#[.func (.yield (w.heap.size+1)) #[] #[]] },w1,f,(first++#[.func (.yield (w.heap.size+1)) #[] #[]])++cap,w1,?_,?_,fun _ _=>trivial,?_,fun h=>by simp[Z5,Fence.wide]at h,?_⟩
       · simp[Instr.enterLoop,newObj,Z5,Sem.run,uI,w1,H1,rz]
         rfl
       · unfold resolve
         simp only[rangeCall,hga]
         simp[Deferred.ofValue,Act.eval]
       · have:=tg xM ((first++#[.func (.yield (w.heap.size+1)) #[] #[]])++cap) w1
         simpa[invoke]using this
       · have e1:((first.toList++#[Value.func (.yield (w.heap.size+1)) #[] #[]].toList)++cap.toList).toArray=(first++#[.func (.yield (w.heap.size+1)) #[] #[]])++cap:=by simp
         rw[e1]at Wy
         refine CallsIn.mono (Wy w1 rfl) fun e w5 ⟨v,he,R4,mL⟩=>?_
         subst he
         obtain⟨st,j,kH,acQ,vu⟩:=R4
         refine⟨_,_,C1 kH acQ,?_⟩
         have vn:Sm w { w5 with heap:=rZ rz (w.heap.size+1) .exhausted j w5.heap }:=⟨mL.os,mL.out,mL.tape⟩
         match j,vu with
         | none,vu=>exact⟨fr,ha,fun h=>(by cases h),ky.refl _ _,vu,vn⟩
         | some none,vu=>exact wpIn_ret ⟨fr,ha,fun h=>(by cases h),ky.refl _ _,vu,vn⟩
         | some (some id),vu=>exact wpIn_exit ⟨fr,ha,fun h=>(by cases h),ky.refl _ _,vu,vn⟩
     · exact h.elim
end
section
variable{P:Program}{qf:FuncId->Bool}
def Kb(P:Program)(rv:ResultVar)(fr:Fr)(H:Hp):Option Value:=
 match rv with
 | .tmp t=>some (slot fr t)
 | .cell t T=>zX (r5 P T) (slot fr t) H
def sV(P:Program)(fr:Fr)(H:Hp):List ResultVar->Option (List Value)
 | []=>some []
 | r :: rs=>match Kb P r fr H with
  | some v=>match sV P fr H rs with
   | some vs=>some (v :: vs)
   | none=>none
  | none=>none
def ME(vs:List Value):Value:=
 match vs with
 | [v]=>v
 | vs=>.tuple vs.toArray
def QW(P:Program)(fr:Fr)(H:Hp)(R:Value->Hp->Prop):List ResultVar->List Value->Prop
 | [],acc=>R (ME acc.reverse) H
 | .tmp t :: rs,acc=>QW P fr H R rs (slot fr t :: acc)
 | .cell t T :: rs,acc=>Pu (zX (r5 P T) (slot fr t) H) fun v=>QW P fr H R rs (v :: acc)
def PR(P:Program)(rs:List ResultVar)(fr:Fr)(H:Hp)(R:Value->Hp->Prop):Prop:=QW P fr H R rs []
theorem BW{P:Program}{fr:Fr}{H:Hp}{R:Value->Hp->Prop}:∀ (rs:List ResultVar) (acc:List Value),QW P fr H R rs acc->∃ vs,sV P fr H rs=some vs/\R (ME (acc.reverse++vs)) H
 | [],acc,h=>⟨[],rfl,by simpa[QW]using h⟩
 | .tmp t :: rs,acc,h=>by
  obtain⟨vs,h1,h2⟩:=BW rs _ h;exact⟨slot fr t :: vs,by simp[sV,Kb,h1],by simpa using h2⟩
 | .cell t T :: rs,acc,h=>by
  obtain⟨v,hv,h⟩:=h;obtain⟨vs,h1,h2⟩:=BW rs _ h;exact⟨v :: vs,by simp[sV,Kb,hv,h1],by simpa using h2⟩
def B6(args:List Value)(n:Nat):Fr:=args++List.replicate (n - args.length) undef
def aaL(r:Nat)(H:Hp)(K:Hp->Prop):Prop:=H[r]?=some (.deferred (some []))/\K (H.setIfInBounds r (.deferred none))
def Fs:List Deferred->Hp->(Hp->Prop)->Prop
 | [],H,K=>K H
 | ⟨.collected r,_⟩ :: ds,H,K=>aaL r H fun H'=>Fs ds H' K
 | _ :: _,_,_=>False
def QU(P:Program)(fn:Func)(R:Value->Hp->Prop):Exit->Ks
 | .normal,fr,ds,H=>Fs ds H fun H'=>PR P fn.results.toList fr H' R
 | .ret,fr,ds,H=>Fs ds H fun H'=>PR P fn.results.toList fr H' R
 | _,_,_,_=>False
def Dv(P:Program)(qf:FuncId->Bool)(fn:Func)(lW:BC)(args:List Value)(H:Hp)(R:Value->Hp->Prop):Prop:=
 match fn.body with
 | none=>False
 | some c=>vc P qf true c lW (QU P fn R) (B6 args fn.ntmps) [] H
def xq(tmps:Array Value):ResultVar->Sem Value
 | .tmp t=>pure (tmps.getD t undef)
 | .cell x t=>do loadVar t (<- asAddr (tmps.getD x undef))
theorem Ka(fn:Func)(tmps:Array Value):results fn tmps=(do
   let vs <- fn.results.toList.mapM (xq tmps)
   pure (if h:vs.toArray.size=1 then vs.toArray[0] else .tuple vs.toArray)):=by
 have e:results fn tmps=(do
     let vs <- fn.results.mapM (xq tmps)
     pure (if h:vs.size=1 then vs[0] else .tuple vs)):=by
   unfold results
   congr 2
 rw[e,<- nO (xs:=fn.results),List.mapM_toArray]
 simp only[bind_map_left]
theorem Vv{rv:ResultVar}{fr:Fr}{a:Act}(ha:At a fr){w:World}{v:Value}(h:Kb P rv fr w.heap=some v):(xq a.tmps rv).run P w=.ok v w:=by
 cases rv with
 | tmp t=>simp only[Kb,iH]at h;subst h;unfold xq;simp only[ha.slot];rfl
 | cell x T=>
  simp only[Kb]at h;have hp:∃ b,slot fr x=.pointer (some b):=by
   unfold zX at h;split at h
   ·rename_i b _ hb;exact⟨b,hb⟩
   ·rename_i b _ hb;exact⟨b,hb⟩
   ·cases h
  obtain⟨b,hb⟩:=hp;rw[hb]at h;simp only[xq,ha.slot,hb,asAddr,Sem.run_bind,Sem.run_pure,Result.andThen_ok];exact Cq h
theorem Eu{fr:Fr}{a:Act}(ha:At a fr){w:World}:∀ (rs:List ResultVar) (vs:List Value),sV P fr w.heap rs=some vs ->
   (rs.mapM (xq a.tmps)).run P w=.ok vs w/\vs.length=rs.length
 | [],vs,h=>by simp only[sV,iH]at h;subst h;exact⟨rfl,rfl⟩
 | r :: rs,vs,h=>by
   simp only[sV]at h
   cases h1:Kb P r fr w.heap with
   | none=>simp[h1]at h
   | some v=>
     simp only[h1]at h
     cases h2:sV P fr w.heap rs with
     | none=>simp[h2]at h
     | some vs'=>
       simp only[h2,iH]at h
       subst h
       obtain⟨k1,k2⟩:=Eu ha rs vs' h2
       rw[List.mapM_cons]
       exact⟨by simp only[Sem.run_bind,Vv ha h1,Result.andThen_ok,k1,Sem.run_pure],by simp[k2]⟩
theorem ru{fn:Func}{fr:Fr}{a:Act}(ha:At a fr){w:World}{R:Value->Hp->Prop}(h:PR P fn.results.toList fr w.heap R):∃ v,(results fn a.tmps).run P w=.ok v w/\R v w.heap:=by
 rw[Ka];obtain⟨vs,hv,hR⟩:=BW _ _ h;refine⟨_,?_,hR⟩;simp only[Sem.run_bind,(Eu ha _ _ hv).1,Result.andThen_ok,Sem.run_pure];have e:(if h:vs.toArray.size=1 then vs.toArray[0] else Value.tuple vs.toArray)=ME ([].reverse++vs):=by
  match vs with
  | []=>rfl
  | [v]=>rfl
  | v :: u :: vs=>simp[ME]
 rw[e]
theorem Gv{fn:Func}{tmps:Array Value}{R:Value->Hp->Prop}{w0:World}:∀ (ds:List Deferred) (w:World),Sm w0 w->(∀ w',Sm w0 w'->PR P fn.results.toList tmps.toList w'.heap R->LeavesInM (Z5 none) 0 P fn tmps (fun e w'=>∃ v,e=.returned v/\R v w'.heap/\Sm w0 w') [] .returning w') ->
   Fs ds w.heap (fun H'=>PR P fn.results.toList tmps.toList H' R)->LeavesInM (Z5 none) 0 P fn tmps (fun e w'=>∃ v,e=.returned v/\R v w'.heap/\Sm w0 w') ds .returning w
 | [],w,hs,hb,h=>hb w hs h
 | ⟨t,aq⟩ :: ds,w,hs,hb,h=>by
   cases t<;>try exact h.elim
   rename_i r
   obtain⟨h1,h2⟩:=h
   refine⟨by simp,.inl ⟨r,{ w with heap:=w.heap.setIfInBounds r (.deferred none) },rfl,?_,Gv ds _ (hs.trans ⟨rfl,rfl,rfl⟩) hb h2⟩⟩
   simp[Instr.takeDeferred,getObj,setObj,Sem.run,h1,bind,Sem.bind]
theorem qG{f:FuncId}{fn:Func}(qf:FuncId->Bool)(lW:BC)(hf:P.funcs[f]?=some fn){args:List Value}{H:Hp}{R:Value->Hp->Prop}(h:Dv P qf fn lW args H R):Fc P f args.toArray H R:=by
 intro w hw;subst hw;unfold Dv at h;cases hb:fn.body with
 | none=>simp only[hb]at h
 | some c=>
  simp only[hb]at h;refine callsIn_of_wp_marks hf hb trivial ?_ rfl;have ha:At { tmps:=args.toArray++Array.replicate (fn.ntmps - args.toArray.size) undef,defers:=[] } (B6 args fn.ntmps):=by
   simp[At,B6]
  refine wpIn_mono (Ha c true none lW _ _ _ w (fun _=>rfl) ha h) fun e a' w' hp=>?_;obtain⟨kR,h1,h2,_,h4,h5⟩:=hp;have ht:a'.tmps.toList=kR:=by rw[show a'.tmps=kR.toArray from h1]
  have fin:Fs a'.defers w'.heap (fun H'=>PR P fn.results.toList kR H' R)->LeavesInM (Z5 none) 0 P fn a'.tmps (fun e w'=>∃ v,e=.returned v/\R v w'.heap/\Sm w w') a'.defers .returning w':=fun h=>by
   refine Gv a'.defers w' h5 (fun w2 hs hr=>?_) (by rw[ht];exact h);rw[ht]at hr;obtain⟨v,hv,hR⟩:=ru h1 hr;exact⟨v,hv,v,rfl,hR,hs⟩
  cases e<;>simp only[QU]at h4<;>try exact h4.elim
  ·exact fin h4
  ·exact fin h4
end
def kT(T:TypeId)(v:Value)(H:Hp)(K:Value->Hp->Prop):Prop:=K (.pointer (some ⟨H.size,0,none⟩)) (H.push (.cells v.cells T))
def nK(T:TypeId)(n:Nat)(cs:Array Value)(H:Hp)(K:Value->Hp->Prop):Prop:=K (.slice (some ⟨H.size,0,none⟩) n n) (H.push (.cells cs T))
def oY(H:Hp)(K:Value->Hp->Prop):Prop:=K (.map (some H.size)) (H.push (.map #[] 0))
def w64(x:Int):Int:=IntKind.i64.wrap x
theorem aa0{x:Int}(h0 : -9223372036854775808<=x)(h1:x<=9223372036854775807):w64 x=x:=by
 unfold w64 IntKind.wrap;simp[IntKind.bits,IntKind.signed];omega
theorem zd{x:Int}(h0 : -9223372036854775808<=x)(h1:x<=9223372036854775807):IntKind.i64.wrap x=x:=aa0 h0 h1
theorem xf{x:Int}(h0:0<=x)(h1:x<=255):IntKind.u8.wrap x=x:=by
 unfold IntKind.wrap;simp[IntKind.bits,IntKind.signed];omega
theorem ZR{x:Int}(h0:0<=x)(h1:x<=65535):IntKind.u16.wrap x=x:=by
 unfold IntKind.wrap;simp[IntKind.bits,IntKind.signed];omega
theorem ZB{x:Int}(h0:0<=x)(h1:x<=4294967295):IntKind.u32.wrap x=x:=by
 unfold IntKind.wrap;simp[IntKind.bits,IntKind.signed];omega
theorem Zx{a b:Int}(h0:0<=a):a.tdiv b=a / b:=Int.tdiv_eq_ediv_of_nonneg h0
theorem Zb{a b:Int}(h0:0<=a):a.tmod b=a % b:=Int.tmod_eq_emod_of_nonneg h0
section
variable{td:Option TypeDesc}{k:IntKind}{a b:Int}
theorem TK(k:IntKind):(k == k)=true:=by cases k<;>rfl
theorem yA(op:BinOp):z8 td op (.int k a) (.int k b)=Ec op k a b:=by
 simp[z8,TK]
theorem ze:z8 td .add (.int k a) (.int k b)=some (.int k (k.wrap (a+b))):=by rw[yA];rfl
theorem zP:z8 td .sub (.int k a) (.int k b)=some (.int k (k.wrap (a - b))):=by rw[yA];rfl
theorem zW:z8 td .mul (.int k a) (.int k b)=some (.int k (k.wrap (a*b))):=by rw[yA];rfl
theorem Zp(h:b≠0):z8 td .quo (.int k a) (.int k b)=some (.int k (k.wrap (a.tdiv b))):=by rw[yA];simp[Ec,h]
theorem z7(h:b≠0):z8 td .rem (.int k a) (.int k b)=some (.int k (a.tmod b)):=by rw[yA];simp[Ec,h]
theorem GJ:z8 td .or (.int k a) (.int k b)=some (.int k (tD .or k a b)):=by rw[yA];rfl
theorem zk:z8 td .lss (.int k a) (.int k b)=some (.bool (decide (a<b))):=by rw[yA];rfl
theorem yp:z8 td .leq (.int k a) (.int k b)=some (.bool (decide (a<=b))):=by rw[yA];rfl
theorem zJ:z8 td .gtr (.int k a) (.int k b)=some (.bool (decide (b<a))):=by rw[yA];rfl
theorem zN:z8 td .geq (.int k a) (.int k b)=some (.bool (decide (b<=a))):=by rw[yA];rfl
theorem zp:z8 td .eql (.int k a) (.int k b)=some (.bool (decide (a=b))):=by
 rw[yA];simp only[Ec,iH,Value.bool.injEq];exact(by rw[jL];simp)
theorem zn:z8 td .neq (.int k a) (.int k b)=some (.bool (decide (a≠b))):=by
 rw[yA];simp only[Ec,iH,Value.bool.injEq];exact(by rw[jL];simp)
theorem Dq{k':IntKind}(h:0<=b):z8 td .shl (.int k a) (.int k' b)=some (.int k (k.wrap (a*2 ^ (min b.toNat k.bits)))):=by
 have:¬ b<0:=by omega
 simp[z8,wA,Ec,this]
theorem Ju{k':IntKind}(h:0<=b):z8 td .shr (.int k a) (.int k' b)=some (.int k (a.fdiv (2 ^ (min b.toNat k.bits)))):=by
 have:¬ b<0:=by omega
 simp[z8,wA,Ec,this]
theorem TJ(x y:Bool):z8 (some .bool) .eql (.bool x) (.bool y)=some (.bool (x == y)):=rfl
theorem TI(x y:Bool):z8 (some .bool) .neq (.bool x) (.bool y)=some (.bool (!(x == y))):=rfl
theorem zx(x:Bool):unE .not (.bool x)=some (.bool !x):=rfl
theorem zz(s:IntKind)(d:IntKind):Ze (some (.int s)) (some (.int d)) (.int k a)=some (.int d (d.wrap a)):=rfl
theorem MF{k':IntKind}:xB (.int k a) (.int k' b)=some (.int k (max a b)):=by
 simp only[xB,iH,Value.int.injEq,true_and];split<;>omega
end
theorem Zj{x:Bool}{A B:Prop}:hU (.bool x) A B=((x=true->A)/\(x=false->B)):=by
 cases x<;>simp[hU]
theorem zb{p:Prop}[Decidable p]{A B:Prop}:hU (.bool (decide p)) A B=((p->A)/\(¬ p->B)):=by
 by_cases h:p<;>simp[hU,h]
theorem Zm{x:Bool}{A B:Prop}:hU (.bool (!x)) A B=((x=false->A)/\(x=true->B)):=by
 cases x<;>simp[hU]
theorem zA{A B:Prop}:hU (.bool true) A B=A:=rfl
theorem zh{A B:Prop}:hU (.bool false) A B=B:=rfl
theorem zm{X:Prop}:(Any fun _=>X)=X:=by
 apply propext;exact⟨fun h=>h fun _=>undef,fun h _=>h⟩
theorem zj{H:Hp}{K:Hp->Prop}:lC true H K=∀ H',Ext H H'->K H':=rfl
theorem zc{o b i:Nat}:Fo (some o) (.pointer (some ⟨b,i,none⟩))=some (.pointer (some ⟨b,i+o,none⟩)):=by
 simp[Fo,Addr.oE]
theorem wE{n s b i:Nat}{k:IntKind}{j:Int}(h0:0<=j)(h1:j<n):zG (some (some n,s)) (.pointer (some ⟨b,i,none⟩)) (.int k j)=some (.pointer (some ⟨b,i+j.toNat*s,none⟩)):=by
 simp[zG,h0,h1,Addr.oE]
theorem Bk{n c s b i:Nat}{k:IntKind}{j:Int}(h0:0<=j)(h1:j<n):zG (some (none,s)) (.slice (some ⟨b,i,none⟩) n c) (.int k j)=some (.pointer (some ⟨b,i+j.toNat*s,none⟩)):=by
 simp[zG,h0,h1,Addr.oE]
theorem zi{H:Hp}{b i:Nat}{c:Array Value}{T:TypeId}{fr:Nat × Nat}(hb:H[b]?=some (.cells c T fr)):zX (some none) (.pointer (some ⟨b,i,none⟩)) H=c[i]?:=by
 simp[zX,qK,hb]
theorem Za{H:Hp}{b i n:Nat}{c:Array Value}{T:TypeId}{fr:Nat × Nat}(hb:H[b]?=some (.cells c T fr))(h:i+n<=c.size):zX (some (some n)) (.pointer (some ⟨b,i,none⟩)) H=some (.agg (c.extract i (i+n))):=by
 simp[zX,np,hb,h]
theorem zV{H:Hp}{b n:Nat}{c:Array Value}{T:TypeId}{fr:Nat × Nat}(hb:H[b]?=some (.cells c T fr))(h:c.size=n):zX (some (some n)) (.pointer (some ⟨b,0,none⟩)) H=some (.agg c):=by
 subst h;rw[Za hb (by omega)];simp
theorem J2{c:Array Value}{i:Nat}{v:Value}(h:i<c.size):zL c i #[v]=c.setIfInBounds i v:=by
 apply jm;intro j;rw[zH (by simp;omega),iY];by_cases h1:j<i
 ·have:¬ i=j:=by omega
  simp[h1,this]
 ·by_cases h2:i=j
  ·subst h2;simp[h]
  ·have h3:¬ j<i+1:=by omega
   simp[h1,h2,h3]
theorem BP{c vs:Array Value}(h:c.size=vs.size):zL c 0 vs=vs:=by
 apply jm;intro j;rw[zH (by omega)];by_cases h1:j<vs.size
 ·simp[h1]
 ·have h2:c.size<=j:=by omega
  simp[h1,h2]
theorem BK{H:Hp}{b i:Nat}{c:Array Value}{T:TypeId}{v:Value}(hb:H[b]?=some (.cells c T))(h:i<c.size)(hv:v.oneCell'=true)(hc:v.cells=#[v]) :
   zY (some 1) (.pointer (some ⟨b,i,none⟩)) v H=some (H.setIfInBounds b (.cells (c.setIfInBounds i v) T)):=by
 have h1:i+1<=c.size:=by omega
 simp[zY,AO,hb,hc,h1,hv,J2 h]
theorem NJ{H:Hp}{b n:Nat}{c vs:Array Value}{T:TypeId}(hb:H[b]?=some (.cells c T))(h:c.size=n)(h':vs.size=n)(hv:(vs.all fun v=>v.oneCell')=true) :
   zY (some n) (.pointer (some ⟨b,0,none⟩)) (.agg vs) H=some (H.setIfInBounds b (.cells vs T)):=by
 have h1:vs.size<=c.size:=by omega
 subst h'
 simp[zY,AO,hb,Value.cells,BP (show c.size=vs.size by omega),h1]
 simpa using hv
theorem ZV(k:IntKind)(a:Int):(Value.int k a).cells=#[.int k a]:=rfl
theorem zI(c:Array Value):(Value.agg c).cells=c:=rfl
theorem Yf(H:Hp)(o:Obj):(H.push o)[H.size]?=some o:=by simp
theorem ZT{H:Hp}{b:Nat}{o x:Obj}(h:H[b]?=some x):(H.setIfInBounds b o)[b]?=some o:=by
 have:=Zu h;simp[iY,this]
theorem D8{H:Hp}{b c:Nat}{o:Obj}(h:b≠c):(H.setIfInBounds b o)[c]?=H[c]?:=by
 simp[iY,h]
structure jR(c:Array Value):Prop where
 size:c.size=1024
 cell:∀ i,i<1024->∃ n:Nat,n<256/\c[i]?=some (.int .u8 n)
def kv(c:Array Value)(i:Nat):Nat:=match c[i]? with | some (.int _ n)=>n.toNat | _=>0
theorem jR.get{c:Array Value}(h:jR c){i:Nat}(hi:i<1024):c[i]?=some (.int .u8 (kv c i)):=by
 obtain⟨n,_,hn⟩:=h.cell i hi;simp[kv,hn]
theorem jR.lt{c:Array Value}(h:jR c)(i:Nat):kv c i<256:=by
 by_cases hi:i<1024
 ·obtain⟨n,h1,hn⟩:=h.cell i hi;simpa[kv,hn]using h1
 ·have:c[i]?=none:=iQ (by rw[h.size];omega);simp[kv,this]
theorem jR.set{c:Array Value}(h:jR c)(k:Nat){m:Nat}(hm:m<256):jR (c.setIfInBounds k (.int .u8 m)):=by
 refine⟨by simp[h.size],fun i hi=>?_⟩;rw[iY];by_cases hk:k=i
 ·subst hk;exact⟨m,hm,by simp[h.size,hi]⟩
 ·rw[aH hk];exact h.cell i hi
theorem oL{c:Array Value}(h:jR c){k:Nat}(hk:k<1024)(m i:Nat):kv (c.setIfInBounds k (.int .u8 m)) i=if k=i then m else kv c i:=by
 unfold kv;rw[iY];by_cases Sb:k=i
 ·subst Sb;simp[h.size,hk]
 ·simp[Sb]
theorem jR.ext{a b:Array Value}(ha:jR a)(hb:jR b)(h:∀ i,i<1024->kv a i=kv b i):a=b:=by
 apply jm;intro i;by_cases hi:i<1024
 ·rw[ha.get hi,hb.get hi,h i hi]
 ·rw[iQ (by rw[ha.size];omega),iQ (by rw[hb.size];omega)]
theorem RS:jR (Array.replicate 1024 (.int .u8 0)):=⟨by simp,fun i hi=>⟨0,by omega,by simp[kX,hi]⟩⟩
theorem jR.all{c:Array Value}(h:jR c):(c.all fun v=>v.oneCell')=true:=by
 rw[Array.all_eq_true];intro i hi;have h1:=h.get (i:=i) (by rw[<- h.size];exact hi);rw[ka hi]at h1;injection h1 with h1;rw[h1];rfl
theorem Aa{α:Type}{f:α->Option Bool}{g:α->Prop}[DecidablePred g]:∀ {l:List α},(∀ a∈l,f a=some (decide (g a)))->Y5 f l=some (decide (∀ a∈l,g a))
 | [],_=>by simp[Y5]
 | a :: l,h=>by
  unfold Y5;rw[h a eH];by_cases hg:g a
  ·simp only[hg,decide_true];rw[Aa (fun b hb=>h b (dH _ hb))];simp[hg]
  ·simp[hg]
structure pN(P:Program)(T:TypeId)(n:Nat)(k:IntKind):Prop where
 row:∃ e,P.underlying T=some (.array n e)/\P.underlying e=some (.int k)/\P.cellsOf e=1/\(P.info? e).isSome=true
 guard:P.eqGuardType P.depth T=false
open Classical in
theorem Nb{P:Program}{T:TypeId}{n:Nat}{k:IntKind}(hr:pN P T n k){a b:Array Value}(ha:∀ i,i<n->∃ x,a[i]?=some (.int k x))(hb:∀ i,i<n->∃ x,b[i]?=some (.int k x))(d:Nat) :
   DF P (d+2) T (.agg a) (.agg b)=some (decide (∀ i,i∈List.range n->a[i]?=b[i]?)):=by
 obtain⟨e,hu,he,hc,hi⟩:=hr.row
 have hl:r5 P e=some none:=by unfold r5;rw[he]
 unfold DF
 rw[hu]
 simp only
 cases akR:P.info? e with
 | none=>rw[akR]at hi;cases hi
 | some inf=>
   simp only[jG,hl,hc,iX,Yl]
   apply Aa
   intro i hi
   obtain⟨x,hx⟩:=ha i (ki.1 hi)
   obtain⟨y,hy⟩:=hb i (ki.1 hi)
   rw[hx,hy]
   simp only[jG]
   unfold DF
   rw[he]
   simp only[jO,iH,Value.int.injEq,true_and]
   rw[jL];simp
open Classical in
theorem Gu{P:Program}{T:TypeId}{n:Nat}{k:IntKind}(hr:pN P T n k){a b:Array Value}(hsa:a.size=n)(hsb:b.size=n)(ha:∀ i,i<n->∃ x,a[i]?=some (.int k x))(hb:∀ i,i<n->∃ x,b[i]?=some (.int k x)){lit:Bool}{H:Hp} :
   CZ P T lit (.agg a) (.agg b) H=some (decide (a=b)):=by
 have h:=Nb hr ha hb 9998
 obtain⟨e,hu,_⟩:=hr.row
 unfold CZ K0
 rw[hu]
 simp only[hr.guard,jl,jD]
 rw[h,iH,jL,decide_eq_true_iff,decide_eq_true_iff]
 constructor
 · intro h
   apply jm
   intro i
   by_cases hi:i<n
   · exact h i (ki.2 hi)
   · rw[iQ (by omega),iQ (by omega)]
 · rintro rfl _ _;rfl
open Classical in
theorem eqB{P:Program}{T:TypeId}(hr:pN P T 1024 .u8){a b:Array Value}(ha:jR a)(hb:jR b){lit:Bool}{H:Hp}:CZ P T lit (.agg a) (.agg b) H=some (decide (a=b)):=
 Gu hr ha.size hb.size (fun i hi=>⟨_,ha.get hi⟩) (fun i hi=>⟨_,hb.get hi⟩)
theorem I1{P:Program}{T:TypeId}(hr:pN P T 1024 .u8){a:Array Value}(ha:jR a){lit:Bool}{H:Hp}:CZ P T lit (.agg a) (.agg a) H=some true:=by
 rw[eqB hr ha ha];simp
theorem OH{P:Program}{T:TypeId}(hr:pN P T 1024 .u8){a b:Array Value}(ha:jR a)(hb:jR b)(jZ:a≠b){lit:Bool}{H:Hp}:CZ P T lit (.agg a) (.agg b) H=some false:=by
 rw[eqB hr ha hb];simp[jZ]
theorem YX{P:Program}{T:TypeId}{lit:Bool}{x y:Value}{H:Hp}:ya P T lit .eql x y H=(CZ P T lit x y H).map .bool:=rfl
theorem Yy{P:Program}{T:TypeId}{lit:Bool}{x y:Value}{H:Hp}:ya P T lit .neq x y H=(CZ P T lit x y H).map fun b=>.bool (!b):=rfl
def ZH:Value->Option Nat
 | .slice (some a) _ _=>some a.block
 | _=>none
theorem tU{P:Program}{T e:TypeId}{b:Option Addr}{n c:Nat}(hu:P.underlying T=some (.slice e)):j9 P T (.slice b n c)=some (.int .i64 n):=by
 unfold j9;rw[hu];rfl
structure Kp(S:Nat->Prop)(H H':Hp):Prop where
 le:H.size<=H'.size
 same:∀ b,b<H.size->¬ S b->H'[b]?=H[b]?
theorem Kp.refl(S:Nat->Prop)(H:Hp):Kp S H H:=⟨iU _,fun _ _ _=>rfl⟩
theorem Ext.kp{H H':Hp}(h:Ext H H')(S:Nat->Prop):Kp S H H':=⟨h.le,fun b hb _=>h.same b hb⟩
theorem Kp.mono{S S':Nat->Prop}{H H':Hp}(h:Kp S H H')(hs:∀ b,b<H.size->S b->S' b):Kp S' H H':=⟨h.le,fun b hb hn=>h.same b hb fun hS=>hn (hs b hb hS)⟩
theorem Kp.trans{S:Nat->Prop}{a b c:Hp}(h:Kp S a b)(h':Kp S b c):Kp S a c:=⟨kg h.le h'.le,fun k hk hn=>(h'.same k (jj hk h.le) hn).trans (h.same k hk hn)⟩
theorem Kp.ext{S:Nat->Prop}{H H':Hp}(h:Kp S H H')(hs:∀ b,b<H.size->¬ S b):Ext H H':=⟨h.le,fun b hb=>h.same b hb (hs b hb)⟩
theorem Kp.at{S:Nat->Prop}{H H':Hp}(h:Kp S H H'){b:Nat}{o:Obj}(hb:H[b]?=some o)(hn:¬ S b):H'[b]?=some o:=by
 rw[h.same b (Zu hb) hn];exact hb
theorem Kp.set(H:Hp)(b:Nat)(o:Obj):Kp (·=b) H (H.setIfInBounds b o):=⟨by simp,fun k hk hn=>D8 (fun e=>hn e.symm)⟩
theorem Kp.tr{S T U:Nat->Prop}{a b c:Hp}(h:Kp S a b)(h':Kp T b c)(hs:∀ k,k<a.size->S k->U k)(ht:∀ k,k<a.size->T k->U k):Kp U a c:=
 ⟨kg h.le h'.le,fun k hk hn=>(h'.same k (jj hk h.le) fun hT=>hn (ht k hk hT)).trans (h.same k hk fun hS=>hn (hs k hk hS))⟩
theorem Z9{T:TypeId}{v:Value}{H:Hp}{K:Value->Hp->Prop}(h:∀ b H',H.size=b->Ext H H'->H'.size=b+1->H'[b]?=some (.cells v.cells T)->K (.pointer (some ⟨b,0,none⟩)) H'):kT T v H K:=
 h _ _ rfl (Ext.push H _) (by simp) (Yf H _)
theorem pK{T:TypeId}{n:Nat}{cs:Array Value}{H:Hp}{K:Value->Hp->Prop}(h:∀ b H',H.size=b->Ext H H'->H'.size=b+1->H'[b]?=some (.cells cs T)->K (.slice (some ⟨b,0,none⟩) n n) H'):nK T n cs H K:=
 h _ _ rfl (Ext.push H _) (by simp) (Yf H _)
theorem yL{H:Hp}{K:Value->Hp->Prop}(h:∀ b H',H.size=b->Ext H H'->H'.size=b+1->H'[b]?=some (.map #[] 0)->K (.map (some b)) H'):oY H K:=
 h _ _ rfl (Ext.push H _) (by simp) (Yf H _)
theorem ZQ{b i:Nat}{c:Array Value}{T:TypeId}{v:Value}{H:Hp}{K:Hp->Prop}(hb:H[b]?=some (.cells c T))(hi:i<c.size)(hv:v.oneCell'=true)(hc:v.cells=#[v])
   (h:∀ H',Kp (·=b) H H'->H'.size=H.size->H'[b]?=some (.cells (c.setIfInBounds i v) T)->K H'):Pu (zY (some 1) (.pointer (some ⟨b,i,none⟩)) v H) K:=by
 rw[BK hb hi hv hc,za]
 exact h _ (Kp.set H b _) (by simp) (ZT hb)
theorem tI{H:Hp}{b i n:Nat}{c vs:Array Value}{T:TypeId}(hb:H[b]?=some (.cells c T))(h:i+n<=c.size)(h':vs.size=n)(hv:(vs.all fun v=>v.oneCell')=true) :
   zY (some n) (.pointer (some ⟨b,i,none⟩)) (.agg vs) H=some (H.setIfInBounds b (.cells (zL c i vs) T)):=by
 subst h'
 simp[zY,AO,hb,Value.cells,h]
 simpa using hv
theorem uW{b i n:Nat}{c vs:Array Value}{T:TypeId}{H:Hp}{K:Hp->Prop}(hb:H[b]?=some (.cells c T))(hi:i+n<=c.size)(hn:vs.size=n)(hv:(vs.all fun v=>v.oneCell')=true)
   (h:∀ H',Kp (·=b) H H'->H'.size=H.size->H'[b]?=some (.cells (zL c i vs) T)->K H'):Pu (zY (some n) (.pointer (some ⟨b,i,none⟩)) (.agg vs) H) K:=by
 rw[tI hb hi hn hv,za]
 exact h _ (Kp.set H b _) (by simp) (ZT hb)
theorem Zc{b n:Nat}{c vs:Array Value}{T:TypeId}{H:Hp}{K:Hp->Prop}(hb:H[b]?=some (.cells c T))(hi:c.size=n)(hn:vs.size=n)(hv:(vs.all fun v=>v.oneCell')=true)
   (h:∀ H',Kp (·=b) H H'->H'.size=H.size->H'[b]?=some (.cells vs T)->K H'):Pu (zY (some n) (.pointer (some ⟨b,0,none⟩)) (.agg vs) H) K:=by
 rw[NJ hb hi hn hv,za]
 exact h _ (Kp.set H b _) (by simp) (ZT hb)
def zv(c:Array Value):Prop:=(c.all fun v=>v.oneCell')=true
structure Sv(T n:Nat)(H:Hp)(s:Value)(vs:List (Array Value)):Prop where
 is:∃ (base:Option Addr) (cap:Nat),s=.slice base vs.length cap/\vs.length<=cap/\(∀ v∈vs,v.size=n)/\(match base with
  | none=>cap=0
  | some a=>a.spot=none/\∃ cs,H[a.block]?=some (.cells cs T)/\a.off+cap*n<=cs.size/\∀ i v,vs[i]?=some v->cs.extract (a.off+i*n) (a.off+i*n+n)=v)
section
variable{T n:Nat}{H H':Hp}{s:Value}{vs:List (Array Value)}
theorem Sv.nil(T n:Nat)(H:Hp):Sv T n H (.slice none 0 0) []:=⟨none,0,rfl,iU _,by simp,rfl⟩
theorem Sv.of(h:Sv T n H s vs)(hb:∀ b,ZH s=some b->H'[b]?=H[b]?):Sv T n H' s vs:=by
 obtain⟨base,cap,rfl,hle,hn,h⟩:=h;refine⟨base,cap,rfl,hle,hn,?_⟩;cases base with
 | none=>exact h
 | some a=>
  obtain⟨oI,cs,hg,h⟩:=h;exact⟨oI,cs,by rw[hb a.block rfl];exact hg,h⟩
theorem Sv.ext(h:Sv T n H s vs)(hx:Ext H H'):Sv T n H' s vs:=by
 obtain⟨base,cap,rfl,hle,hn,h⟩:=h;refine⟨base,cap,rfl,hle,hn,?_⟩;cases base with
 | none=>exact h
 | some a=>
  obtain⟨oI,cs,hg,h⟩:=h;exact⟨oI,cs,hx.at hg,h⟩
theorem Sv.lt(h:Sv T n H s vs){b:Nat}(hb:ZH s=some b):b<H.size:=by
 obtain⟨base,cap,rfl,hle,hn,h⟩:=h;cases base with
 | none=>cases hb
 | some a=>
  obtain⟨oI,cs,hg,h⟩:=h;injection hb with hb;subst hb;exact Zu hg
theorem Sv.kp{S:Nat->Prop}(h:Sv T n H s vs)(hk:Kp S H H')(hs:∀ b,ZH s=some b->¬ S b):Sv T n H' s vs:=h.of fun b hb=>hk.same b (h.lt hb) (hs b hb)
theorem Sv.len(h:Sv T n H s vs):∃ b c,s=.slice b vs.length c:=by
 obtain⟨base,cap,rfl,_⟩:=h;exact⟨base,cap,rfl⟩
theorem Sv.one(h:Sv T n H s vs):s.cells=#[s]/\s.oneCell'=true:=by
 obtain⟨b,c,rfl⟩:=h.len;exact⟨rfl,rfl⟩
theorem Sv.j9{P:Program}{S:TypeId}{e:TypeId}(h:Sv T n H s vs)(hu:P.underlying S=some (.slice e)):j9 P S s=some (.int .i64 vs.length):=by
 obtain⟨b,c,rfl⟩:=h.len;exact tU hu
theorem Sv.elem(h:Sv T n H s vs){i:Nat}{v:Array Value}(hi:vs[i]?=some v):∃ b o cs,ZH s=some b/\H[b]?=some (.cells cs T)/\o+n<=cs.size/\cs.extract o (o+n)=v /\
   ∀ k,zG (some (none,n)) s (.int k i)=some (.pointer (some ⟨b,o,none⟩)):=by
 obtain⟨base,cap,rfl,hle,hn,h⟩:=h
 have kc:i<vs.length:=by
   rcases jx i vs.length with h1 | h1
   · exact h1
   · rw[eR h1]at hi;cases hi
 cases base with
 | none=>simp only at h;omega
 | some a=>
   obtain⟨oI,cs,hg,lH,h⟩:=h
   obtain⟨kC,off,sp⟩:=a
   simp only at oI hg lH h
   subst oI
   have hm:(i+1)*n<=cap*n:=jU n (by omega)
   rw[kn,kY]at hm
   refine⟨kC,off+i*n,cs,rfl,hg,by omega,h i v hi,fun k=>?_⟩
   have:=@Bk vs.length cap n kC off k i (by omega) (by omega)
   simpa using this
theorem IZ{cs v:Array Value}{o n j:Nat}(h:cs.extract o (o+n)=v)(ho:o+n<=cs.size)(hj:j<n):cs[o+j]?=v[j]?:=by
 rw[<- h,ji,aU (by omega)]
theorem Sv.cell(h:Sv T n H s vs){i j:Nat}{v:Array Value}(hi:vs[i]?=some v)(hj:j<n):∃ b o,(∀ k,zG (some (none,n)) s (.int k i)=some (.pointer (some ⟨b,o,none⟩)))/\zX (some none) (.pointer (some ⟨b,o+j,none⟩)) H=v[j]?:=by
 obtain⟨b,o,cs,_,hg,lH,hx,ha⟩:=h.elem hi;exact⟨b,o,ha,by rw[zi hg];exact IZ hx lH hj⟩
theorem Sv.row(h:Sv T n H s vs){i:Nat}{v:Array Value}(hi:vs[i]?=some v):∃ b o,(∀ k,zG (some (none,n)) s (.int k i)=some (.pointer (some ⟨b,o,none⟩)))/\zX (some (some n)) (.pointer (some ⟨b,o,none⟩)) H=some (.agg v):=by
 obtain⟨b,o,cs,_,hg,lH,hx,ha⟩:=h.elem hi;exact⟨b,o,ha,by rw[Za hg lH,hx]⟩
theorem Sv.size(h:Sv T n H s vs){i:Nat}{v:Array Value}(hi:vs[i]?=some v):v.size=n:=by
 obtain⟨base,cap,rfl,hle,hn,h⟩:=h;exact hn v (jV hi)
theorem yC{c v:Array Value}{o n:Nat}(h:o+n<=c.size)(hv:v.size=n):(zL c o v).extract o (o+n)=v:=by
 apply jm;intro j;rw[ji,zO (by omega)];by_cases hj:j<n
 ·rw[aU (by omega),zH (by omega),aH (by omega),aU (by omega)];congr 1;omega
 ·rw[aH (by omega),iQ (by omega)]
theorem Yt{c v:Array Value}{o n o' m:Nat}(h:o+n<=c.size)(hv:v.size=n)(h':o'+m<=c.size)(hd:o'+m<=o\/o+n<=o'):(zL c o v).extract o' (o'+m)=c.extract o' (o'+m):=by
 apply jm;intro j;rw[ji,ji,zO (by omega)];by_cases hj:j<m
 ·rw[aU (by omega),aU (by omega),zH (by omega)];by_cases h1:o'+j<o
  ·rw[aU h1]
  ·rw[aH h1,aH (by omega)]
 ·rw[aH (by omega),aH (by omega)]
theorem Sv.put{K:Hp->Prop}(h:Sv T n H s vs){i:Nat}(hi:i<vs.length){v:Array Value}(hv:v.size=n)(hc:zv v):∃ b o,ZH s=some b/\(∀ k,zG (some (none,n)) s (.int k i)=some (.pointer (some ⟨b,o,none⟩))) /\
   ((∀ H',Kp (·=b) H H'->H'.size=H.size->Sv T n H' s (vs.set i v)->K H')->Pu (zY (some n) (.pointer (some ⟨b,o,none⟩)) (.agg v) H) K):=by
 have h0:=h
 obtain⟨base,cap,rfl,hle,hn,h⟩:=h
 cases base with
 | none=>simp only at h;omega
 | some a=>
   obtain⟨oI,cs,hg,lH,h⟩:=h
   obtain⟨kC,off,sp⟩:=a
   simp only at oI hg lH h
   subst oI
   have hm:(i+1)*n<=cap*n:=jU n (by omega)
   rw[kn,kY]at hm
   refine⟨kC,off+i*n,rfl,fun k=>?_,fun hK=>?_⟩
   · have:=@Bk vs.length cap n kC off k i (by omega) (by omega)
     simpa using this
   · refine uW hg (by omega) hv hc fun H' hk hs hg'=>hK H' hk hs ?_
     refine⟨some ⟨kC,off,none⟩,cap,by simp,by simpa using hle,fun x hx=>?_,rfl,_,hg',by rw[zO (by omega)];exact lH,fun j x hj=>?_⟩
     · rcases lD hx with h1 | h1
       · exact hn x h1
       · rw[h1];exact hv
     · rw[lU]at hj
       by_cases EO:i=j
       · subst EO
         rw[aU rfl,aU hi]at hj
         injection hj with hj;subst hj
         exact yC (by omega) hv
       · rw[aH EO]at hj
         have DC:j<vs.length:=by
           rcases jx j vs.length with h1 | h1
           · exact h1
           · rw[eR h1]at hj;cases hj
         have EN:(j+1)*n<=cap*n:=jU n (by omega)
         rw[kn,kY]at EN
         have hd:off+j*n+n<=off+i*n\/off+i*n+n<=off+j*n:=by
           rcases Nat.lt_or_gt_of_ne EO with h1 | h1
           · have:=jU n (show i+1<=j from h1);rw[kn,kY]at this;omega
           · have:=jU n (show j+1<=i from h1);rw[kn,kY]at this;omega
         show(zL cs (off+i*n) v).extract (off+j*n) (off+j*n+n)=x
         rw[Yt (by omega) hv (by omega) hd]
         exact h j x hj
theorem Sv.tw(h:Sv T n H s vs):tw n s H=some (vs.flatMap (·.toList)).toArray:=by
 obtain⟨base,cap,rfl,hle,hn,h⟩:=h
 have uK:∀ (vs:List (Array Value)),(∀ v∈vs,v.size=n)->(vs.flatMap (·.toList)).length=vs.length*n:=by
   intro vs hn
   induction vs with
   | nil=>simp
   | cons v vs ih=>
     rw[Ao,cR,ih (fun w hw=>hn w (dH _ hw)),gR,kn,kY,lG,hn v eH];omega
 cases base with
 | none=>
   simp only at h
   have:vs=[]:=jz (by omega)
   subst this;rfl
 | some a=>
   obtain⟨oI,cs,hg,lH,h⟩:=h
   obtain⟨kC,off,sp⟩:=a
   simp only at oI hg lH h
   subst oI
   have hm:vs.length*n<=cap*n:=jU n hle
   have:np H ⟨kC,off,none⟩ (vs.length*n)=some (cs.extract off (off+vs.length*n)):=by
     unfold np;simp only[hg];rw[aU ⟨trivial,by omega⟩]
   show np H ⟨kC,off,none⟩ (vs.length*n)=_
   rw[this]
   congr 1
   apply Array.ext'
   have key:∀ (us:List (Array Value)) (o:Nat),(∀ v∈us,v.size=n)->(∀ i v,us[i]?=some v->cs.extract (o+i*n) (o+i*n+n)=v)->o+us.length*n<=cs.size ->
       (cs.extract o (o+us.length*n)).toList=us.flatMap (·.toList):=by
     intro us
     induction us with
     | nil=>intro o _ _ _;simp
     | cons u us ih=>
       intro o hn h hs
       rw[gR,kn,kY]at hs ⊢
       have h1:=ih (o+n) (fun v hv=>hn v (dH _ hv)) (fun i v hi=>by
         have:=h (i+1) v (by simpa using hi)
         rw[kn,kY]at this
         rw[show o+n+i*n=o+(i*n+n) by omega];exact this) (by omega)
       have h2:=h 0 u rfl
       rw[An,bH]at h2
       rw[Ao,<- h1,<- h2,show o+(us.length*n+n)=o+n+us.length*n by omega]
       rw[<- Array.toList_append]
       congr 1
       apply jm
       intro j
       rw[ah6,vL]
       simp only[ji]
       by_cases hj:j<n
       · rw[aU (by omega),aU (by omega),aU (by omega)]
       · rw[aH (show ¬ j<min (o+n) cs.size - o by omega)]
         by_cases hj2:j<n+us.length*n
         · rw[aU (by omega),aU (by omega)];congr 1;omega
         · rw[aH (by omega),aH (by omega)]
   exact key vs off hn (fun i v hi=>h i v hi) (by omega)
end
def Yn(vs:List (Array Value)):Array Value:=(vs.flatMap (·.toList)).toArray
section
variable{T n:Nat}{H H':Hp}{s:Value}{vs us:List (Array Value)}
theorem vx(hn:∀ v∈vs,v.size=n):(Yn vs).size=vs.length*n:=by
 unfold Yn;simp only[nN];induction vs with
 | nil=>simp
 | cons v vs ih=>
  rw[Ao,cR,ih (fun w hw=>hn w (dH _ hw)),gR,kn,kY,lG,hn v eH];omega
theorem Gq:Yn (vs++us)=Yn vs++Yn us:=by
 unfold Yn;rw[List.flatMap_append];simp
theorem xV:∀ {vs:List (Array Value)} {i j:Nat} {v:Array Value},(∀ v∈vs,v.size=n)->vs[i]?=some v->j<n->(Yn vs)[i*n+j]?=v[j]?
 | [],i,j,v,_,h,_=>by simp at h
 | u :: vs,0,j,v,hn,h,hj=>by
  simp only[dU,iH]at h;subst h;have hu:=hn u eH;have:Yn (u :: vs)=u++Yn vs:=by unfold Yn;rw[Ao];simp
  rw[this,An,aR,nc (by omega)]
 | u :: vs,i+1,j,v,hn,h,hj=>by
  have hu:=hn u eH;have:Yn (u :: vs)=u++Yn vs:=by unfold Yn;rw[Ao];simp
  rw[this,lS (by rw[hu,kn,kY];omega),hu,kn,kY];rw[show i*n+n+j - n=i*n+j by omega];exact xV (fun w hw=>hn w (dH _ hw)) (by simpa using h) hj
theorem SO(h:∀ v∈vs,zv v):zv (Yn vs):=by
 unfold zv Yn;rw[List.all_toArray,kl];intro x hx;rw[List.mem_flatMap]at hx;obtain⟨v,hv,hx⟩:=hx;have:=h v hv;unfold zv at this;rw[<- iV,kl]at this;exact this x hx
theorem qk{A v:Array Value}{o:Nat}(hv:v.size=n)(ho:o+n<=A.size)(h:∀ j,j<n->A[o+j]?=v[j]?):A.extract o (o+n)=v:=by
 apply jm;intro j;rw[ji];by_cases hj:j<n
 ·rw[aU (by omega),h j hj]
 ·rw[aH (by omega),iQ (by omega)]
theorem Sv.Nv(h:Sv T n H s vs):Vc.tw n s H=some (Yn vs):=h.tw
theorem Jx{e:ZX}(hT:e.type=T)(hs:e.size=n)(hz:e.zero.size=n)(AE:0<e.bytes){x:Value}{T':Nat}(h:Sv T n H s vs)(hx:Sv T' n H x us)(kD:∀ u∈us,zv u)
   (nu:(vs.length+us.length)*e.bytes<=2 ^ 47) {K:Value->Hp->Prop}
   (hk:∀ s' H',Sv T n H' s' (vs++us)->Kp (fun b=>ZH s=some b) H H'->(∀ b,ZH s'=some b->ZH s=some b\/H.size<=b)->((∃ base c,s=.slice base vs.length c/\s'=.slice base (vs.length+us.length) c)\/Ext H H'/\∀ b,ZH s'=some b->H.size<=b)->K s' H') :
   mD (some e) s x H K:=by
 have Ss:=hx.Nv
 have Gk:=h.Nv
 have hlx:DU x=us.length:=by obtain⟨_,_,rfl⟩:=hx.len;rfl
 have hnu:∀ u∈us,u.size=n:=by obtain⟨_,_,_,_,h1,_⟩:=hx.is;exact h1
 obtain⟨base,cap,rfl,hle,hn,hb⟩:=h
 have hnn:∀ v∈vs++us,v.size=n:=fun v hv=>by
   rcases fH.1 hv with h1 | h1
   · exact hn v h1
   · exact hnu v h1
 have Bl:=vx hnu
 have hfv:=vx hn
 unfold mD
 rw[za,hs,Ss,za,hlx]
 unfold App
 simp only
 by_cases hc:vs.length+us.length<=cap
 · rw[aU hc]
   cases base with
   | none=>
     simp only at hb
     have e1:vs=[]:=jz (by omega)
     have e2:us=[]:=jz (by omega)
     subst e1 e2 hb
     exact⟨rfl,hk _ _ (Sv.nil T n H) (Kp.refl _ _) (fun b hb=>.inl hb) (.inl ⟨none,0,rfl,rfl⟩)⟩
   | some a=>
     obtain⟨oI,cs,hg,lH,X0⟩:=hb
     obtain⟨kC,off,sp⟩:=a
     simp only at oI hg lH X0
     subst oI
     have hm:(vs.length+us.length)*n<=cap*n:=jU n hc
     rw[kn]at hm
     have Of:AO H ((⟨kC,off,none⟩:Addr).add (vs.length*e.size)) (Yn us)=some (H.setIfInBounds kC (.cells (zL cs (off+vs.length*n) (Yn us)) T)):=by
       rw[Addr.oE,hs]
       unfold AO
       have mc:(Yn us).all (fun v=>v.oneCell')=true:=SO kD
       simp only[hg,mc,and_true,true_and]
       rw[aU (by omega)]
     simp only[Of,za]
     refine hk _ _ ⟨some ⟨kC,off,none⟩,cap,by simp,by simpa using hc,hnn,rfl,_,ZT hg,by rw[zO (by omega)];exact lH,fun i v hi=>?_⟩ (Kp.mono (Kp.set H kC _) fun b _ e=>by rw[e];rfl) (fun b hb=>.inl hb) (.inl ⟨some ⟨kC,off,none⟩,cap,rfl,rfl⟩)
     have kI:i<vs.length+us.length:=by
       rcases jx i (vs++us).length with h1 | h1
       · simpa using h1
       · rw[eR h1]at hi;cases hi
     by_cases h1:i<vs.length
     · rw[ko h1]at hi
       have EN:=jU n (show i+1<=vs.length from h1)
       rw[kn,kY]at EN
       show(zL cs (off+vs.length*n) (Yn us)).extract (off+i*n) (off+i*n+n)=v
       rw[Yt (n:=us.length*n) (by omega) Bl (by omega) (by omega)]
       exact X0 i v hi
     · have Gg:=hi
       rw[jB (by omega)]at hi
       have EN:=jU n (show i - vs.length+1<=us.length by omega)
       rw[kn,kY]at EN
       have e3:i*n=vs.length*n+(i - vs.length)*n:=by rw[<- kn];congr 1;omega
       refine qk (hnn v (jV Gg)) (by rw[zO (by omega)];simp only;omega) fun j hj=>?_
       rw[zH (by omega)]
       simp only
       rw[aH (by omega),aU (by omega),show off+i*n+j - (off+vs.length*n)=(i - vs.length)*n+j by omega]
       exact xV hnu hi hj
 · rw[aH hc]
   refine⟨AE,nu,?_⟩
   rw[hs,Gk,za]
   intro OY Sy
   have ags:(Yn vs++Yn us++Builtin.zeroCells e.zero (OY - (vs.length+us.length))).size=OY*n:=by
     simp only[Array.size_append,hfv,Bl,Builtin.zeroCells,Array.size_map,Array.size_range,hz]
     rw[<- kn,<- kn];congr 1;omega
   refine hk _ _ ⟨some ⟨H.size,0,none⟩,OY,by simp,by simpa using Sy,hnn,rfl,Yn vs++Yn us++Builtin.zeroCells e.zero (OY - (vs.length+us.length)),?_,?_,fun i v hi=>?_⟩ ((Ext.push H _).kp _) (fun b hb=>.inr ?_) (.inr ⟨Ext.push H _,fun b hb=>?_⟩)
   · rw[hT];exact Yf H _
   · rw[ags];simp
   · have kI:i<vs.length+us.length:=by
       rcases jx i (vs++us).length with h1 | h1
       · simpa using h1
       · rw[eR h1]at hi;cases hi
     have EN:=jU n (show i+1<=OY by omega)
     have hm3:=jU n (show i+1<=vs.length+us.length by omega)
     rw[kn,kY]at EN
     rw[kn,kn,kY]at hm3
     refine qk (hnn v (jV hi)) (by rw[ags];simp only;omega) fun j hj=>?_
     rw[<- Gq]
     have hsv:(Yn (vs++us)).size=(vs.length+us.length)*n:=by rw[vx hnn,cR]
     simp only[aR]
     rw[nc (by rw[hsv,kn];omega)]
     exact xV hnn hi hj
   · have:H.size=b:=by simpa[ZH]using hb
     omega
   · have:H.size=b:=by simpa[ZH]using hb
     omega
theorem tE{e:ZX}(hT:e.type=T)(hs:e.size=n)(hz:e.zero.size=n)(AE:0<e.bytes){x:Value}{T':Nat}(h:Sv T n H s vs)(hx:Sv T' n H x us)(kD:∀ u∈us,zv u)
 (nu:(vs.length+us.length)*e.bytes<=2 ^ 47) {K:Value->Hp->Prop}
 (hk:∀ s' H',Sv T n H' s' (vs++us)->Kp (fun b=>ZH s=some b) H H'->(∀ b,ZH s'=some b->ZH s=some b\/H.size<=b)->K s' H') :
 mD (some e) s x H K:=Jx hT hs hz AE h hx kD nu fun s' H' a b c _=>hk s' H' a b c
theorem Sv.single{b:Nat}{v:Array Value}(hb:H[b]?=some (.cells v T))(hv:v.size=n):Sv T n H (.slice (some ⟨b,0,none⟩) 1 1) [v]:=
 ⟨some ⟨b,0,none⟩,1,rfl,iU _,by simpa using hv,rfl,v,hb,by simp[hv],fun i x hi=>by
  cases i with
  | zero=>simp only[dU,iH]at hi;subst hi;simp[<- hv]
  | succ i=>simp at hi⟩
theorem ab1{P:Program}{e:ZX}{l:Nat}{k k':IntKind}{K:Value × Hp->Prop}(hT:e.type=T)(hs:e.size=n)(hz:e.zero.size=n)(hl:l<=2 ^ 48)(AE:e.bytes*l<=2 ^ 47)(hn:l=0\/n≠0)
   (h:∀ b H',H.size=b->Ext H H'->H'.size=b+1->Sv T n H' (.slice (some ⟨b,0,none⟩) l l) (List.replicate l e.zero)->K (.slice (some ⟨b,0,none⟩) l l,H')) :
   Pu (oQ (some e) (.int k l) (.int k' l) H) K:=by
 have hc:(0:Int)<=l/\(l:Int)<=l/\(l:Int)<=2 ^ 48/\(e.bytes:Int)*l<=2 ^ 47/\((l:Int)=0\/e.size≠0):=by
   refine⟨by omega,by omega,by omega,?_,by rw[hs];omega⟩
   have:((e.bytes*l:Nat):Int)<=2 ^ 47:=by omega
   simpa using this
 have he:oQ (some e) (.int k l) (.int k' l) H=some (.slice (some ⟨H.size,0,none⟩) l l,H.push (.cells ((Array.range (l*e.size)).map (e.zero[· % e.zero.size]!)) e.type)):=by
   unfold oQ;simp only[hc,and_self,jO,jK]
 rw[he,za]
 refine h _ _ rfl (Ext.push H _) (by simp) ⟨some ⟨H.size,0,none⟩,l,by simp,by simp,fun v hv=>?_,rfl,_,by rw[<- hT];exact Yf H _,by simp[hs],fun i v hi=>?_⟩
 · rw[List.mem_replicate]at hv;rw[hv.2,hz]
 · rw[mE]at hi
   split at hi
   · rename_i kI
     injection hi with hi;subst hi
     have EN:=jU n (show i+1<=l from kI)
     rw[kn,kY]at EN
     refine qk hz (by simp[hs];omega) fun j hj=>?_
     simp only[aR]
     rw[Array.getElem?_map,Array.getElem?_range,hs,aU (by omega),iR,hz]
     rw[ad7,Nat.add_mul_mod_self_right,mf hj]
     rw[getElem!_pos e.zero j (by omega),ka (by omega)]
   · cases hi
end
abbrev ML:=List (Int × Value)
def xT:ML->Int->Nat->Option (Nat × Value)
 | [],_,_=>none
 | (j,v) :: l,k,n=>if k=j then some (n,v) else xT l k (n+1)
def getM:ML->Int->Option Value
 | [],_=>none
 | (j,v) :: l,k=>if k=j then some v else getM l k
def sj:ML->Int->Value->ML
 | [],k,v=>[(k,v)]
 | (j,w) :: l,k,v=>if k=j then(k,v) :: l else(j,w) :: sj l k v
def qT:ML->Int->ML
 | [],_=>[]
 | (j,w) :: l,k=>if k=j then l else(j,w) :: qT l k
def nR(l:List MapEntry)(m:ML):Prop:=l.map (fun e=>(e.key,e.val))=m.map fun x=>(Value.int .i64 x.1,x.2)
theorem Ab:∀ {m:ML},nR [] m->m=[]:=by
 intro m h;cases m with
 | nil=>rfl
 | cons x m=>simp[nR]at h
theorem vC{e:MapEntry}{l:List MapEntry}{m:ML}(h:nR (e :: l) m):∃ k m',m=(k,e.val) :: m'/\e.key=.int .i64 k/\nR l m':=by
 cases m with
 | nil=>simp[nR]at h
 | cons x m=>
  simp only[nR,jb,List.cons.injEq,DJ]at h;exact⟨x.1,m,by rw[h.1.2],h.1.1,h.2⟩
theorem ua:∀ {l:List MapEntry} {m:ML} {k:Int} {n:Nat},nR l m->Instr.findNow (.int .i64) (.int .i64 k) l n=some (xT m k n)
 | [],m,k,n,h=>by rw[Ab h];rfl
 | e :: l,m,k,n,h=>by
  obtain⟨j,m',rfl,hk,h'⟩:=vC h;unfold Instr.findNow xT;rw[hk];have:Instr.sameNow (.int .i64) (.int .i64 k) (.int .i64 j)=some (k == j):=rfl;rw[this];by_cases KL:k=j
  ·subst KL;simp
  ·have:(k == j)=false:=by simpa using KL
   rw[this,aH KL];exact ua h'
theorem CS:∀ {m:ML} {k:Int} {n:Nat},(xT m k n).map (·.2)=getM m k
 | [],_,_=>rfl
 | (j,v) :: m,k,n=>by
  unfold xT getM;by_cases h:k=j
  ·simp[h]
  ·simp only[h,jD];exact CS
theorem xS{m:ML}{k:Int}{n:Nat}(h:getM m k=none):xT m k n=none:=by
 have:=CS (m:=m) (k:=k) (n:=n);rw[h]at this;cases hf:xT m k n with
 | none=>rfl
 | some x=>rw[hf]at this;cases this
theorem xR{m:ML}{k:Int}{n:Nat}{v:Value}(h:getM m k=some v):∃ i,xT m k n=some (i,v):=by
 have:=CS (m:=m) (k:=k) (n:=n);rw[h]at this;cases hf:xT m k n with
 | none=>rw[hf]at this;cases this
 | some x=>
  rw[hf]at this;simp only[iR,iH]at this;exact⟨x.1,by rw[<- this]⟩
theorem HV:∀ {l:List MapEntry} {m:ML} {k:Int} {n i:Nat} {u v:Value},nR l m->xT m k n=some (i,u)->n<=i/\nR (l.modify (i - n) fun e=>{ e with key:=.int .i64 k,val:=v }) (sj m k v)
 | [],m,k,n,i,u,v,h,hf=>by rw[Ab h]at hf;cases hf
 | e :: l,m,k,n,i,u,v,h,hf=>by
  obtain⟨j,m',rfl,hk,h'⟩:=vC h;unfold xT at hf;unfold sj;by_cases KL:k=j
  ·rw[aU KL]at hf ⊢;injection hf with hf;injection hf with h1 h2;subst h1;refine⟨iU _,?_⟩;rw[nM];simp only[List.modify_zero_cons,nR,jb];rw[show l.map (fun e=>(e.key,e.val))=_ from h']
  ·rw[aH KL]at hf ⊢;obtain⟨h1,h2⟩:=HV (v:=v) h' hf;refine⟨by omega,?_⟩;rw[show i - n=(i - (n+1))+1 by omega,List.modify_succ_cons];simp only[nR,jb]at h2 ⊢;rw[h2,hk]
theorem Na:∀ {l:List MapEntry} {m:ML} {k:Int} {n i:Nat} {u:Value},nR l m->xT m k n=some (i,u)->n<=i/\i - n<l.length/\nR (l.eraseIdx (i - n)) (qT m k)
 | [],m,k,n,i,u,h,hf=>by rw[Ab h]at hf;cases hf
 | e :: l,m,k,n,i,u,h,hf=>by
  obtain⟨j,m',rfl,hk,h'⟩:=vC h;unfold xT at hf;unfold qT;by_cases KL:k=j
  ·rw[aU KL]at hf ⊢;injection hf with hf;injection hf with h1 h2;subst h1;refine⟨iU _,by simp,?_⟩;rw[nM];exact h'
  ·rw[aH KL]at hf ⊢;obtain⟨h1,h3,h2⟩:=Na h' hf;refine⟨by omega,by simp;omega,?_⟩;rw[show i - n=(i - (n+1))+1 by omega,List.eraseIdx_cons_succ];simp only[nR,jb]at h2 ⊢;rw[h2,hk]
theorem aby{l:List MapEntry}{m:ML}{k:Int}{v:Value}{c:Nat}(h:nR l m)(hg:getM m k=none):nR (l++[{ key:=.int .i64 k,val:=v,born:=c }]) (sj m k v):=by
 have:sj m k v=m++[(k,v)]:=by
  clear h;induction m with
  | nil=>rfl
  | cons x m ih=>
   obtain⟨j,w⟩:=x;unfold getM at hg;unfold sj;by_cases KL:k=j
   ·rw[aU KL]at hg;cases hg
   ·rw[aH KL]at hg ⊢;rw[ih hg];rfl
 rw[this];unfold nR at *;rw[cU,h,cU];rfl
theorem getM_none{m:ML}{k:Int}:getM m k=none↔k ∉ m.map (·.1):=by
 induction m with
 | nil=>simp[getM]
 | cons x m ih=>
  obtain⟨j,w⟩:=x;unfold getM;by_cases h:k=j
  ·simp[h]
  ·rw[aH h,ih];simp[h]
theorem SG(m:ML)(k:Int)(v:Value)(k':Int):getM (sj m k v) k'=if k'=k then some v else getM m k':=by
 induction m with
 | nil=>simp[sj,getM]
 | cons x m ih=>
  obtain⟨j,w⟩:=x;unfold sj;by_cases h:k=j
  ·subst h;rw[aU rfl];unfold getM;by_cases h':k'=k
   ·simp[h']
   ·simp[h']
  ·rw[aH h];unfold getM;by_cases h':k'=j
   ·have:k'≠k:=fun e=>h (by rw[<- e,h']);simp[h',this];intro e;exact absurd e.symm h
   ·simp only[h',jD];exact ih
theorem Ir(m:ML)(k:Int)(v:Value):(sj m k v).map (·.1)=if getM m k=none then m.map (·.1)++[k] else m.map (·.1):=by
 induction m with
 | nil=>simp[sj,getM]
 | cons x m ih=>
  obtain⟨j,w⟩:=x;unfold sj getM;by_cases h:k=j
  ·subst h;simp
  ·rw[aH h,aH h,jb,ih];split<;>simp
theorem V7(m:ML)(k:Int)(v:Value):(sj m k v).length=if getM m k=none then m.length+1 else m.length:=by
 have:=congrArg List.length (Ir m k v);rw[bR]at this;rw[this];split<;>simp
theorem SH{m:ML}(hn:(m.map (·.1)).Nodup)(k k':Int):getM (qT m k) k'=if k'=k then none else getM m k':=by
 induction m with
 | nil=>simp[qT,getM]
 | cons x m ih=>
  obtain⟨j,w⟩:=x;simp only[jb,jo]at hn;unfold qT;by_cases h:k=j
  ·subst h;rw[aU rfl];by_cases h':k'=k
   ·subst h';rw[aU rfl];exact getM_none.2 hn.1
   ·rw[aH h'];conv=>rhs;unfold getM;rw[aH h']
  ·rw[aH h];unfold getM;by_cases h':k'=j
   ·have:k'≠k:=fun e=>h (by rw[<- e,h']);simp[h'];intro e;exact absurd e.symm h
   ·simp only[h',jD];exact ih hn.2
theorem VV{m:ML}{k k':Int}(h:k'∈(qT m k).map (·.1)):k'∈m.map (·.1):=by
 induction m with
 | nil=>simp[qT]at h
 | cons x m ih=>
  obtain⟨j,w⟩:=x;unfold qT at h;by_cases hk:k=j
  ·rw[aU hk]at h;exact dH _ h
  ·rw[aH hk]at h;simp only[jb,jg]at h ⊢;rcases h with h | h
   ·exact .inl h
   ·exact .inr (ih h)
theorem N0{m:ML}(hn:(m.map (·.1)).Nodup)(k:Int):((qT m k).map (·.1)).Nodup:=by
 induction m with
 | nil=>simp[qT]
 | cons x m ih=>
  obtain⟨j,w⟩:=x;simp only[jb,jo]at hn;unfold qT;by_cases hk:k=j
  ·rw[aU hk];exact hn.2
  ·rw[aH hk];simp only[jb,jo];exact⟨fun h=>hn.1 (VV h),ih hn.2⟩
theorem V8(m:ML)(k:Int):(qT m k).length=if getM m k=none then m.length else m.length - 1:=by
 induction m with
 | nil=>simp[qT,getM]
 | cons x m ih=>
  obtain⟨j,w⟩:=x;unfold qT getM;by_cases h:k=j
  ·subst h;simp
  ·rw[aH h,aH h,gR,ih,gR];split
   ·rfl
   ·rename_i hg;have:m≠[]:=fun e=>by subst e;exact hg rfl
    have:0<m.length:=List.length_pos_iff.2 this;omega
structure kq(H:Hp)(r:Nat)(f:Int->Option Value)(n:Nat):Prop where
 is:∃ (es:Array MapEntry) (c:Nat) (m:ML),H[r]?=some (.map es c)/\nR es.toList m/\(m.map (·.1)).Nodup/\m.length=n/\∀ k,getM m k=f k
def sQ(f:Int->Option Value)(k:Int)(v:Option Value):Int->Option Value:=fun j=>if j=k then v else f j
section
variable{P:Program}{H H':Hp}{r n:Nat}{f:Int->Option Value}{kt et:TypeId}
theorem kq.of(h:kq H r f n)(hb:H'[r]?=H[r]?):kq H' r f n:=by
 obtain⟨es,c,m,h1,h2⟩:=h;exact⟨es,c,m,by rw[hb];exact h1,h2⟩
theorem kq.lt(h:kq H r f n):r<H.size:=by
 obtain⟨es,c,m,h1,h2⟩:=h;exact Zu h1
theorem kq.ext(h:kq H r f n)(hx:Ext H H'):kq H' r f n:=h.of (hx.same _ h.lt)
theorem kq.kp{S:Nat->Prop}(h:kq H r f n)(hk:Kp S H H')(hs:¬ S r):kq H' r f n:=h.of (hk.same _ h.lt hs)
theorem kq.congr{g:Int->Option Value}(h:kq H r f n)(hg:∀ k,g k=f k):kq H r g n:=by
 have:g=f:=funext hg;rw[this];exact h
theorem kq.new(h:H[r]?=some (.map #[] 0)):kq H r (fun _=>none) 0:=⟨#[],0,[],h,rfl,rV,rfl,fun _=>rfl⟩
theorem Bg{es:Array MapEntry}{c:Nat}(h:H[r]?=some (.map es c)):wq H r=some (es,c):=by unfold wq;rw[h]
theorem HX{es:Array MapEntry}{c:Nat}(h:H[r]?=some (.map es c)):AH (.map (some r)) H=some es:=by
 show(wq H r).map (·.1)=_;rw[Bg h];rfl
def EC(ok:Bool)(z:Option Value):Option Value->Option Value
 | some v=>some (ux ok v true)
 | none=>z.map fun z=>ux ok z false
theorem u7{ok:Bool}{z:Option Value}{v:Value}:EC ok z (some v)=some (ux ok v true):=rfl
theorem u9{ok:Bool}{z:Value}:EC ok (some z) none=some (ux ok z false):=rfl
theorem YT(h:kq H r f n)(ok:Bool)(k:Int):yf P (some (kt,.int .i64,et)) ok (.map (some r)) (.int .i64 k) H=EC ok (ZZ P et) (f k):=by
 obtain⟨es,c,m,h1,h2,h3,h4,h5⟩:=h;unfold yf;simp only[HX h1,jG,ua h2];rw[<- h5 k];cases hg:getM m k with
 | none=>rw[xS hg];rfl
 | some v=>obtain⟨i,hi⟩:=xR (n:=0) hg;rw[hi];rfl
theorem MG(h:kq H r f n):YI (.map (some r)) H=some (.int .i64 n):=by
 obtain⟨es,c,m,h1,h2,h3,h4,h5⟩:=h;unfold YI;rw[HX h1];have:=congrArg List.length h2;simp only[bR,lG]at this;rw[iR,this,h4]
theorem YU{k:Int}{v:Value}{K:Hp->Prop}(h:kq H r f n)(hk:∀ H',Kp (·=r) H H'->H'.size=H.size->kq H' r (sQ f k (some v)) (if f k=none then n+1 else n)->K H') :
   Pu (yM (some (kt,.int .i64,et)) (.map (some r)) (.int .i64 k) v H) K:=by
 obtain⟨es,c,m,h1,h2,h3,h4,h5⟩:=h
 unfold yM
 simp only[Bg h1,jG,ua h2,iR,za]
 have lj:((sj m k v).map (·.1)).Nodup:=by
   rw[Ir]
   split
   · rename_i hg
     rw[jJ]
     refine⟨h3,by simp,fun a ha b hb=>?_⟩
     simp only[eU]at hb
     subst hb
     intro e;subst e
     exact getM_none.1 hg ha
   · exact h3
 have hlen:(sj m k v).length=if f k=none then n+1 else n:=by rw[V7,h5 k,h4]
 have On:∀ k',getM (sj m k v) k'=sQ f k (some v) k':=fun k'=>by
   rw[SG];unfold sQ;split
   · rfl
   · exact h5 k'
 cases hg:getM m k with
 | none=>
   rw[xS hg]
   exact hk _ (Kp.set H r _) (by simp) ⟨_,_,sj m k v,ZT h1,by simpa using aby h2 hg,lj,hlen,On⟩
 | some u=>
   obtain⟨i,hi⟩:=xR (n:=0) hg
   rw[hi]
   obtain⟨_,hm⟩:=HV (v:=v) h2 hi
   exact hk _ (Kp.set H r _) (by simp) ⟨_,_,sj m k v,ZT h1,by simpa using hm,lj,hlen,On⟩
theorem HZ{k:Int}{K:Hp->Prop}(h:kq H r f n)(hk:∀ H',Kp (·=r) H H'->H'.size=H.size->kq H' r (sQ f k none) (if f k=none then n else n - 1)->K H') :
   Pu (rC (some (kt,.int .i64,et)) (.map (some r)) (.int .i64 k) H) K:=by
 obtain⟨es,c,m,h1,h2,h3,h4,h5⟩:=h
 unfold rC
 simp only[Bg h1,jG,ua h2,iR,za]
 have hlen:(qT m k).length=if f k=none then n else n - 1:=by rw[V8,h5 k,h4]
 have On:∀ k',getM (qT m k) k'=sQ f k none k':=fun k'=>by
   rw[SH h3];unfold sQ;split
   · rfl
   · exact h5 k'
 cases hg:getM m k with
 | none=>
   rw[xS hg]
   have hd:qT m k=m:=by
     clear h2 h3 h4 h5 hlen On
     induction m with
     | nil=>rfl
     | cons x m ih=>
       obtain⟨j,w⟩:=x
       unfold getM at hg
       unfold qT
       by_cases KL:k=j
       · rw[aU KL]at hg;cases hg
       · rw[aH KL]at hg ⊢;rw[ih hg]
   exact hk _ (Kp.set H r _) (by simp) ⟨_,_,m,ZT h1,h2,h3,by rw[<- hlen,hd],fun k'=>by rw[<- On k',hd]⟩
 | some u=>
   obtain⟨i,hi⟩:=xR (n:=0) hg
   rw[hi]
   obtain⟨_,kc,hm⟩:=Na h2 hi
   exact hk _ (Kp.set H r _) (by simp) ⟨_,_,qT m k,ZT h1,by
     have akG:i<es.size:=by simpa using kc
     unfold Array.eraseIdxIfInBounds
     rw[dif_pos akG]
     simpa using hm,N0 h3 k,hlen,On⟩
theorem Ia{K:Hp->Prop}(h:kq H r f n)(hk:∀ H',Kp (·=r) H H'->H'.size=H.size->kq H' r (fun _=>none) 0->K H'):Pu (rD (.map (some r)) H) K:=by
 obtain⟨es,c,m,h1,h2,h3,h4,h5⟩:=h;unfold rD;simp only[Bg h1,iR,za];exact hk _ (Kp.set H r _) (by simp) ⟨_,_,[],ZT h1,rfl,rV,rfl,fun _=>rfl⟩
end
theorem IN{off:Nat}:∀ (l:List Value) (k:Nat) (c:Array Value),off+k+l.length<=c.size ->
   ((l.zipIdx k).foldl (fun(cs:Array Value) (x:Value × Nat)=>cs.setIfInBounds (off+x.2) x.1) c).size=c.size /\
   ∀ i,((l.zipIdx k).foldl (fun(cs:Array Value) (x:Value × Nat)=>cs.setIfInBounds (off+x.2) x.1) c)[i]?=if off+k<=i/\i<off+k+l.length then l[i - (off+k)]? else c[i]?
 | [],k,c,h=>by
   refine⟨rfl,fun i=>?_⟩
   simp only[List.zipIdx_nil,List.foldl_nil,jW]
   rw[aH (by omega)]
 | v :: l,k,c,h=>by
   simp only[gR]at h
   obtain⟨h1,h2⟩:=IN (off:=off) l (k+1) (c.setIfInBounds (off+k) v) (by rw[lL];omega)
   simp only[List.zipIdx_cons,List.foldl_cons]
   refine⟨by rw[h1];simp,fun i=>?_⟩
   rw[h2 i,iY,gR]
   by_cases hi:off+k=i
   · subst hi
     rw[aH (by omega),aU rfl,aU (by omega),aU (by omega),nM]
     rfl
   · by_cases hr:off+(k+1)<=i/\i<off+(k+1)+l.length
     · rw[aU hr,aU (by omega),show i - (off+k)=(i - (off+(k+1)))+1 by omega,gH]
     · rw[aH hr,aH hi,aH (by omega)]
theorem qF{c vs:Array Value}{off:Nat}(h:off+vs.size<=c.size):vs.zipIdx.foldl (fun(cs:Array Value) (x:Value × Nat)=>cs.setIfInBounds (off+x.2) x.1) c=zL c off vs:=by
 obtain⟨l⟩:=vs;have h':off+l.length<=c.size:=h;obtain⟨h1,h2⟩:=IN (off:=off) l 0 c (by omega);have e:(Array.mk l).zipIdx.foldl (fun(cs:Array Value) (x:Value × Nat)=>cs.setIfInBounds (off+x.2) x.1) c=(l.zipIdx 0).foldl (fun(cs:Array Value) (x:Value × Nat)=>cs.setIfInBounds (off+x.2) x.1) c:=by
  rw[<- Array.foldl_toList];simp
 rw[e];apply jm;intro i;rw[h2 i,zH (by simpa using h')];simp only[bH,nN,fR];by_cases hi:i<off
 ·rw[aH (by omega),aU hi]
 ·by_cases Gg:i<off+l.length
  ·rw[aU (by omega),aH hi,aU Gg]
  ·rw[aH (by omega),aH hi,aH Gg]
def rB(P:Program)(T:TypeId):Option (List (Nat × Nat)):=
 match P.underlying T with
 | some (.struct fields)=>fields.toList.mapM (fun f=>(P.info? f.type).map fun i=>(f.offset,i.size))
 | _=>none
def te(pl:List (Nat × Nat)):Array Value->List (Nat × Value)->Option (Array Value)
 | c,[]=>some c
 | c,(i,v) :: rest=>match pl[i]? with
  | some (off,size)=>if v.cells.size=size/\off+size<=c.size then te pl (zL c off v.cells) rest else none
  | none=>none
theorem E2{pl:List (Nat × Nat)}:∀ {parts:List (Nat × Value)} {c c':Array Value},te pl c parts=some c'->Instr.fill (fun(i:Nat)=>pl[i]?) c parts=some c'
 | [],c,c',h=>h
 | (i,v) :: rest,c,c',h=>by
  unfold te at h;unfold Instr.fill;cases hp:pl[i]? with
  | none=>rw[hp]at h;cases h
  | some x=>
   obtain⟨off,size⟩:=x;rw[hp]at h;simp only at h;split at h
   ·rename_i hc;simp only;have St:(decide (v.cells.size≠size) || decide (off+v.cells.size > c.size))=false:=by
     rw[cH (fun jZ=>jZ hc.1),cH (by omega)];rfl
    rw[aH (by rw[St];decide),qF (by omega)];exact E2 h
   ·cases h
theorem SP{pl:List (Nat × Nat)}{parts:List (Nat × Value)}{c c':Array Value}(h:te pl c parts=some c'):Instr.fill (fun(i:Nat)=>pl.toArray[i]?) c parts=some c':=by
 rw[show(fun(i:Nat)=>pl.toArray[i]?)=fun i=>pl[i]? from by funext i;simp];exact E2 h
theorem yi{P:Program}{T:TypeId}{z c:Array Value}{pl:List (Nat × Nat)}{parts:List (Nat × Value)}(hz:ZZ P T=some (.agg z))(hp:rB P T=some pl)(h:te pl z parts=some c):zo P T parts=some (.agg c):=by
 unfold zo Program.built;unfold ZZ at hz;unfold rB at hp;cases hi:P.info? T with
 | none=>rw[hi]at hz;cases hz
 | some it=>
  rw[hi,jG]at hz;cases hu:P.underlying T with
  | none=>rw[hu]at hp;cases hp
  | some d=>
   rw[hu]at hp;cases d<;>simp only at hp<;>try (cases hp;done)
   simp only[hz,hp];have:=SP h;rw[show(Value.agg z).cells=z from rfl,this];rfl
section
variable{q:Bool}{P:Program}{ops:Array Oper}{cl:Nat->GO}
def Prc(ops:Array Oper)(cl:Nat->GO)(k i:Nat):Prop:=og ops i k\/uF ops cl k i=true
def C6(ops:Array Oper):Bool:=ops.toList.zipIdx.all fun(o,i)=>o.after.toList.all fun e=>!Region.binds .any e || decide (e.on<i)
theorem C5(h:C6 ops=true){i:Nat}{o:Oper}(hi:ops[i]?=some o){e:Edge}(he:e∈o.after)(hb:Region.binds .any e=true):e.on<i:=by
 have h2:=(kl.1 h) (o,i) (by rw[List.mem_zipIdx_iff_getElem?];simpa using hi);have h3:=(kl.1 h2) e (by simpa using he);simpa[hb]using h3
theorem FU{l:List Nat}{jw:Array Bool}(lH:jw.size=ops.size)(hl:∀ i,i∈l↔i<ops.size/\jw.getD i false=false){i:Nat}(hi:i∈Region.ready .any ops jw):i∈l:=by
 obtain⟨h1,o,ho,_⟩:=mem_ready.1 hi;have kc:i<ops.size:=(kQ.1 ho).1;refine(hl i).2 ⟨kc,?_⟩;simp[lH,kc]at h1 ⊢;exact h1
theorem Ml(hE:C6 ops=true){l:List Nat}{jw:Array Bool}(lH:jw.size=ops.size)(hl:∀ i,i∈l↔i<ops.size/\jw.getD i false=false)(hr:Region.ready .any ops jw=[]):l=[]:=by
 have none:∀ n i,i<=n->i ∉ l:=by
  intro n;induction n with
  | zero=>
   intro i hi hm;have h0:=(hl i).1 hm;obtain⟨o,ho⟩:∃ o,ops[i]?=some o:=⟨_,ka h0.1⟩;have:i∈Region.ready .any ops jw:=mem_ready.2 ⟨by simp[lH,h0.1]at h0 ⊢;exact h0,o,ho,fun e he hb=>by have:=C5 hE ho he hb;omega⟩;rw[hr]at this;cases this
  | succ n ih=>
   intro i hi hm;have h0:=(hl i).1 hm;obtain⟨o,ho⟩:∃ o,ops[i]?=some o:=⟨_,ka h0.1⟩;have:i∈Region.ready .any ops jw:=mem_ready.2 ⟨by simp[lH,h0.1]at h0 ⊢;exact h0,o,ho,fun e he hb=>by
    have kc:=C5 hE ho he hb;cases hg:jw.getD e.on false with
    | true=>rfl
    | false=>exact absurd ((hl e.on).2 ⟨by omega,hg⟩) (ih e.on (by omega))⟩
   rw[hr]at this;cases this
 cases l with
 | nil=>rfl
 | cons i l=>exact absurd eH (none i i (iU i))
theorem Ax{l1 l2:List Nat}{i:Nat}{jw:Array Bool}(lH:jw.size=ops.size)(kc:i<ops.size)(lj:(l1++i :: l2).Nodup)(hl:∀ j,j∈l1++i :: l2↔j<ops.size/\jw.getD j false=false) :
   ∀ j,j∈l1++l2↔j<ops.size/\(jw.setIfInBounds i true).getD j false=false:=by
 intro j
 have Oa:(jw.setIfInBounds i true).getD j false=(if j=i then true else jw.getD j false):=by
   by_cases AR:j=i
   · subst AR;simp[lH,kc]
   · rw[getD_set_ne false (Ne.symm AR),aH AR]
 rw[Oa]
 by_cases AR:j=i
 · subst AR
   rw[jJ]at lj
   obtain⟨h1,h2,h3⟩:=lj
   have:=(jo.1 h2).1
   have h4:j ∉ l1:=fun hm=>h3 j hm j eH rfl
   simp[this,h4]
 · rw[aH AR,<- hl j];simp[AR]
theorem AI{i:Nat}{jw:Array Bool}(lH:jw.size=ops.size)(hi:i∈Region.ready .any ops jw)
   (lI:∀ j oj,ops[j]?=some oj->jw.getD j false=true->∀ e∈oj.after,Region.binds .any e=true->jw.getD e.on false=true) :
   ∀ j oj,ops[j]?=some oj->(jw.setIfInBounds i true).getD j false=true->∀ e∈oj.after,Region.binds .any e=true->(jw.setIfInBounds i true).getD e.on false=true:=by
 obtain⟨_,oi,Og,mc⟩:=mem_ready.1 hi
 have kc:i<ops.size:=(kQ.1 Og).1
 have Oa:∀ j,(jw.setIfInBounds i true).getD j false=(if j=i then true else jw.getD j false):=fun j=>by
   by_cases AR:j=i
   · subst AR;simp[lH,kc]
   · rw[getD_set_ne false (Ne.symm AR),aH AR]
 intro j oj hj JJ e he hb
 rw[Oa]at JJ ⊢
 by_cases lP:e.on=i
 · rw[aU lP]
 · rw[aH lP]
   by_cases AR:j=i
   · subst AR;rw[Og]at hj;cases hj;exact mc e he hb
   · rw[aH AR]at JJ;exact lI j oj hj JJ e he hb
def sm(q:Bool)(P:Program)(ops:Array Oper)(cl:Nat->GO):List Nat->(Act->Hp->Prop)->Act->Hp->Prop
 | [],K,a,H=>K a H
 | i :: l,K,a,H=>yW q P ops cl i (sm q P ops cl l K) a H
theorem xp{K:Act->Hp->Prop}:∀ (l:List Nat),uq q P ops cl K l=sm q P ops cl l fun a H=>∀ H',Ex q H H'->K a H'
 | []=>rfl
 | i :: l=>by funext a H;simp only[uq,sm,xp l]
theorem Ep{K K':Act->Hp->Prop}(h:∀ a H,K a H->K' a H):∀ (l:List Nat) (a:Act) (H:Hp),sm q P ops cl l K a H->sm q P ops cl l K' a H
 | [],a,H,hr=>h a H hr
 | i :: l,a,H,hr=>rl (fun a H hr=>Ep h l a H hr) hr
theorem vY{K:Act->Hp->Prop}:∀ (l l':List Nat) (a:Act) (H:Hp),sm q P ops cl l (sm q P ops cl l' K) a H->sm q P ops cl (l++l') K a H
 | [],l',a,H,h=>h
 | i :: l,l',a,H,h=>rl (fun a H hr=>vY l l' a H hr) h
theorem tL(hn:oB ops=true){i:Nat}{K:Act->Hp->Prop}{l2:List Nat}:∀ (l1:List Nat) (a:Act) (H:Hp),(∀ k∈l1,uF ops cl k i=true) ->
   sm q P ops cl (l1++i :: l2) K a H->yW q P ops cl i (sm q P ops cl (l1++l2) K) a H
 | [],_,_,_,h=>h
 | k :: l1,a,H,hs,h=>by
   have h1:yW q P ops cl k (yW q P ops cl i (sm q P ops cl (l1++l2) K)) a H:=
     rl (fun a' H' h'=>tL hn l1 a' H' (fun k' Oj=>hs k' (dH _ Oj)) h') h
   exact BL hn (hs k eH) h1
theorem Qk{l1:List Nat}{i:Nat}{jw:Array Bool}(hl:∀ k∈l1,jw.getD k false=false)(hi:i∈Region.ready .any ops jw)
   (lI:∀ j oj,ops[j]?=some oj->jw.getD j false=true->∀ e∈oj.after,Region.binds .any e=true->jw.getD e.on false=true)
   (hp:∀ k∈l1,Prc ops cl k i):∀ k∈l1,uF ops cl k i=true:=by
 obtain⟨_,oi,Og,mc⟩:=mem_ready.1 hi
 intro k hk
 rcases hp k hk with h1 | h1
 · exfalso
   have h2:=h1.jw lI fun o ho e he hb=>by rw[Og]at ho;cases ho;exact mc e he hb
   rw[hl k hk]at h2;cases h2
 · exact h1
theorem FW{R:Nat->Nat->Prop}{l1 l2:List Nat}{i:Nat}(h:(l1++i :: l2).Pairwise R):(l1++l2).Pairwise R:=by
 obtain⟨hp1,hp2,hp3⟩:=Ef.1 h;exact Ef.2 ⟨hp1,(LK.1 hp2).2,fun x hx y hy=>hp3 x hx y (dH _ hy)⟩
theorem Mn{R:Nat->Nat->Prop}{l1 l2:List Nat}{i:Nat}(h:(l1++i :: l2).Pairwise R):∀ k∈l1,R k i:=
 fun k hk=>(Ef.1 h).2.2 k hk i eH
variable{r:Option Nat}{Q:Exit->Act->World->Prop}{K:Act->Hp->Prop}{w₀:World}
theorem Xx(hn:oB ops=true)(hE:C6 ops=true)(hQ:∀ a w,K a w.heap->Sm w₀ w->Q .normal a w):∀ (l:List Nat) (jw:Array Bool) (a:Act) (H:Hp) (w:World),
     l.Nodup->l.Pairwise (Prc ops cl)->jw.size=ops.size->(∀ i,i∈l↔i<ops.size/\jw.getD i false=false) ->
     (∀ j oj,ops[j]?=some oj->jw.getD j false=true->∀ e∈oj.after,Region.binds .any e=true->jw.getD e.on false=true) ->
     Ex q H w.heap->Sm w₀ w->uq q P ops cl K l a H->wpAnyIn (Z5 r) 0 P .any ops Q l.length jw a w:=by
 intro l
 induction hlen:l.length generalizing l with
 | zero=>
   intro jw a H w lj hp lH hl lI hx mL h
   have:l=[]:=jz hlen
   subst this
   refine(⟨?_,hQ a w (h _ hx) mL⟩:_/\_)
   cases hr:Region.ready .any ops jw with
   | nil=>rfl
   | cons i t=>have:=FU lH hl (i:=i) (by rw[hr];exact eH);cases this
 | succ n ih=>
   intro jw a H w lj hp lH hl lI hx mL h
   refine⟨fun hr=>(by have:=Ml hE lH hl hr;rw[this]at hlen;cases hlen),fun i hi=>?_⟩
   have Se:=FU lH hl hi
   obtain⟨l1,l2,rfl⟩:=List.append_of_mem Se
   obtain⟨_,oi,Og,_⟩:=mem_ready.1 hi
   have kc:i<ops.size:=(kQ.1 Og).1
   rw[xp]at h
   have h1:=tL hn l1 a H (Qk (fun k hk=>((hl k).1 (jI _ hk)).2) hi lI (Mn hp)) h
   refine yK hn hx h1 fun a' H' w' hr AQ vn=>?_
   exact ih (l1++l2) (by simp at hlen ⊢;omega) (jw.setIfInBounds i true) a' H' w' (lj.sublist (by simp)) (FW hp) (by simp[lH]) (Ax lH kc lj hl) (AI lH hi lI) AQ (mL.trans vn) (by rw[xp];exact hr)
end
def Hc(P:Program)(qf:FuncId->Bool)(dr q:Bool)(all:Array Oper):List Oper->List Nat->Fr->Hp->(List Nat->Fr->Hp->Prop)->Prop
 | [],sk,fr,H,K=>K sk fr H
 | o :: rest,sk,fr,H,K=>
  match o.guard with
  | none=>pE P qf dr q o (ev fr) H fun v H'=>Hc P qf dr q all rest sk (pI fr o.dst v) H' K
  | some (j,want)=>
   match (all[j]?).bind (·.dst) with
   | none=>False
   | some d=>
    if sk.contains d then
     (match slot fr d with
      | .tuple _=>Hc P qf dr q all rest (Fp sk o.dst) (pI fr o.dst undef) H K
      | _=>False)
    else
     hU (slot fr d)
      (if want then pE P qf dr q o (ev (fr.set d (.bool true))) H fun v H'=>Hc P qf dr q all rest sk (pI (fr.set d (.bool true)) o.dst v) H' K
       else Hc P qf dr q all rest (Fp sk o.dst) (pI (fr.set d (.bool true)) o.dst undef) H K)
      (if want then Hc P qf dr q all rest (Fp sk o.dst) (pI (fr.set d (.bool false)) o.dst undef) H K
       else pE P qf dr q o (ev (fr.set d (.bool false))) H fun v H'=>Hc P qf dr q all rest sk (pI (fr.set d (.bool false)) o.dst v) H' K)
section
variable{P:Program}{qf:FuncId->Bool}{dr q:Bool}{all:Array Oper}
theorem qA{fz:Bool}(hq:dr=false->q=false)(hz:fz=true->q=true){W:List Nat}{ds:List Deferred}{fr₀:Fr}{K:List Nat->Fr->Hp->Prop}{K':Act->Hp->Prop}
   (hK:∀ sk fr a H,At a fr->a.defers=ds->ky W fr₀ fr->K sk fr H->K' a H):∀ (is:List Nat) (l:List Oper) (sk:List Nat) (fr:Fr) (a:Act) (H:Hp),
   is.map (all[·]?)=l.map some->(∀ d∈ZU l,d∈W)->At a fr->a.defers=ds->ky W fr₀ fr->Hc P qf dr q all l sk fr H K ->
   sm q P all (uC P qf dr fz all) is K' a H
 | [],l,sk,fr,a,H,hl,_,ha,hd,hA,h=>by
   cases l with
   | nil=>exact hK _ _ _ _ ha hd hA h
   | cons=>cases hl
 | k :: is,[],sk,fr,a,H,hl,_,ha,hd,hA,h=>by cases hl
 | k :: is,o :: rest,sk,fr,a,H,hl,hW,ha,hd,hA,h=>by
   simp only[jb,List.cons.injEq]at hl
   obtain⟨ho,hl'⟩:=hl
   have hW':∀ d∈ZU rest,d∈W:=fun d hd=>hW d (by
     unfold ZU at *;rw[ot];split
     · exact hd
     · exact dH _ hd)
   have hWo:∀ d,o.dst=some d->d∈W:=fun d hdd=>hW d (by unfold ZU;rw[ot,hdd];exact eH)
   have hdp:∀ v,(a.put o.dst v).defers=ds:=fun v=>by rw[<- hd];cases o.dst<;>rfl
   simp only[sm]
   have next:∀ (sk:List Nat) (v:Value) (H':Hp),Hc P qf dr q all rest sk (pI fr o.dst v) H' K->sm q P all (uC P qf dr fz all) is K' (a.put o.dst v) H':=
     fun sk v H' h'=>qA hq hz hK is rest sk (pI fr o.dst v) (a.put o.dst v) H' hl' hW' (ha.put o.dst v) (hdp v) (hA.trans (ky.put hWo)) h'
   simp only[Hc]at h
   cases hg:o.guard with
   | none=>
     simp only[hg]at h
     exact yE hq hz ho ha (by simp[Region.wanted,hg]) h fun v H' h'=>next sk v H' h'
   | some g=>
     obtain⟨j,want⟩:=g
     simp only[hg]at h
     cases hjd:(all[j]?).bind (·.dst) with
     | none=>simp only[hjd]at h
     | some d=>
       simp only[hjd]at h
       obtain⟨hy1,T3⟩:=vR ha hjd
       split at h
       · split at h
         · rename_i vs hv
           exact tJ ho (by simp[Region.wanted,hg,T3 _ hv]) (next _ undef H h)
         · exact h.elim
       · unfold hU at h
         split at h
         · rename_i hv
           rw[vV hv (by simp[undef])]at h
           have R0:=hy1 true hv
           cases want
           · simp only[jl,jD]at h
             exact tJ ho (by simp[Region.wanted,hg,R0]) (next _ undef H h)
           · simp only[jO]at h
             exact yE hq hz ho ha (by simp[Region.wanted,hg,R0]) h fun v H' h'=>next sk v H' h'
         · rename_i hv
           rw[vV hv (by simp[undef])]at h
           have R0:=hy1 false hv
           cases want
           · simp only[jl,jD]at h
             exact yE hq hz ho ha (by simp[Region.wanted,hg,R0]) h fun v H' h'=>next sk v H' h'
           · simp only[jO]at h
             exact tJ ho (by simp[Region.wanted,hg,R0]) (next _ undef H h)
         · exact h.elim
theorem uT:∀ (l:List Oper) (sk:List Nat) (fr:Fr) (H:Hp) (K:Fr->Hp->Prop),qq P qf dr q all l sk fr H K->Hc P qf dr q all l sk fr H fun _ fr H=>lC q H (K fr)
 | [],sk,fr,H,K,h=>h
 | o :: rest,sk,fr,H,K,h=>by
  have ih:=uT rest;have e:∀ sk fr H,qq P qf dr q all rest sk fr H K=Hc P qf dr q all rest sk fr H fun _ fr H=>lC q H (K fr):=by
   intro sk fr H;exact propext ⟨ih sk fr H K,BF rest sk fr H K⟩
  simp only[qq,e]at h;simp only[Hc];exact h
where
 BF:∀ (l:List Oper) (sk:List Nat) (fr:Fr) (H:Hp) (K:Fr->Hp->Prop),(Hc P qf dr q all l sk fr H fun _ fr H=>lC q H (K fr))->qq P qf dr q all l sk fr H K
 | [],sk,fr,H,K,h=>h
 | o :: rest,sk,fr,H,K,h=>by
  have e:∀ sk fr H,qq P qf dr q all rest sk fr H K=Hc P qf dr q all rest sk fr H fun _ fr H=>lC q H (K fr):=by
   intro sk fr H;exact propext ⟨uT rest sk fr H K,BF rest sk fr H K⟩
  simp only[Hc]at h;simp only[qq,e];exact h
end
def Q2(ops:Array Oper)(cl:Nat->GO)(ms:List Nat)(k i:Nat):Bool:=(ms.getD i 0).testBit k || uF ops cl k i
def xy(f:Nat->Nat->Bool):List Nat->Bool
 | []=>true
 | x :: l=>l.all (f x) && xy f l
theorem tO{f:Nat->Nat->Bool}:∀ {l:List Nat},xy f l=true->l.Pairwise fun a b=>f a b=true
 | [],_=>List.Pairwise.nil
 | x :: l,h=>by
  simp only[xy,jd,kl]at h;exact LK.2 ⟨h.1,tO h.2⟩
def pick(ops:Array Oper)(l:List Nat):List Oper:=l.filterMap (ops[·]?)
theorem Bd{ops:Array Oper}:∀ {l:List Nat},(∀ x∈l,x<ops.size)->l.map (ops[·]?)=(pick ops l).map some
 | [],_=>rfl
 | x :: l,h=>by
  obtain⟨o,hx⟩:∃ o,ops[x]?=some o:=⟨_,ka (h x eH)⟩;unfold pick;rw[ot,hx];simp only[jb,hx];congr 1;exact Bd fun y hy=>h y (dH _ hy)
theorem xx{ops:Array Oper}{l:List Nat}:∀ d∈ZU (pick ops l),d∈ZU ops.toList:=by
 intro d hd;unfold ZU pick at *;simp only[List.mem_filterMap]at hd ⊢;obtain⟨o,⟨x,_,hx⟩,ho⟩:=hd;exact⟨o,by simpa using Array.mem_of_getElem? hx,ho⟩
section
variable{P:Program}{qf:FuncId->Bool}{r:Option Nat}{ops:Array Oper}{id:Nat}
theorem msk{x y:Nat}(h1:((Yd ops.toList []).getD x 0).testBit y=true):og ops x y:=u6 ops.toList [] (fun j=>by simp) (fun j k hj=>by simp at hj) x y h1
theorem Kd{cl:Nat->GO}{x y:Nat}(h1:Q2 ops cl (Yd ops.toList []) x y=true):Prc ops cl x y:=by
 simp only[Q2,GQ]at h1;rcases h1 with h1 | h1
 ·exact .inl (msk h1)
 ·exact .inr h1
theorem VC{Q:Exit->Ks}{fr:Fr}{a:Act}{w:World}{a':Act}{w':World}(h:∃ kR,At a' kR/\a'.defers=a.defers/\ky (ZU ops.toList) fr kR/\Q .normal kR a.defers w'.heap)(mL:Sm w w'):vK (ZU ops.toList) true Q fr a w .normal a' w':=by
 obtain⟨kR,h1,h2,h3,h4⟩:=h;exact⟨kR,h1,fun _=>h2,h3,by rw[h2];exact h4,mL⟩
end
mutual
inductive OT
 | line (l:List Nat)
 | fork (A:List Nat) (bs:OB)
inductive OB
 | nil
 | cons (i:Nat) (t:OT) (bs:OB)
end
def oJ:OB->List Nat
 | .nil=>[]
 | .cons i _ bs=>i :: oJ bs
section
variable(q:Bool)(P:Program)(ops:Array Oper)(cl:Nat->GO)(K:Act->Hp->Prop)
mutual
def runT:OT->Act->Hp->Prop
 | .line l=>uq q P ops cl K l
 | .fork A bs=>sm q P ops cl A (HC bs)
def HC:OB->Act->Hp->Prop
 | .nil=>fun _ _=>True
 | .cons i t bs=>fun a H=>yW q P ops cl i (runT t) a H/\HC bs a H
end
mutual
def ra:OT->List Nat->(Nat->Prop)->Prop
 | .line l,A,R=>(A++l).Nodup/\(A++l).Pairwise (Prc ops cl)/\∀ x,x∈A++l↔R x
 | .fork B bs,A,R=>(A++B).Nodup/\(A++B).Pairwise (Prc ops cl)/\(∀ x∈A++B,R x)/\(∀ x,R x->x∈A++B\/x∈oJ bs\/∃ h∈oJ bs,og ops x h)/\(∀ h∈oJ bs,R h/\h ∉ A++B)/\(∃ h,h∈oJ bs)/\Al bs (A++B) R
def Al:OB->List Nat->(Nat->Prop)->Prop
 | .nil,_,_=>True
 | .cons i t bs,A,R=>(∀ k∈A,Prc ops cl k i)/\ra t A (fun x=>R x/\x≠i)/\Al bs A R
end
end
section
variable{q:Bool}{P:Program}{ops:Array Oper}{cl:Nat->GO}{K:Act->Hp->Prop}
theorem wo{l1 l2:List Nat}{i x:Nat}(lj:(l1++i :: l2).Nodup):x∈l1++l2↔x∈l1++i :: l2/\x≠i:=by
 rw[jJ]at lj;obtain⟨_,h2,h3⟩:=lj;have h4:=(jo.1 h2).1;have h5:i ∉ l1:=fun hm=>h3 i hm i eH rfl;by_cases hx:x=i
 ·subst hx;simp[h4,h5]
 ·simp[hx]
theorem Ko{R:Nat->Prop}{i j:Nat}:(fun x=>(R x/\x≠i)/\x≠j)=fun x=>(R x/\x≠j)/\x≠i:=by
 funext x;apply propext;constructor<;>rintro⟨⟨a,b⟩,c⟩<;>exact⟨⟨a,c⟩,b⟩
mutual
theorem Ft:∀ (t:OT) {l1 l2:List Nat} {i:Nat} {R:Nat->Prop},ra ops cl t (l1++i :: l2) R->ra ops cl t (l1++l2) (fun x=>R x/\x≠i)
 | .line l,l1,l2,i,R,h=>by
  simp only[ra,jP,sG]at h ⊢;obtain⟨h1,h2,h3⟩:=h;exact⟨h1.sublist (by simp),FW h2,fun x=>by rw[wo h1,h3]⟩
 | .fork B bs,l1,l2,i,R,h=>by
  simp only[ra]at h ⊢;simp only[jP,sG]at h ⊢;obtain⟨h1,h2,h3,h4,h5,hh,h6⟩:=h;refine⟨h1.sublist (by simp),FW h2,fun x hx=>?_,fun x hx=>?_,fun y hy=>?_,hh,?_⟩
  ·rw[wo h1]at hx;exact⟨h3 x hx.1,hx.2⟩
  ·rcases h4 x hx.1 with h7 | h7
   ·exact .inl ((wo h1).2 ⟨h7,hx.2⟩)
   ·exact .inr h7
  ·obtain⟨h7,h8⟩:=h5 y hy;refine⟨⟨h7,fun e=>h8 (by rw[e];simp)⟩,fun hm=>h8 ((wo h1).1 hm).1⟩
  ·exact Fv bs h6
theorem Fv:∀ (bs:OB) {l1 l2:List Nat} {i:Nat} {R:Nat->Prop},Al ops cl bs (l1++i :: l2) R->Al ops cl bs (l1++l2) (fun x=>R x/\x≠i)
 | .nil,_,_,_,_,_=>by simp only[Al]
 | .cons j t bs,l1,l2,i,R,h=>by
  simp only[Al]at h ⊢;obtain⟨h1,h2,h3⟩:=h;refine⟨fun k hk=>h1 k ?_,?_,Fv bs h3⟩
  ·rcases fH.1 hk with h4 | h4
   ·exact jI _ h4
   ·exact km _ (dH _ h4)
  ·have:=Ft t h2;rw[Ko]at this;exact this
end
theorem Fu:∀ (bs:OB) {A:List Nat} {R:Nat->Prop} {i:Nat},Al ops cl bs A R->i∈oJ bs->∃ t,(∀ k∈A,Prc ops cl k i)/\ra ops cl t A (fun x=>R x/\x≠i)/\∀ a H,HC q P ops cl K bs a H->yW q P ops cl i (runT q P ops cl K t) a H
 | .nil,_,_,_,_,hi=>by simp[oJ]at hi
 | .cons j t bs,A,R,i,h,hi=>by
  simp only[Al]at h;obtain⟨h1,h2,h3⟩:=h;simp only[oJ,jg]at hi;by_cases EO:i=j
  ·subst EO;exact⟨t,h1,h2,fun a H hr=>by simp only[HC]at hr;exact hr.1⟩
  ·obtain⟨t',q1,q2,q3⟩:=Fu bs h3 (hi.resolve_left EO);exact⟨t',q1,q2,fun a H hr=>q3 a H (by simp only[HC]at hr;exact hr.2)⟩
variable{r:Option Nat}{Q:Exit->Act->World->Prop}{w₀:World}
theorem TS(hn:oB ops=true)(hE:C6 ops=true)(hQ:∀ a w,K a w.heap->Sm w₀ w->Q .normal a w):∀ (n:Nat) (R:List Nat) (t:OT) (A:List Nat) (jw:Array Bool) (a:Act) (H:Hp) (w:World),
     R.length=n->R.Nodup->ra ops cl t A (·∈R)->jw.size=ops.size->(∀ i,i∈R↔i<ops.size/\jw.getD i false=false) ->
     (∀ j oj,ops[j]?=some oj->jw.getD j false=true->∀ e∈oj.after,Region.binds .any e=true->jw.getD e.on false=true) ->
     Ex q H w.heap->Sm w₀ w->sm q P ops cl A (runT q P ops cl K t) a H->wpAnyIn (Z5 r) 0 P .any ops Q n jw a w:=by
 intro n
 induction n with
 | zero=>?_
 | succ n ih=>?_
 all_goals
   intro R t A jw a H w hlen lj hV lH hl lI hx mL h
   cases t with
   | line l=>?_
   | fork B bs=>?_
 case zero.line | succ.line=>
   simp only[ra]at hV
   obtain⟨h1,h2,h3⟩:=hV
   have MW:(A++l).length=R.length:=(List.Perm.length_eq ((List.perm_ext_iff_of_nodup h1 lj).2 h3))
   simp only[runT]at h
   rw[hlen]at MW
   refine(fun hw=>by rw[MW]at hw;exact hw:wpAnyIn (Z5 r) 0 P .any ops Q (A++l).length jw a w->_) ?_
   refine Xx hn hE hQ (A++l) jw a H w h1 h2 lH (fun i=>by rw[h3,hl]) lI hx mL ?_
   rw[xp]
   rw[show uq q P ops cl K l=_ from xp l]at h
   exact vY _ _ _ _ h
 case zero.fork=>
   have hR:R=[]:=jz hlen
   subst hR
   simp only[ra]at hV
   obtain⟨h1,h2,h3,h4,h5,⟨x,hx⟩,h6⟩:=hV
   have:=(h5 x hx).1
   simp at this
 case succ.fork=>
   simp only[ra]at hV
   obtain⟨h1,h2,h3,h4,h5,hh,h6⟩:=hV
   simp only[runT]at h
   have h:=vY _ _ _ _ h
   refine⟨fun hr=>(by have:=Ml hE lH hl hr;rw[this]at hlen;cases hlen),fun i hi=>?_⟩
   have Se:=FU lH hl hi
   obtain⟨_,oi,Og,mc⟩:=mem_ready.1 hi
   have kc:i<ops.size:=(kQ.1 Og).1
   have not:∀ k∈R,¬ og ops i k:=fun k hk hw=>by
     have h2:=hw.jw lI fun o ho e he hb=>by rw[Og]at ho;cases ho;exact mc e he hb
     rw[((hl k).1 hk).2]at h2;cases h2
   obtain⟨r1,r2,rfl⟩:=List.append_of_mem Se
   have hR:(fun x=>x∈r1++i :: r2/\x≠i)=fun x=>x∈r1++r2:=by
     funext x;exact propext (wo lj).symm
   have go:∀ {t':OT} {A':List Nat},ra ops cl t' A' (fun x=>x∈r1++i :: r2/\x≠i)->yW q P ops cl i (sm q P ops cl A' (runT q P ops cl K t')) a H->wpOpIn (Z5 r) 0 P ops Q i (fun a w=>wpAnyIn (Z5 r) 0 P .any ops Q n (jw.setIfInBounds i true) a w) a w:=by
     intro t' A' hV' hs
     rw[hR]at hV'
     refine yK hn hx hs fun a' H' w' hr AQ vn=>?_
     exact ih (r1++r2) t' A' (jw.setIfInBounds i true) a' H' w' (by simp at hlen ⊢;omega) (lj.sublist (by simp)) hV' (by simp[lH]) (Ax lH kc lj hl) (AI lH hi lI) AQ (mL.trans vn) hr
   have free:∀ k∈A++B,jw.getD k false=false:=fun k hk=>((hl k).1 (h3 k hk)).2
   rcases h4 i Se with h7 | h7 | ⟨hd,h7,h8⟩
   · obtain⟨l1,l2,he⟩:=List.append_of_mem h7
     rw[he]at h h1 h2 h3 h4 h5 h6 free
     have hp:=tL hn l1 a H (Qk (fun k hk=>free k (jI _ hk)) hi lI (Mn h2)) h
     refine go (t':=.fork (l1++l2) bs) (A':=[]) ?_ hp
     have hT:ra ops cl (.fork [] bs) (l1++i :: l2) (·∈r1++i :: r2):=by
       simp only[ra,jY]
       exact⟨h1,h2,h3,h4,h5,hh,h6⟩
     have:=Ft _ hT
     simp only[ra,jY,List.nil_append]at this ⊢
     exact this
   · obtain⟨t',q1,q2,q3⟩:=Fu (q:=q) (P:=P) (K:=K) bs h6 h7
     have h8:sm q P ops cl ((A++B)++i :: []) (runT q P ops cl K t') a H:=vY _ _ _ _ (Ep (fun a H hr=>q3 a H hr) _ a H h)
     have hp:=tL hn (A++B) a H (Qk free hi lI q1) h8
     rw[jY]at hp
     exact go q2 hp
   · exact absurd h8 (not hd (h5 hd h7).1)
def abQ(l:List Nat):Bool:=xy (fun a b=>!(Nat.beq a b)) l
theorem MA{l:List Nat}(h:abQ l=true):l.Nodup:=(tO h).imp fun {a b} II e=>by subst e;simp at II
mutual
def He(ops:Array Oper)(cl:Nat->GO)(ms:List Nat):OT->List Nat->List Nat->Bool
 | .line l,A,R=>abQ (A++l) && xy (Q2 ops cl ms) (A++l) && (A++l).all (R.contains ·) && R.all ((A++l).contains ·)
 | .fork B bs,A,R=>abQ (A++B) && xy (Q2 ops cl ms) (A++B) && (A++B).all (R.contains ·) && R.all (fun x=>(A++B).contains x || (oJ bs).contains x || (oJ bs).any fun h=>(ms.getD x 0).testBit h) &&
  (oJ bs).all (fun h=>R.contains h && !(A++B).contains h) && !(oJ bs).isEmpty && LR ops cl ms bs (A++B) R
def LR(ops:Array Oper)(cl:Nat->GO)(ms:List Nat):OB->List Nat->List Nat->Bool
 | .nil,_,_=>true
 | .cons i t bs,A,R=>A.all (fun k=>Q2 ops cl ms k i) && He ops cl ms t A (R.filter fun x=>!(Nat.beq x i)) && LR ops cl ms bs A R
end
theorem OC(R:List Nat)(i:Nat):(·∈R.filter fun x=>!(Nat.beq x i))=fun x=>x∈R/\x≠i:=by
 funext x;apply propext;rw[GP];constructor
 ·rintro⟨h1,h2⟩;exact⟨h1,fun e=>by subst e;simp at h2⟩
 ·rintro⟨h1,h2⟩;refine⟨h1,?_⟩;cases hb:Nat.beq x i with
  | false=>rfl
  | true=>exact absurd (Nat.eq_of_beq_eq_true hb) h2
mutual
theorem Hd{ms:List Nat}(T8:ms=Yd ops.toList []):∀ (t:OT) {A R:List Nat},He ops cl ms t A R=true->ra ops cl t A (·∈R)
 | .line l,A,R,h=>by
  simp only[He,jd,kl,List.contains_iff_mem]at h;simp only[ra];obtain⟨⟨⟨h1,h2⟩,h3⟩,h4⟩:=h;subst T8;exact⟨MA h1,(tO h2).imp Kd,fun x=>⟨fun hx=>h3 x hx,fun hx=>h4 x hx⟩⟩
 | .fork B bs,A,R,h=>by
  simp only[He,jd,kl,List.contains_iff_mem,GQ,List.any_eq_true,Bool.not_eq_true']at h;simp only[ra];obtain⟨⟨⟨⟨⟨⟨h1,h2⟩,h3⟩,h4⟩,h5⟩,h6⟩,h7⟩:=h;refine⟨MA h1,?_,fun x hx=>h3 x hx,fun x hx=>?_,fun x hx=>⟨(h5 x hx).1,fun hm=>?_⟩,?_,Hf T8 bs h7⟩
  ·subst T8;exact(tO h2).imp Kd
  ·rcases h4 x hx with (h8 | h8) | ⟨y,h8,h9⟩
   ·exact .inl h8
   ·exact .inr (.inl h8)
   ·subst T8;exact .inr (.inr ⟨y,h8,msk h9⟩)
  ·have:=(h5 x hx).2;have h9:(A++B).contains x=true:=List.contains_iff_mem.2 hm;rw[h9]at this;cases this
  ·cases hh:oJ bs with
   | nil=>rw[hh]at h6;cases h6
   | cons x l=>exact⟨x,eH⟩
theorem Hf{ms:List Nat}(T8:ms=Yd ops.toList []):∀ (bs:OB) {A R:List Nat},LR ops cl ms bs A R=true->Al ops cl bs A (·∈R)
 | .nil,_,_,_=>by simp only[Al]
 | .cons i t bs,A,R,h=>by
  simp only[LR,jd,kl]at h;simp only[Al];obtain⟨⟨h1,h2⟩,h3⟩:=h;refine⟨fun k hk=>?_,?_,Hf T8 bs h3⟩
  ·have:=h1 k hk;subst T8;exact Kd this
  ·have:=Hd T8 t h2;rw[OC]at this;exact this
end
def Qh(ops:Array Oper)(cl:Nat->GO)(t:OT):Bool:=oB ops && C6 ops && He ops cl (Yd ops.toList []) t [] (List.range ops.size)
end
section
variable(P:Program)(qf:FuncId->Bool)(ops:Array Oper)(K:Fr->Hp->Prop)
mutual
def vcT:OT->List Nat->Fr->Hp->Prop
 | .line l=>fun sk fr H=>qq P qf true true ops (pick ops l) sk fr H K
 | .fork A bs=>fun sk fr H=>Hc P qf true true ops (pick ops A) sk fr H (vcB bs)
def vcB:OB->List Nat->Fr->Hp->Prop
 | .nil=>fun _ _ _=>True
 | .cons i t bs=>fun sk fr H=>Hc P qf true true ops (pick ops [i]) sk fr H (vcT t)/\vcB bs sk fr H
end
end
section
variable{P:Program}{qf:FuncId->Bool}{ops:Array Oper}{r:Option Nat}{id:Nat}
mutual
theorem Aq{fr₀:Fr}{ds:List Deferred}{Kv:Fr->Hp->Prop}:∀ (t:OT) {A:List Nat} {R:Nat->Prop} {cl:Nat->GO},ra ops cl t A R->(∀ x,R x->x<ops.size)->∀ {sk:List Nat} {fr:Fr} {a:Act} {H:Hp},At a fr->a.defers=ds->ky (ZU ops.toList) fr₀ fr->vcT P qf ops Kv t sk fr H ->
   runT true P ops (uC P qf true true ops) (fun a' H'=>∃ kR,At a' kR/\a'.defers=ds/\ky (ZU ops.toList) fr₀ kR/\Kv kR H') t a H
 | .line l,A,R,cl,hV,hR,sk,fr,a,H,h1,h2,h3,h=>by
   simp only[ra]at hV
   simp only[vcT]at h
   simp only[runT]
   rw[show uq true P ops (uC P qf true true ops) _ l=_ from xp l]
   exact qA (P:=P) (qf:=qf) (dr:=true) (q:=true) (all:=ops) (fz:=true) (ds:=ds) (W:=ZU ops.toList) (fr₀:=fr₀) (fun h=>by cases h) (fun _=>rfl) (fun sk fr a H p1 p2 p3 p4 H' hx=>⟨fr,p1,p2,p3,p4 H' hx⟩) l _ sk fr a H (Bd fun x hx=>hR x ((hV.2.2 x).1 (km _ hx))) (fun d hd=>xx d hd) h1 h2 h3 (uT _ _ _ _ _ h)
 | .fork B bs,A,R,cl,hV,hR,sk,fr,a,H,h1,h2,h3,h=>by
   simp only[ra]at hV
   simp only[vcT]at h
   simp only[runT]
   exact qA (K:=vcB P qf ops Kv bs) (P:=P) (qf:=qf) (dr:=true) (q:=true) (all:=ops) (fz:=true) (ds:=ds) (W:=ZU ops.toList) (fr₀:=fr₀) (fun h=>by cases h) (fun _=>rfl) (fun sk fr a H p1 p2 p3 p4=>Ar bs hV.2.2.2.2.2.2 hR (fun x hx=>(hV.2.2.2.2.1 x hx).1) p1 p2 p3 p4) B _ sk fr a H (Bd fun x hx=>hR x (hV.2.2.1 x (km _ hx))) (fun d hd=>xx d hd) h1 h2 h3 h
theorem Ar{fr₀:Fr}{ds:List Deferred}{Kv:Fr->Hp->Prop}:∀ (bs:OB) {A:List Nat} {R:Nat->Prop} {cl:Nat->GO},Al ops cl bs A R->(∀ x,R x->x<ops.size)->(∀ x∈oJ bs,R x)->∀ {sk:List Nat} {fr:Fr} {a:Act} {H:Hp},At a fr->a.defers=ds->ky (ZU ops.toList) fr₀ fr->vcB P qf ops Kv bs sk fr H ->
   HC true P ops (uC P qf true true ops) (fun a' H'=>∃ kR,At a' kR/\a'.defers=ds/\ky (ZU ops.toList) fr₀ kR/\Kv kR H') bs a H
 | .nil,_,_,_,_,_,_,_,_,_,_,_,_,_,_=>by simp only[HC]
 | .cons i t bs,A,R,cl,hV,hR,hh,sk,fr,a,H,h1,h2,h3,h=>by
   simp only[Al]at hV
   simp only[vcB]at h
   simp only[HC]
   refine⟨?_,Ar bs hV.2.2 hR (fun x hx=>hh x (by simp only[oJ];exact dH _ hx)) h1 h2 h3 h.2⟩
   exact qA (K:=vcT P qf ops Kv t) (P:=P) (qf:=qf) (dr:=true) (q:=true) (all:=ops) (fz:=true) (ds:=ds) (W:=ZU ops.toList) (fr₀:=fr₀) (fun h=>by cases h) (fun _=>rfl) (fun sk fr a H p1 p2 p3 p4=>Aq t hV.2.1 (fun x hx=>hR x hx.1) p1 p2 p3 p4) [i] _ sk fr a H (Bd fun x hx=>by
     rw[eU]at hx;subst hx
     exact hR x (hh x (by simp[oJ]))) (fun d hd=>xx d hd) h1 h2 h3 h.1
end
theorem JT{t:OT}(hm:P.follows .mixedOrders=true)(hB:Qh ops (uC P qf true true ops) t=true){Q:Exit->Ks}{fr:Fr}{a:Act}{w:World}(ha:At a fr)(h:vcT P qf ops (fun kR H'=>Q .normal kR a.defers H') t [] fr w.heap) :
   (Code.region id ops true).wpIn (Z5 r) 0 P (vK (ZU ops.toList) true Q fr a w) a w:=by
 simp only[Qh,jd]at hB
 obtain⟨⟨hn,hE⟩,hV⟩:=hB
 have hV:=Hd rfl t hV
 have vo:=Aq t hV (fun x hx=>ki.1 hx) (fr₀:=fr) (ds:=a.defers) ha rfl (ky.refl _ _) h
 refine wpIn_region_any hm ?_
 refine TS (cl:=uC P qf true true ops) (q:=true) (w₀:=w) hn hE (fun a' w' hk mL=>VC hk mL) ops.size (List.range ops.size) t [] _ a w.heap _ List.length_range List.nodup_range hV (by simp) (fun j=>?_) (fun j oj hj JJ=>?_) (Ex.refl true _) ⟨rfl,rfl,rfl⟩ vo
 · rw[ki]
   simp only[JD,kX]
   constructor
   · intro hi;exact⟨hi,by rw[aU hi];rfl⟩
   · exact fun h=>h.1
 · simp only[JD,kX]at JJ
   split at JJ<;>cases JJ
end
def Q6:List (Nat × OT)->Nat->Option OT
 | [],_=>none
 | (i,t) :: l,k=>match Nat.beq i k with
  | true=>some t
  | false=>Q6 l k
def JQ(P:Program)(qf:FuncId->Bool)(pl:List (Nat × OT))(id:Nat)(ops:Array Oper)(dr:Bool)(fr:Fr)(H:Hp)(K:Fr->Hp->Prop):Prop:=
 match Q6 pl id with
 | none=>Hb P qf ops dr fr H K
 | some t=>if dr && (P.follows .mixedOrders && Qh ops (uC P qf true true ops) t) then vcT P qf ops K t [] fr H else False
def sO(P:Program)(qf:FuncId->Bool)(pl:List (Nat × OT)):(top:Bool)->Code->BC->(Exit->Ks)->Ks
 | _,.skip,_,Q,fr,ds,H=>Q .normal fr ds H
 | _,.label _,_,Q,fr,ds,H=>Q .normal fr ds H
 | _,.ret,_,Q,fr,ds,H=>Q .ret fr ds H
 | _,.exit id,_,Q,fr,ds,H=>Q (.exit id) fr ds H
 | _,.region id ops dr,_,Q,fr,ds,H=>JQ P qf pl id ops dr fr H fun kR H'=>Q .normal kR ds H'
 | top,.seq a b,lW,Q,fr,ds,H=>
  match lW with
  | .join L J l r=>
   if DM (Z7 a) (L++J) && ZP a then
    Zg (fun s H=>Any fun j=>sO P qf pl top b r Q (lay L s (oU J j fr)) ds H) fun K=>sO P qf pl top a l (FH (fun kR _ H'=>K (qP kR L) H') Q) fr ds H
   else False
  | .seq l r=>sO P qf pl top a l (FH (sO P qf pl top b r Q) Q) fr ds H
  | _=>sO P qf pl top a .nil (FH (sO P qf pl top b .nil Q) Q) fr ds H
 | top,.cond c a b,lW,Q,fr,ds,H=>
  match lW with
  | .cond l r=>hU (ev fr c) (sO P qf pl top a l Q fr ds H) (sO P qf pl top b r Q fr ds H)
  | _=>hU (ev fr c) (sO P qf pl top a .nil Q fr ds H) (sO P qf pl top b .nil Q fr ds H)
 | top,.block id c,lW,Q,fr,ds,H=>sO P qf pl top c lW (kC id Q) fr ds H
 | top,.scope c,lW,Q,fr,ds,H=>sO P qf pl top c lW (scp Q) fr ds H
 | top,.loop c,lW,Q,fr,ds,H=>
  match lW with
  | .loop L J b=>
   if DM (Z7 c) (L++J) && ZP c then
    zF (qP fr L) H fun K s H=>Any fun j=>sO P qf pl top c b (FH (fun kR _ H'=>K (qP kR L) H') Q) (lay L s (oU J j fr)) ds H
   else False
  | _=>False
 | true,.rangeFunc g ps x y,lW,Q,fr,ds,H=>
  match lW with
  | .seq l r=>LG P (ev fr g) ps.size H
   (fun s H2 B K=>sO P qf pl false x l (Xw B (sO P qf pl false y r (Vu K))) (ny fr (ps.toList.zip (DK ps.size s))) [] H2)
   (fun j D H'=>onJ j (Q .normal fr (uI D :: ds) H') (Q .ret fr (uI D :: ds) H') fun id=>Q (.exit id) fr (uI D :: ds) H')
  | _=>False
 | _,_,_,_,_,_,_=>False
section
variable{P:Program}{qf:FuncId->Bool}{pl:List (Nat × OT)}{r:Option Nat}
theorem DO{ops:Array Oper}{dr:Bool}{id:Nat}{Q:Exit->Ks}{fr:Fr}{a:Act}{w:World}(ha:At a fr)(h:JQ P qf pl id ops dr fr w.heap fun kR H'=>Q .normal kR a.defers H') :
   (Code.region id ops dr).wpIn (Z5 r) 0 P (vK (ZU ops.toList) true Q fr a w) a w:=by
 unfold JQ at h
 split at h
 · exact ry ha h
 · split at h
   · rename_i hB
     simp only[jd]at hB
     obtain⟨h1,h2,h3⟩:=hB
     subst h1
     exact JT h2 h3 ha h
   · exact h.elim
theorem Ek:∀ (c:Code) (top:Bool) (r:Option Nat) (lW:BC) (Q:Exit->Ks) (fr:Fr) (a:Act) (w:World),(top=true->r=none)->At a fr->sO P qf pl top c lW Q fr a.defers w.heap ->
   c.wpIn (Z5 r) 0 P (vK (Z7 c) (ZP c) Q fr a w) a w:=by
 intro c
 induction c with
 | skip=>intro top r lW Q fr a w ht ha h;cases top<;>exact wpIn_skip ⟨fr,ha,fun _=>rfl,ky.refl _ _,h,Sm.refl w⟩
 | label l=>intro top r lW Q fr a w ht ha h;cases top<;>exact wpIn_label ⟨fr,ha,fun _=>rfl,ky.refl _ _,h,Sm.refl w⟩
 | ret=>intro top r lW Q fr a w ht ha h;cases top<;>exact wpIn_ret ⟨fr,ha,fun _=>rfl,ky.refl _ _,h,Sm.refl w⟩
 | exit id=>intro top r lW Q fr a w ht ha h;cases top<;>exact wpIn_exit ⟨fr,ha,fun _=>rfl,ky.refl _ _,h,Sm.refl w⟩
 | region id ops dr=>intro top r lW Q fr a w ht ha h;cases top<;>exact DO ha h
 | block id c ih=>
   intro top r lW Q fr a w ht ha h
   have h':sO P qf pl top c lW (kC id Q) fr a.defers w.heap:=by cases top<;>exact h
   refine wpIn_block (wpIn_mono (ih top r lW (kC id Q) fr a w ht ha h') fun e a' w' hp=>?_)
   cases e<;>try exact hp
   rename_i k
   simp only[Exit.inBlock]
   split
   · rename_i hk
     obtain⟨kR,h1,h2,h3,h4,h5⟩:=hp
     simp only[kC,isX,hk,jO]at h4
     exact⟨kR,h1,h2,h3,h4,h5⟩
   · rename_i hk
     obtain⟨kR,h1,h2,h3,h4,h5⟩:=hp
     simp only[kC,isX,hk,jD]at h4
     exact⟨kR,h1,h2,h3,h4,h5⟩
 | cond c x y RX RW=>
   intro top r lW Q fr a w ht ha h
   have key:∃ l r',hU (ev fr c) (sO P qf pl top x l Q fr a.defers w.heap) (sO P qf pl top y r' Q fr a.defers w.heap):=by
     cases top<;>(unfold sO at h;split at h)<;>exact⟨_,_,h⟩
   obtain⟨l,r',h⟩:=key
   unfold hU at h
   have n1:ZP (.cond c x y)=true->ZP x=true:=fun h=>by simp only[ZP,jd]at h;exact h.1
   have n2:ZP (.cond c x y)=true->ZP y=true:=fun h=>by simp only[ZP,jd]at h;exact h.2
   split at h
   · rename_i hc
     refine wpIn_cond_true (by rw[ha.ev];exact hc) (wpIn_mono (RX top r l Q fr a w ht ha h) fun e a' w' hp=>hp.mono (fun k hk=>jI _ hk) n1 fun _ _ _ h=>h)
   · rename_i hc
     refine wpIn_cond_false (by rw[ha.ev];exact hc) (wpIn_mono (RW top r r' Q fr a w ht ha h) fun e a' w' hp=>hp.mono (fun k hk=>km _ hk) n2 fun _ _ _ h=>h)
   · exact h.elim
 | seq x y RX RW=>
   intro top r lW Q fr a w ht ha h
   have n1:ZP (.seq x y)=true->ZP x=true:=fun h=>by simp only[ZP,jd]at h;exact h.1
   have n2:ZP (.seq x y)=true->ZP y=true:=fun h=>by simp only[ZP,jd]at h;exact h.2
   have fin:∀ (l:BC) (K:Ks),sO P qf pl top x l (FH K Q) fr a.defers w.heap->(∀ kR a' w',At a' kR->(ZP x=true->a'.defers=a.defers)->ky (Z7 x) fr kR->K kR a'.defers w'.heap->Sm w w'->∃ r',sO P qf pl top y r' Q kR a'.defers w'.heap) ->
       (Code.seq x y).wpIn (Z5 r) 0 P (vK (Z7 (.seq x y)) (ZP (.seq x y)) Q fr a w) a w:=by
     intro l K hx hk
     refine wpIn_seq (wpIn_mono (RX top r l (FH K Q) fr a w ht ha hx) fun e a' w' hp=>?_)
     cases e<;>try exact hp.mono (fun k hk=>jI _ hk) n1 fun _ _ _ h=>h
     obtain⟨kR,h1,h2,h3,h4,h5⟩:=hp
     obtain⟨r',h6⟩:=hk kR a' w' h1 h2 h3 h4 h5
     exact wpIn_mono (RW top r r' Q kR a' w' ht h1 h6) fun e a'' w'' hp=>(hp.mono (fun k hk=>km _ hk) n2 fun _ _ _ h=>h).trans (fun h=>h2 (n1 h)) (h3.mono fun k hk=>jI _ hk) h5
   have key:(∃ L J l r',lW=.join L J l r'/\(DM (Z7 x) (L++J) && ZP x)=true/\Zg (fun s H=>Any fun j=>sO P qf pl top y r' Q (lay L s (oU J j fr)) a.defers H) fun K=>sO P qf pl top x l (FH (fun kR _ H'=>K (qP kR L) H') Q) fr a.defers w.heap) \/
       ∃ l r',sO P qf pl top x l (FH (sO P qf pl top y r' Q) Q) fr a.defers w.heap:=by
     cases top<;>(unfold sO at h;split at h)
     · rename_i L J l r'
       split at h
       · rename_i hs;exact .inl ⟨L,J,l,r',rfl,hs,h⟩
       · exact h.elim
     · exact .inr ⟨_,_,h⟩
     · exact .inr ⟨_,_,h⟩
     · rename_i L J l r'
       split at h
       · rename_i hs;exact .inl ⟨L,J,l,r',rfl,hs,h⟩
       · exact h.elim
     · exact .inr ⟨_,_,h⟩
     · exact .inr ⟨_,_,h⟩
   rcases key with ⟨L,J,l,r',_,hs,K,hr,hf⟩ | ⟨l,r',h⟩
   · simp only[jd]at hs
     refine fin l _ hf fun kR a' w' h1 h2 h3 h4 h5=>⟨r',?_⟩
     have:=hr _ _ h4 (slot kR)
     simp only[wy h3 hs.1]at this
     rw[h2 hs.2]
     exact this
   · exact fin _ _ h fun kR a' w' h1 h2 h3 h4 h5=>⟨_,h4⟩
 | loop c ih=>
   intro top r lW Q fr a w ht ha h
   have key:∃ L J b,(DM (Z7 c) (L++J) && ZP c)=true/\zF (qP fr L) w.heap fun K s H=>Any fun j=>sO P qf pl top c b (FH (fun kR _ H'=>K (qP kR L) H') Q) (lay L s (oU J j fr)) a.defers H:=by
     cases top<;>(unfold sO at h;split at h)
     · split at h
       · rename_i hs;exact⟨_,_,_,hs,h⟩
       · exact h.elim
     · exact h.elim
     · split at h
       · rename_i hs;exact⟨_,_,_,hs,h⟩
       · exact h.elim
     · exact h.elim
   obtain⟨L,J,b,hs,I,μ,h0,vp⟩:=key
   simp only[jd]at hs
   refine wpIn_loop (fun a' w'=>∃ kR,At a' kR/\a'.defers=a.defers/\ky (Z7 c) fr kR/\I (qP kR L) w'.heap/\Sm w w') (fun a' w'=>μ (qP a'.tmps.toList L) w'.heap) ⟨fr,ha,rfl,ky.refl _ _,h0,Sm.refl w⟩ ?_
   rintro a' w' ⟨kR,h1,h2,h3,h4,h5⟩
   have hr:=vp _ _ h4 (slot kR)
   simp only[wy h3 hs.1]at hr
   rw[<- h2]at hr
   refine wpIn_mono (ih top r b _ kR a' w' ht h1 hr) fun e a'' w'' hp=>?_
   have T7:=hp.trans (fun _=>h2) h3 h5
   cases e<;>try exact T7
   obtain⟨KU,k1,k2,k3,k4,k5⟩:=T7
   have e1:a'.tmps.toList=kR:=by rw[show a'.tmps=kR.toArray from h1]
   have e2:a''.tmps.toList=KU:=by rw[show a''.tmps=KU.toArray from k1]
   refine⟨⟨KU,k1,k2 hs.2,k3,k4.1,k5⟩,?_⟩
   rw[e1,e2]
   exact k4.2
 | scope c ih=>
   intro top r lW Q fr a w ht ha h
   have h':sO P qf pl top c lW (scp Q) fr a.defers w.heap:=by cases top<;>exact h
   refine BE (wpIn_mono (ih top r lW (scp Q) fr a w ht ha h') fun e a' w' hp=>?_)
   cases e<;>try exact hp
   obtain⟨kR,h1,h2,h3,h4,h5⟩:=hp
   exact h4.elim
 | goto l=>intro top r lW Q fr a w ht ha h;cases top<;>exact h.elim
 | refuse why=>intro top r lW Q fr a w ht ha h;cases top<;>exact h.elim
 | rangeFunc g ps x y RX RW=>
   intro top r lW Q fr a w ht ha h
   cases top with
   | false=>exact h.elim
   | true=>
     have hr:=ht rfl
     subst hr
     unfold sO at h
     split at h
     · rename_i l r'
       obtain⟨⟨f,first,cap,hg⟩,h⟩:=h
       have hga:a.eval g=.func (.func f) first cap:=by rw[ha.ev];exact hg
       refine wpIn_rangeFunc fun fn _=>?_
       let rz:Loop:={ state:=.ready,pending:=none,fn:=fn,tmps:=a.tmps,params:=ps,assign:=x,body:=y,defers:=w.heap.size }
       let H1:Hp:=(w.heap.push (.deferred (some []))).push (.loop rz)
       let w1:World:={ w with heap:=H1 }
       have X1:H1.size=w.heap.size+2:=by simp[H1]
       have hlp:xc rz (w.heap.size+1) .ready none H1:=by
         show H1[w.heap.size+1]?=_
         simp only[H1]
         rw[ou,aU (by simp)];rfl
       have hdf:H1[w.heap.size]?=some (.deferred (some [])):=by
         simp only[H1]
         rw[ou,aH (by simp),ou,aU rfl]
       have IH:=h rz (w.heap.size+1) w.heap.size (.func (.yield (w.heap.size+1)) #[] #[]) H1 ((Ext.push _ _).trans (Ext.push _ _)) (iU _) (by omega) (by omega) hdf hlp (by
         intro s H2 K hl2 vp
         unfold om
         simp only
         unfold Yld
         rw[show H2[w.heap.size+1]?=_ from hl2]
         simp only
         refine⟨by simp[rz,BI],?_⟩
         intro w2 T6
         subst T6
         refine roundIn_of_wpIn (F:=Z5 none) (n:=0) trivial ?_
         have WG:At { tmps:=((ps.zip (DK ps.size s).toArray).foldl (fun tmps (x:Nat × Value)=>tmps.setIfInBounds x.1 x.2) a.tmps),defers:=[] } (ny fr (ps.toList.zip (DK ps.size s))):=by
           have vM:a.tmps=fr.toArray:=ha
           show _=_
           simp only
           rw[<- FP,vM,<- Array.foldl_toList]
           simp
         have hA:=RX false (some (w.heap.size+1)) l _ _ _ w2 (fun e=>by cases e) WG vp
         refine wpIn_mono hA fun e a1 w3 hp=>?_
         obtain⟨uN,k1,k2,_,k4,k5⟩:=hp
         cases e<;>simp only[Xw]at k4<;>try exact k4.elim
         obtain⟨hl3,Sz⟩:=k4
         refine⟨_,Jv hl3,?_⟩
         have hB:=RW false (some (w.heap.size+1)) r' _ uN a1 { w3 with heap:=rZ rz (w.heap.size+1) .busy none w3.heap } (fun e=>by cases e) k1 Sz
         refine wpIn_mono hB fun e a2 w4 hp=>?_
         obtain⟨fr2,j1,j2,_,j4,j5⟩:=hp
         have mL:Sm w2 w4:=k5.trans ⟨j5.os,j5.out,j5.tape⟩
         have fin:∀ j:PC,(xc rz (w.heap.size+1) .busy none w4.heap/\K (.bool j.isNone) (rZ rz (w.heap.size+1) (if j.isNone then .ready else .done) j w4.heap)) ->
             ∃ v w',(Instr.endRound (w.heap.size+1) (Y2 j)).run P w4=.ok v w'/\∃ v',Ending.returned v=.returned v'/\K v' w'.heap/\Sm w2 w':=fun j hj=>
           ⟨_,_,SX hj.1,_,rfl,hj.2,mL.trans ⟨rfl,rfl,rfl⟩⟩
         cases e<;>simp only[Vu]at j4<;>try exact j4.elim
         · exact fin none j4
         · exact fin (some (some _)) j4
         · exact fin (some none) j4)
       rw[hg]at IH
       obtain⟨xM,Wy⟩:=IH
       refine⟨w.heap.size+1,[uI w.heap.size],w1,{ target:=.fn (.func f) cap,args:=first++#[.func (.yield (w.heap.size+1)) #[] #[]] },w1,f,(first++#[.func (.yield (w.heap.size+1)) #[] #[]])++cap,w1,?_,?_,fun _ _=>trivial,?_,fun h=>by simp[Z5,Fence.wide]at h,?_⟩
       · simp[Instr.enterLoop,newObj,Z5,Sem.run,uI,w1,H1,rz]
         rfl
       · unfold resolve
         simp only[rangeCall,hga]
         simp[Deferred.ofValue,Act.eval]
       · have:=tg xM ((first++#[.func (.yield (w.heap.size+1)) #[] #[]])++cap) w1
         simpa[invoke]using this
       · have e1:((first.toList++#[Value.func (.yield (w.heap.size+1)) #[] #[]].toList)++cap.toList).toArray=(first++#[.func (.yield (w.heap.size+1)) #[] #[]])++cap:=by simp
         rw[e1]at Wy
         refine CallsIn.mono (Wy w1 rfl) fun e w5 ⟨v,he,R4,mL⟩=>?_
         subst he
         obtain⟨st,j,kH,acQ,vu⟩:=R4
         refine⟨_,_,C1 kH acQ,?_⟩
         have vn:Sm w { w5 with heap:=rZ rz (w.heap.size+1) .exhausted j w5.heap }:=⟨mL.os,mL.out,mL.tape⟩
         match j,vu with
         | none,vu=>exact⟨fr,ha,fun h=>(by cases h),ky.refl _ _,vu,vn⟩
         | some none,vu=>exact wpIn_ret ⟨fr,ha,fun h=>(by cases h),ky.refl _ _,vu,vn⟩
         | some (some id),vu=>exact wpIn_exit ⟨fr,ha,fun h=>(by cases h),ky.refl _ _,vu,vn⟩
     · exact h.elim
end
def aaK(P:Program)(qf:FuncId->Bool)(pl:List (Nat × OT))(fn:Func)(lW:BC)(args:List Value)(H:Hp)(R:Value->Hp->Prop):Prop:=
 match fn.body with
 | none=>False
 | some c=>sO P qf pl true c lW (QU P fn R) (B6 args fn.ntmps) [] H
section
variable{P:Program}{qf:FuncId->Bool}
theorem ZM{f:FuncId}{fn:Func}(qf:FuncId->Bool)(pl:List (Nat × OT))(lW:BC)(hf:P.funcs[f]?=some fn){args:List Value}{H:Hp}{R:Value->Hp->Prop}(h:aaK P qf pl fn lW args H R):Fc P f args.toArray H R:=by
 intro w hw;subst hw;unfold aaK at h;cases hb:fn.body with
 | none=>simp only[hb]at h
 | some c=>
  simp only[hb]at h;refine callsIn_of_wp_marks hf hb trivial ?_ rfl;have ha:At { tmps:=args.toArray++Array.replicate (fn.ntmps - args.toArray.size) undef,defers:=[] } (B6 args fn.ntmps):=by
   simp[At,B6]
  refine wpIn_mono (Ek c true none lW _ _ _ w (fun _=>rfl) ha h) fun e a' w' hp=>?_;obtain⟨kR,h1,h2,_,h4,h5⟩:=hp;have ht:a'.tmps.toList=kR:=by rw[show a'.tmps=kR.toArray from h1]
  have fin:Fs a'.defers w'.heap (fun H'=>PR P fn.results.toList kR H' R)->LeavesInM (Z5 none) 0 P fn a'.tmps (fun e w'=>∃ v,e=.returned v/\R v w'.heap/\Sm w w') a'.defers .returning w':=fun h=>by
   refine Gv a'.defers w' h5 (fun w2 hs hr=>?_) (by rw[ht];exact h);rw[ht]at hr;obtain⟨v,hv,hR⟩:=ru h1 hr;exact⟨v,hv,v,rfl,hR,hs⟩
  cases e<;>simp only[QU]at h4<;>try exact h4.elim
  ·exact fin h4
  ·exact fin h4
end
def G0(P:Program)(f:FuncId)(args:Array Value)(H:Hp)(K:Hp->Prop):Prop:=
 ∀ (u:FrameMode) (w:World),w.heap=H->CallsDIn (Z5 none) 0 P f args u w fun e u' w'=>u'=u/\(∃ v,e=.returned v)/\K w'.heap/\Sm w w'
def vJ(P:Program):List Deferred->Hp->(Hp->Prop)->Prop
 | [],H,K=>K H
 | ⟨.collected r,_⟩ :: ds,H,K=>aaL r H fun H'=>vJ P ds H' K
 | ⟨.fn (.func g) cap,args⟩ :: ds,H,K=>if pL P g then G0 P g (args.toList++cap.toList).toArray H fun H'=>vJ P ds H' K else False
 | _ :: _,_,_=>False
def QV(P:Program)(fn:Func)(R:Value->Hp->Prop):Exit->Ks
 | .normal,fr,ds,H=>vJ P ds H fun H'=>PR P fn.results.toList fr H' R
 | .ret,fr,ds,H=>vJ P ds H fun H'=>PR P fn.results.toList fr H' R
 | _,_,_,_=>False
def Td(ops:Array Oper):Option (Nat × FuncId × Array Operand):=
 match ops.toList with
 | [⟨some d,.makeFunc (.func g) first qU,_,_,_,none⟩,⟨none,.defer ⟨.value (.tmp d'),args,_⟩,_,_,_,none⟩]=>if Nat.beq d d' && first.toList.isEmpty && args.toList.isEmpty then some (d,g,qU) else none
 | _=>none
def Te:Value->Option Deferred
 | .func f first cap=>some ⟨.fn f cap,first⟩
 | _=>none
def TU(P:Program)(qf:FuncId->Bool)(pl:List (Nat × OT))(fn:Func)(lW:BC)(args:List Value)(H:Hp)(R:Value->Hp->Prop):Prop:=
 match fn.body with
 | some (.seq (.region i0 afK false) (.seq (.region i1 afJ false) rest))=>
  match Td afJ with
  | some (d,g,qU)=>Hb P qf afK false (B6 args fn.ntmps) H fun fr H1=>
   match Te (slot (fr.set d (.func (.func g) #[] (uv (ev fr) qU))) d) with
   | some df=>sO P qf pl true rest lW (QV P fn R) (fr.set d (.func (.func g) #[] (uv (ev fr) qU))) [df] H1
   | none=>False
  | none=>False
 | _=>False
section
variable{P:Program}
theorem C0{fn:Func}{tmps:Array Value}{R:Value->Hp->Prop}{w0:World}:∀ (ds:List Deferred) (w:World),Sm w0 w->(∀ w',Sm w0 w'->PR P fn.results.toList tmps.toList w'.heap R->LeavesInM (Z5 none) 0 P fn tmps (fun e w'=>∃ v,e=.returned v/\R v w'.heap/\Sm w0 w') [] .returning w') ->
   vJ P ds w.heap (fun H'=>PR P fn.results.toList tmps.toList H' R)->LeavesInM (Z5 none) 0 P fn tmps (fun e w'=>∃ v,e=.returned v/\R v w'.heap/\Sm w0 w') ds .returning w
 | [],w,hs,hb,h=>hb w hs h
 | ⟨t,aq⟩ :: ds,w,hs,hb,h=>by
   cases t with
   | collected r=>
     obtain⟨h1,h2⟩:=h
     refine⟨by simp,.inl ⟨r,{ w with heap:=w.heap.setIfInBounds r (.deferred none) },rfl,?_,C0 ds _ (hs.trans ⟨rfl,rfl,rfl⟩) hb h2⟩⟩
     simp[Instr.takeDeferred,getObj,setObj,Sem.run,h1,bind,Sem.bind]
   | fn fv cap=>
     cases fv<;>try exact h.elim
     rename_i g
     unfold vJ at h
     split at h
     · rename_i xM
       refine⟨by simp,.inr ⟨fun hh=>(by simp[Z5,Fence.wide]at hh),.func g,cap,g,aq++cap,rfl,?_,fun _ _=>trivial,?_⟩⟩
       · simp only[invoke]
         exact tg xM _ _
       · have e:(aq.toList++cap.toList).toArray=aq++cap:=by simp
         rw[e]at h
         refine(h .returning w rfl).mono fun e u' w' ⟨h1,⟨v,h2⟩,h3,h4⟩=>?_
         subst h1 h2
         exact C0 ds w' (hs.trans h4) hb h3
     · exact h.elim
   | _=>exact h.elim
theorem OD{f:FuncId}{fn:Func}(qf:FuncId->Bool)(lW:BC)(hf:P.funcs[f]?=some fn)(lj:(fn.body.map ZP)=some true){args:List Value}{H:Hp}{R:Value->Hp->Prop}(h:Dv P qf fn lW args H R):G0 P f args.toArray H fun H'=>∃ v,R v H':=by
 intro u w hw;subst hw;unfold Dv at h;cases hb:fn.body with
 | none=>simp only[hb]at h
 | some c=>
  simp only[hb]at h;rw[hb,iR,iH]at lj;have ha:At { tmps:=args.toArray++Array.replicate (fn.ntmps - args.toArray.size) undef,defers:=[] } (B6 args fn.ntmps):=by
   simp[At,B6]
  refine(callsDIn_of_wp (R:=fun e w'=>∃ v,e=.returned v/\R v w'.heap/\Sm w w') hf hb trivial (wpIn_mono (Ha c true none lW _ _ _ w (fun _=>rfl) ha h) fun e a' w' hp=>?_) rfl).mono fun e u' w' ⟨h1,v,h2,h3,h4⟩=>⟨h1,⟨v,h2⟩,⟨v,h3⟩,h4⟩;obtain⟨kR,h1,h2,_,h4,h5⟩:=hp;have hd:a'.defers=[]:=h2 lj;rw[hd]at h4;cases e<;>simp only[QU]at h4<;>try exact h4.elim
  all_goals
   obtain⟨v,hv,hR⟩:=ru h1 h4;exact⟨hd,v,hv,v,rfl,hR,h5⟩
theorem OS{ops:Array Oper}{d:Nat}{g:FuncId}{qU:Array Operand}(h:Td ops=some (d,g,qU)):∃ T p a T' p' a' ts first args,first.toList=[]/\args.toList=[]/\ops=#[⟨some d,.makeFunc (.func g) first qU,T,p,a,none⟩,⟨none,.defer ⟨.value (.tmp d),args,ts⟩,T',p',a',none⟩]:=by
 unfold Td at h;split at h
 ·rename_i d0 g0 first anH T p a d' args ts T' p' a' acM
  split at h
  ·rename_i hc;simp only[jd,List.isEmpty_iff]at hc;obtain⟨⟨h1,h2⟩,h3⟩:=hc;injection h with h;injection h with e1 e2;injection e2 with e2 e3;subst e1 e2 e3;have:d0=d':=Nat.eq_of_beq_eq_true h1;subst this;exact⟨T,p,a,T',p',a',ts,first,args,h2,h3,by rw[<- mV,acM]⟩
  ·cases h
 ·cases h
theorem Oy{f:FuncId}{fn:Func}(qf:FuncId->Bool)(pl:List (Nat × OT))(lW:BC)(hf:P.funcs[f]?=some fn){args:List Value}{H:Hp}{R:Value->Hp->Prop}(h:TU P qf pl fn lW args H R):Fc P f args.toArray H R:=by
 intro w hw;subst hw;unfold TU at h;split at h
 ·rename_i i0 afK i1 afJ rest hb;split at h
  ·rename_i d g qU hdf;obtain⟨T,p,a,T',p',a',ts,first,ahQ,hfi,hda,acM⟩:=OS hdf;refine callsIn_of_wp_marks hf hb trivial ?_ rfl;have ha:At { tmps:=args.toArray++Array.replicate (fn.ntmps - args.toArray.size) undef,defers:=[] } (B6 args fn.ntmps):=by
    simp[At,B6]
   have akZ:first=#[]:=by rw[<- mV,hfi]
   have ak7:ahQ=#[]:=by rw[<- mV,hda]
   subst akZ ak7;refine wpIn_seq ?_;refine wpIn_mono (ry (qf:=qf) (Q:=FH (fun fr ds H1=>match Te (slot (fr.set d (.func (.func g) #[] (uv (ev fr) qU))) d) with
    | some df=>sO P qf pl true rest lW (QV P fn R) (fr.set d (.func (.func g) #[] (uv (ev fr) qU))) (df :: ds) H1
    | none=>False) (fun _ _ _ _=>False)) ha h) ?_
   rintro e a1 w1 ⟨uN,g1,g2,_,g4,g5⟩;have g2:a1.defers=[]:=g2 rfl;rw[g2]at g4;cases e with
   | normal=>
    have g4:(match Te (slot (uN.set d (.func (.func g) #[] (uv (ev uN) qU))) d) with
     | some df=>sO P qf pl true rest lW (QV P fn R) (uN.set d (.func (.func g) #[] (uv (ev uN) qU))) [df] w1.heap
     | none=>False):=g4
    show(Code.seq _ _).wpIn _ _ _ _ _ _;refine wpIn_seq ?_;subst acM;refine wpIn_region ?_;have Of:=g1.put (some d) (.func (.func g) #[] (uv (ev uN) qU));have PN:(a1.put (some d) (.func (.func g) #[] (uv (ev uN) qU))).defers=[]:=g2;have hex:(execOp a1.eval ⟨some d,.makeFunc (.func g) #[] qU,T,p,a,none⟩).run P w1=.ok (.value (.func (.func g) #[] (uv (ev uN) qU))) w1:=by
     rw[g1.ev,tQ];show(pure (Next.value (.func (.func g) ((#[]:Array Operand).map (ev uN)) (qU.map (ev uN)))):Sem Next).run P w1=_;rw[Array.map_empty];rfl
    generalize hF:Value.func (.func g) #[] (uv (ev uN) qU)=vF at *;have Of:At (a1.put (some d) vF) (uN.set d vF):=Of;have uy:=Of.slot d;cases hy:Te (slot (uN.set d vF) d) with
    | none=>rw[hy]at g4;exact g4.elim
    | some df=>
     rw[hy]at g4;have hdf:(execOp (a1.put (some d) vF).eval ⟨none,.defer ⟨.value (.tmp d),#[],ts⟩,T',p',a',none⟩).run P w1=.ok (.defer df) w1:=by
      have he:(a1.put (some d) vF).eval (.tmp d)=slot (uN.set d vF) d:=uy;unfold execOp;simp only[resolve,he];unfold Te at hy;split at hy
      ·rename_i f' alG OY hv;injection hy with hy;rw[hv,<- hy];simp[Deferred.ofValue,Sem.run_bind,Sem.run_pure,Result.andThen_ok]
      ·cases hy
     show wpOpsIn _ _ _ _ _ [0,1] _ _;rw[wpOpsIn_cons];unfold wpOpIn;show(if Region.wanted _ _ then _ else _);rw[aU (show Region.wanted _ _=true from rfl)];refine⟨fun _ hh=>trivial,?_⟩;show Oper.uponIn _ _ _ (⟨some d,.makeFunc (.func g) #[] qU,T,p,a,none⟩:Oper) _ _ _ ((execOp a1.eval (⟨some d,.makeFunc (.func g) #[] qU,T,p,a,none⟩:Oper)).run P w1);rw[hex,Oper.uponIn_value,wpOpsIn_cons];unfold wpOpIn;show(if Region.wanted _ _ then _ else _);rw[aU (show Region.wanted _ _=true from rfl)];refine⟨fun _ hh=>trivial,?_⟩;show Oper.uponIn _ _ _ (⟨none,.defer ⟨.value (.tmp d),#[],ts⟩,T',p',a',none⟩:Oper) _ _ _ ((execOp (a1.put (some d) vF).eval (⟨none,.defer ⟨.value (.tmp d),#[],ts⟩,T',p',a',none⟩:Oper)).run P w1);rw[hdf,Oper.uponIn_defer];show Exit.then _ _ .normal _ _;show rest.wpIn _ _ _ _ _ _;have uM:At ({ a1.put (some d) vF with defers:=df :: (a1.put (some d) vF).defers }.put none undef) (uN.set d vF):=Of;have AW:({ a1.put (some d) vF with defers:=df :: (a1.put (some d) vF).defers }.put none undef).defers=[df]:=by
      show df :: (a1.put (some d) vF).defers=[df];rw[PN]
     refine wpIn_mono (Ek rest true none lW (QV P fn R) (uN.set d vF) _ w1 (fun _=>rfl) uM (by rw[AW];exact g4)) fun e a' w' hp=>?_;obtain⟨kR,h1,h2,_,h4,h5⟩:=hp;have ht:a'.tmps.toList=kR:=by rw[show a'.tmps=kR.toArray from h1]
     have fin:vJ P a'.defers w'.heap (fun H'=>PR P fn.results.toList kR H' R)->LeavesInM (Z5 none) 0 P fn a'.tmps (fun e w'=>∃ v,e=.returned v/\R v w'.heap/\Sm w w') a'.defers .returning w':=fun h=>by
      refine C0 a'.defers w' (g5.trans h5) (fun w2 hs hr=>?_) (by rw[ht];exact h);rw[ht]at hr;obtain⟨v,hv,hR⟩:=ru h1 hr;exact⟨v,hv,v,rfl,hR,hs⟩
     cases e<;>simp only[QV]at h4<;>try exact h4.elim
     ·exact fin h4
     ·exact fin h4
   | _=>exact g4.elim
  ·exact h.elim
 ·exact h.elim
end
end Go.Vc
