/- Parts of a proof, joined in build order: a calculus of contracts, contracts of functions. -/
import Derived.RangeFuncIn
import Derived.OrdersIn
import Derived.KernelRfl
set_option linter.unusedVariables false
set_option linter.unusedSimpArgs false
namespace Go.Vc
abbrev Hp:=Array Obj
structure Sm (w w':World):Prop where
 os:w'.os=w.os
 out:w'.output=w.output
 tape:w'.tape=w.tape
theorem Sm.refl (w:World):Sm w w:=⟨rfl,rfl,rfl⟩
theorem Sm.trans {a b c:World} (h:Sm a b) (h':Sm b c):Sm a c:=⟨h'.os.trans h.os,h'.out.trans h.out,h'.tape.trans h.tape⟩
structure Ext (H H':Hp):Prop where
 le:H.size≤H'.size
 same:∀ b,b<H.size→H'[b]?=H[b]?
theorem Ext.refl (H:Hp):Ext H H:=⟨Nat.le_refl _,fun _ _=>rfl⟩
theorem Ext.trans {a b c:Hp} (h:Ext a b) (h':Ext b c):Ext a c:=
 ⟨Nat.le_trans h.le h'.le,fun k hk=>(h'.same k (Nat.lt_of_lt_of_le hk h.le)).trans (h.same k hk)⟩
theorem Ext.push (H:Hp) (o:Obj):Ext H (H.push o):=
 ⟨by simp,fun k hk=>by rw [Array.getElem?_push]; split <;> simp_all⟩
theorem Ext.at {H H':Hp} (h:Ext H H') {b:Nat} {o:Obj} (hb:H[b]?=some o):H'[b]?=some o:=by
 have hlt:b<H.size:=by
   rcases Nat.lt_or_ge b H.size with h1 | h1
   · exact h1
   · rw [Array.getElem?_eq_none h1] at hb; cases hb
 rw [h.same b hlt,hb]
def ZV (r:Option Nat):Fence:={ Fence.wide with round:=r }
def Fc (P:Program) (f:FuncId) (args:Array Value) (H:Hp) (R:Value→Hp→Prop):Prop:=
 ∀ w,w.heap=H→CallsIn (ZV none) 0 P f args w fun e w'=>∃ v,e=.returned v∧R v w'.heap∧Sm w w'
theorem Fc.mono {P:Program} {f:FuncId} {args:Array Value} {H:Hp} {R R':Value→Hp→Prop} (h:Fc P f args H R) (hr:∀ v H',R v H'→R' v H'):Fc P f args H R':=
 fun w hw=>(h w hw).mono fun _ _ ⟨v,he,h1,h2⟩=>⟨v,he,hr _ _ h1,h2⟩
def Rnd (P:Program) (l:Nat) (f:FuncId) (tmps:Array Value) (assign body:Code) (H:Hp) (R:Value→Hp→Prop):Prop:=
 ∀ w,w.heap=H→RoundIn (ZV none) 0 P l f tmps assign body w fun e w'=>∃ v,e=.returned v∧R v w'.heap∧Sm w w'
theorem Rnd.mono {P:Program} {l:Nat} {f:FuncId} {tmps:Array Value} {assign body:Code} {H:Hp} {R R':Value→Hp→Prop} (h:Rnd P l f tmps assign body H R) (hr:∀ v H',R v H'→R' v H'):Rnd P l f tmps assign body H R':=
 fun w hw=>(h w hw).mono fun _ _ ⟨v,he,h1,h2⟩=>⟨v,he,hr _ _ h1,h2⟩
def Up (P:Program) (w:World) (K:Value→Hp→Prop):Result Next→Prop
 | .ok (.value v) w'=>Sm w w'∧K v w'.heap
 | .ok .skip w'=>Sm w w'∧K undef w'.heap
 | .ok (.enter f args) w'=>Sm w w'∧Fc P f args w'.heap K
 | .ok (.round l f tmps assign body) w'=>Sm w w'∧Rnd P l f tmps assign body w'.heap K
 | _=>False
def Eff (P:Program) (s:Sem Next) (H:Hp) (K:Value→Hp→Prop):Prop:=∀ w,w.heap=H→Up P w K (s.run P w)
theorem Up.mono {P:Program} {w:World} {K K':Value→Hp→Prop} (hk:∀ v H',K v H'→K' v H') {r:Result Next} (h:Up P w K r):Up P w K' r:=by
 cases r with
 | halt x w'=>exact h
 | ok n w'=>cases n <;> first | exact h | exact ⟨h.1,hk _ _ h.2⟩ | exact ⟨h.1,Fc.mono h.2 hk⟩ | exact ⟨h.1,Rnd.mono h.2 hk⟩
theorem Eff.mono {P:Program} {s:Sem Next} {H:Hp} {K K':Value→Hp→Prop} (h:Eff P s H K) (hk:∀ v H',K v H'→K' v H'):Eff P s H K':=
 fun w hw=>(h w hw).mono hk
def Pv (P:Program) (s:Sem Next) (v:Value):Prop:=∀ w,s.run P w=.ok (.value v) w
section
variable {P:Program} {r:Option Nat} {o:Oper} {a:Act} {w:World}
theorem YI (hd:∀ c,o.op≠.defer c) {next:Act→World→Prop} {Q:Exit→Act→World→Prop} {K:Value→Hp→Prop}
   (h:Eff P (execOp a.eval o) w.heap K) (hn:∀ v w',K v w'.heap→Sm w w'→next (a.put o.dst v) w'):o.wpIn (ZV r) 0 P a w next Q:=by
 refine ⟨fun _ _=>trivial,?_⟩
 have hs:(ZV r).round=r:=rfl
 rw [hs,Oper.semAt_eq r a.eval o hd]
 have h1:=h w rfl
 generalize (execOp a.eval o).run P w=res at h1
 cases res with
 | halt x w'=>exact h1.elim
 | ok n w'=>
   cases n <;> simp only [Up] at h1 <;> try exact h1.elim
   case value v=>exact hn v w' h1.2 h1.1
   case skip=>exact hn undef w' h1.2 h1.1
   case enter f args=>
     refine ⟨fun hd=>by simp [ZV,Fence.wide] at hd,?_⟩
     refine CallsIn.mono (h1.2 w' rfl:CallsIn (ZV r) 0 P f args w' _) fun e w'' ⟨v,he,hk,hsm⟩=>?_
     subst he
     exact hn v w'' hk (h1.1.trans hsm)
   case round l f tmps assign body=>
     refine ⟨fun hd=>by simp [ZV,Fence.wide] at hd,?_⟩
     refine RoundIn.mono (h1.2 w' rfl:RoundIn (ZV r) 0 P l f tmps assign body w' _) fun e w'' ⟨v,he,hk,hsm⟩=>?_
     subst he
     exact hn v w'' hk (h1.1.trans hsm)
end
def Ex (q:Bool) (H H':Hp):Prop:=match q with | true=>Ext H H' | false=>H'=H
theorem Ex.refl (q:Bool) (H:Hp):Ex q H H:=by cases q <;> first | exact Ext.refl H | rfl
theorem Ex.trans {q:Bool} {a b c:Hp} (h:Ex q a b) (h':Ex q b c):Ex q a c:=by
 cases q
 · exact Eq.trans h' h
 · exact Ext.trans h h'
def Qw (q:Bool) (P:Program) (s:Sem Next) (H:Hp) (v:Value):Prop:=∀ H',Ex q H H'→Eff P s H' fun u H''=>u=v∧Ex q H' H''
theorem Qw.next {q:Bool} {P:Program} {s:Sem Next} {H H':Hp} {v:Value} (h:Qw q P s H v) (hx:Ex q H H'):Qw q P s H' v:=fun _ h2=>h _ (hx.trans h2)
theorem Pv.qw {q:Bool} {P:Program} {s:Sem Next} {v:Value} (h:Pv P s v) (H:Hp):Qw q P s H v:=fun H' _ w hw=>by
 rw [h w]; exact ⟨Sm.refl w,rfl,by rw [hw]; exact Ex.refl q H'⟩
inductive Cls where
 | pure | quiet | eff | fresh
 deriving DecidableEq
section
variable (q:Bool) (P:Program) (ops:Array Oper) (cl:Nat→Cls)
def yt (i:Nat) (K:Act→Hp→Prop) (a:Act) (H:Hp):Prop:=
 match ops[i]? with
 | none=>K a H
 | some o=>
   if Region.wanted o (yielded ops a.tmps) then
     match cl i with
     | .pure=>∃ v,Pv P (execOp a.eval o) v∧K (a.put o.dst v) H
     | .quiet=>∃ v,Qw q P (execOp a.eval o) H v∧K (a.put o.dst v) H
     | .eff=>∀ H',Ex q H H'→Eff P (execOp a.eval o) H' fun v H''=>K (a.put o.dst v) H''
     | .fresh=>∀ H',Ex q H H'→Eff P (execOp a.eval o) H' fun v H''=>Ex q H' H''∧K (a.put o.dst v) H''
   else K (a.put o.dst undef) H
def runD (K:Act→Hp→Prop):List Nat→Act→Hp→Prop
 | [],a,H=>∀ H',Ex q H H'→K a H'
 | i :: l,a,H=>yt q P ops cl i (runD K l) a H
end
section
variable {q:Bool} {P:Program} {ops:Array Oper} {cl:Nat→Cls}
theorem stepD_mono {i:Nat} {K K':Act→Hp→Prop} (h:∀ a H,K a H→K' a H) {a:Act} {H:Hp} (hs:yt q P ops cl i K a H):yt q P ops cl i K' a H:=by
 unfold yt at *
 cases ho:ops[i]? with
 | none=>simp only [ho] at hs ⊢; exact h _ _ hs
 | some o=>
   simp only [ho] at hs ⊢
   by_cases hw:Region.wanted o (yielded ops a.tmps)=true
   · simp only [hw,if_true] at hs ⊢
     cases hc:cl i <;> simp only [hc] at hs ⊢
     · obtain ⟨v,h1,h2⟩:=hs; exact ⟨v,h1,h _ _ h2⟩
     · obtain ⟨v,h1,h2⟩:=hs; exact ⟨v,h1,h _ _ h2⟩
     · exact fun H' hx=>(hs H' hx).mono fun v H'' hk=>h _ _ hk
     · exact fun H' hx=>(hs H' hx).mono fun v H'' hk=>⟨hk.1,h _ _ hk.2⟩
   · simp only [hw,Bool.false_eq_true,if_false] at hs ⊢; exact h _ _ hs
def trivOp (o:Oper):Bool:=match o.op with | .move _ | .assign _=>true | _=>false
theorem triv_val {o:Oper} (h:trivOp o=true) (ρ:Operand→Value):∃ v,Pv P (execOp ρ o) v:=by
 obtain ⟨dst,op,type,pos,after,guard⟩:=o
 unfold trivOp at h
 cases op <;> simp only at h <;> (try (cases h; done))
 · exact ⟨_,fun w=>rfl⟩
 · exact ⟨_,fun w=>rfl⟩
theorem Pv.det {s:Sem Next} {u v:Value} (h:Pv P s u) (h':Pv P s v) (w:World):u=v:=by
 have:=(h w).symm.trans (h' w)
 injection this with h1 h2
 injection h1
def swapB (ops:Array Oper) (cl:Nat→Cls) (k i:Nat):Bool:=
 match ops[k]?,ops[i]? with
 | some ok,some oi=>ok.apart ops oi && (match cl k,cl i with | .pure,_=>true | .quiet,.quiet=>true | .quiet,.pure=>true | .quiet,.fresh=>true | _,.pure=>trivOp oi | _,_=>false)
 | _,_=>true
def noSelB (ops:Array Oper):Bool:=ops.toList.all fun o=>match o.op with | .select ..=>false | .defer _=>false | _=>true
theorem noSel_spec (h:noSelB ops=true) {i:Nat} {o:Oper} (hi:ops[i]?=some o):(∀ cs b,o.op≠.select cs b)∧∀ c,o.op≠.defer c:=by
 have:=(List.all_eq_true.1 h) o (by simpa using Array.mem_of_getElem? hi)
 refine ⟨fun cs b e=>?_,fun c e=>?_⟩ <;> rw [e] at this <;> cases this
theorem stepD_swap (hn:noSelB ops=true) {k i:Nat} (hs:swapB ops cl k i=true) {K:Act→Hp→Prop} {a:Act} {H:Hp}
   (h:yt q P ops cl k (yt q P ops cl i K) a H):yt q P ops cl i (yt q P ops cl k K) a H:=by
 cases hk:ops[k]? with
 | none=>simp only [yt,hk] at h ⊢; exact h
 | some ok=>
   cases hi:ops[i]? with
   | none=>simp only [yt,hi] at h ⊢; exact h
   | some oi=>
     simp only [swapB,hk,hi,Bool.and_eq_true] at hs
     obtain ⟨hap,hcl⟩:=hs
     obtain ⟨h1,h2,h3⟩:=Oper.apart_spec hap
     have nk:=(noSel_spec hn hk).1
     have ni:=(noSel_spec hn hi).1
     have ek:∀ v,execOp (a.put oi.dst v).eval ok=execOp a.eval ok:=fun v=>execOp_put ok nk a oi.dst v h3
     have ei:∀ v,execOp (a.put ok.dst v).eval oi=execOp a.eval oi:=fun v=>execOp_put oi ni a ok.dst v h1
     have wk:∀ v,Region.wanted ok (yielded ops (a.put oi.dst v).tmps)=Region.wanted ok (yielded ops a.tmps):=fun v=>wanted_put ok a oi.dst v h3
     have wi:∀ v,Region.wanted oi (yielded ops (a.put ok.dst v).tmps)=Region.wanted oi (yielded ops a.tmps):=fun v=>wanted_put oi a ok.dst v h1
     have pc:∀ v u,(a.put oi.dst v).put ok.dst u=(a.put ok.dst u).put oi.dst v:=fun v u=>(Act.put_comm a u v h2).symm
     simp only [yt,hk,hi] at h ⊢
     by_cases wkt:Region.wanted ok (yielded ops a.tmps)=true
     · by_cases wit:Region.wanted oi (yielded ops a.tmps)=true
       · simp only [wkt,wit,if_true,wk,wi,ek,ei,pc] at h ⊢
         cases ck:cl k <;> cases ci:cl i <;> simp only [ck,ci] at h hcl ⊢ <;> try (exact absurd hcl (by decide))
         · obtain ⟨v,hv,u,hu,hK⟩:=h; exact ⟨u,hu,v,hv,hK⟩
         · obtain ⟨v,hv,u,hu,hK⟩:=h; exact ⟨u,hu,v,hv,hK⟩
         · obtain ⟨v,hv,hK⟩:=h; exact fun H' hx=>(hK H' hx).mono fun u H'' hk=>⟨v,hv,hk⟩
         · obtain ⟨v,hv,hK⟩:=h; exact fun H' hx=>(hK H' hx).mono fun u H'' hk=>⟨hk.1,v,hv,hk.2⟩
         · obtain ⟨v,hv,u,hu,hK⟩:=h; exact ⟨u,hu,v,hv,hK⟩
         · obtain ⟨v,hv,u,hu,hK⟩:=h; exact ⟨u,hu,v,hv,hK⟩
         · obtain ⟨v,hv,hK⟩:=h; exact fun H' hx=>(hK H' hx).mono fun u H'' hk=>⟨hk.1,v,hv.next (hx.trans hk.1),hk.2⟩
         · obtain ⟨v0,hv0⟩:=triv_val (P:=P) hcl a.eval
           refine ⟨v0,hv0,fun H' hx w hw=>(h H' hx w hw).mono fun u H'' hk=>?_⟩
           obtain ⟨v,hv,hK⟩:=hk
           rw [Pv.det hv0 hv w]; exact hK
         · obtain ⟨v0,hv0⟩:=triv_val (P:=P) hcl a.eval
           refine ⟨v0,hv0,fun H' hx w hw=>(h H' hx w hw).mono fun u H'' hk=>?_⟩
           obtain ⟨hx2,v,hv,hK⟩:=hk
           rw [Pv.det hv0 hv w]; exact ⟨hx2,hK⟩
       · simp only [wkt,wit,if_true,Bool.false_eq_true,if_false,wk,wi,ek,ei,pc] at h ⊢
         cases ck:cl k <;> simp only [ck] at h hcl ⊢
         · obtain ⟨v,hv,hK⟩:=h; exact ⟨v,hv,hK⟩
         · obtain ⟨v,hv,hK⟩:=h; exact ⟨v,hv,hK⟩
         · exact h
         · exact h
     · by_cases wit:Region.wanted oi (yielded ops a.tmps)=true
       · simp only [wkt,wit,if_true,Bool.false_eq_true,if_false,wk,wi,ek,ei,pc] at h ⊢
         cases ci:cl i <;> simp only [ci] at h hcl ⊢
         · obtain ⟨v,hv,hK⟩:=h; exact ⟨v,hv,hK⟩
         · obtain ⟨v,hv,hK⟩:=h; exact ⟨v,hv,hK⟩
         · exact h
         · exact h
       · simp only [wkt,wit,Bool.false_eq_true,if_false,wk,wi,pc] at h ⊢
         exact h
theorem runD_pull (hn:noSelB ops=true) {i:Nat} {K:Act→Hp→Prop} {l2:List Nat}:∀ (l1:List Nat) (a:Act) (H:Hp),(∀ k∈l1,swapB ops cl k i=true) →
   runD q P ops cl K (l1++i :: l2) a H→yt q P ops cl i (runD q P ops cl K (l1++l2)) a H
 | [],_,_,_,h=>h
 | k :: l1,a,H,hs,h=>by
   have h1:yt q P ops cl k (yt q P ops cl i (runD q P ops cl K (l1++l2))) a H:=
     stepD_mono (fun a' H' h'=>runD_pull hn l1 a' H' (fun k' hk'=>hs k' (List.mem_cons_of_mem _ hk')) h') h
   exact stepD_swap hn (hs k List.mem_cons_self) h1
theorem ye (hn:noSelB ops=true) {r:Option Nat} {Q:Exit→Act→World→Prop} {i:Nat} {K:Act→Hp→Prop} {K':Act→World→Prop} {a:Act} {H:Hp} {w:World}
   (hx:Ex q H w.heap) (h:yt q P ops cl i K a H) (hk:∀ a' H' w',K a' H'→Ex q H' w'.heap→Sm w w'→K' a' w'):wpOpIn (ZV r) 0 P ops Q i K' a w:=by
 unfold yt at h
 unfold wpOpIn
 cases ho:ops[i]? with
 | none=>simp only [ho] at h ⊢; exact hk _ _ _ h hx (Sm.refl w)
 | some o=>
   simp only [ho] at h ⊢
   by_cases hw:Region.wanted o (yielded ops a.tmps)=true
   · simp only [hw,if_true] at h ⊢
     have hd:=(noSel_spec hn ho).2
     cases hc:cl i <;> simp only [hc] at h
     · obtain ⟨v,hv,hK⟩:=h
       refine YI hd (hv.qw (q:=q) H _ hx) fun u w' hu hsm=>?_
       obtain ⟨rfl,hx'⟩:=hu
       exact hk _ _ _ hK (hx.trans hx') hsm
     · obtain ⟨v,hv,hK⟩:=h
       refine YI hd (hv _ hx) fun u w' hu hsm=>?_
       obtain ⟨rfl,hx'⟩:=hu
       exact hk _ _ _ hK (hx.trans hx') hsm
     · exact YI hd (h _ hx) fun u w' hu hsm=>hk _ _ _ hu (Ex.refl q _) hsm
     · exact YI hd (h _ hx) fun u w' hu hsm=>hk _ _ _ hu.2 (Ex.refl q _) hsm
   · simp only [hw,Bool.false_eq_true,if_false] at h ⊢
     exact ⟨fun _ _=>trivial,hk _ _ _ h hx (Sm.refl w)⟩
def yD:List Oper→List Nat→List Nat
 | [],acc=>acc
 | o :: l,acc=>yD l (acc++[o.after.toList.foldl (fun s e=>if Region.binds .any e then s ||| 2 ^ e.on ||| acc.getD e.on 0 else s) 0])
inductive Waits (ops:Array Oper):Nat→Nat→Prop
 | one {i k:Nat} {o:Oper} {e:Edge} (ho:ops[i]?=some o) (he:e∈o.after) (hb:Region.binds .any e=true) (hk:e.on=k):Waits ops i k
 | more {i m k:Nat} (h:Waits ops i m) (h':Waits ops m k):Waits ops i k
theorem Waits.listed {listed:Array Bool} (hcl:∀ j oj,ops[j]?=some oj→listed.getD j false=true→∀ e∈oj.after,Region.binds .any e=true→listed.getD e.on false=true)
   {i k:Nat} (h:Waits ops i k):(∀ o,ops[i]?=some o→∀ e∈o.after,Region.binds .any e=true→listed.getD e.on false=true)→listed.getD k false=true:=by
 induction h with
 | one ho he hb hk=>intro hi; rw [← hk]; exact hi _ ho _ he hb
 | more h h' ih ih'=>intro hi; exact ih' fun o ho e he hb=>hcl _ _ ho (ih hi) e he hb
theorem fold_mask (acc:List Nat) (hacc:∀ j k,(acc.getD j 0).testBit k=true→Waits ops j k) (i:Nat) (o:Oper) (ho:ops[i]?=some o) :
   ∀ (es:List Edge) (s:Nat),(∀ e∈es,e∈o.after)→(∀ k,s.testBit k=true→Waits ops i k) →
     ∀ k,(es.foldl (fun s e=>if Region.binds .any e then s ||| 2 ^ e.on ||| acc.getD e.on 0 else s) s).testBit k=true→Waits ops i k
 | [],_,_,hs,k,hk=>hs k hk
 | e :: es,s,hes,hs,k,hk=>by
   refine fold_mask acc hacc i o ho es _ (fun x hx=>hes x (List.mem_cons_of_mem _ hx)) (fun k hk=>?_) k hk
   by_cases hb:Region.binds .any e=true
   · simp only [hb,if_true] at hk
     have w1:Waits ops i e.on:=.one ho (hes e List.mem_cons_self) hb rfl
     rw [Nat.testBit_or,Nat.testBit_or,Bool.or_eq_true,Bool.or_eq_true] at hk
     rcases hk with (hk | hk) | hk
     · exact hs k hk
     · rw [Nat.testBit_two_pow] at hk; simp at hk; rw [← hk]; exact w1
     · exact .more w1 (hacc _ _ hk)
   · simp only [hb,Bool.false_eq_true,if_false] at hk; exact hs k hk
theorem masks_spec:∀ (l:List Oper) (acc:List Nat),(∀ j,l[j]?=ops[acc.length+j]?)→(∀ j k,(acc.getD j 0).testBit k=true→Waits ops j k) →
   ∀ j k,((yD l acc).getD j 0).testBit k=true→Waits ops j k
 | [],_,_,hacc,j,k,h=>hacc j k h
 | o :: l,acc,hl,hacc,j,k,h=>by
   refine masks_spec l _ (fun j=>?_) (fun j k hj=>?_) j k h
   · have:=hl (j+1); simp at this ⊢; rw [this]; congr 1; omega
   · have h0:ops[acc.length]?=some o:=by simpa using (hl 0).symm
     rcases Nat.lt_trichotomy j acc.length with hlt | heq | hgt
     · rw [List.getD_eq_getElem?_getD,List.getElem?_append_left hlt,← List.getD_eq_getElem?_getD] at hj; exact hacc j k hj
     · subst heq
       simp at hj
       rw [← Array.foldl_toList] at hj
       exact fold_mask acc hacc acc.length o h0 o.after.toList 0 (fun e he=>by simpa using he) (fun k hk=>by simp at hk) k hj
     · rw [List.getD_eq_getElem?_getD,List.getElem?_eq_none (by simp; omega)] at hj; simp at hj
def drawB (ops:Array Oper) (cl:Nat→Cls):Bool:=
 noSelB ops &&
 (let ms:=yD ops.toList []
  (List.range ops.size).all fun i=>(List.range i).all fun k=>(ms.getD i 0).testBit k || swapB ops cl k i) &&
 (ops.toList.zipIdx.all fun (o,i)=>o.after.toList.all fun e=>!Region.binds .any e || decide (e.on<i))
theorem drawB_pair (h:drawB ops cl=true) {k i:Nat} (hki:k<i) (hi:i<ops.size):Waits ops i k∨swapB ops cl k i=true:=by
 simp only [drawB,Bool.and_eq_true,List.all_eq_true,List.mem_range,Bool.or_eq_true] at h
 rcases h.1.2 i hi k hki with h1 | h1
 · exact .inl (masks_spec ops.toList [] (fun j=>by simp) (fun j k hj=>by simp at hj) i k h1)
 · exact .inr h1
theorem drawB_edge (h:drawB ops cl=true) {i:Nat} {o:Oper} (hi:ops[i]?=some o) {e:Edge} (he:e∈o.after) (hb:Region.binds .any e=true):e.on<i:=by
 simp only [drawB,Bool.and_eq_true] at h
 have h2:=(List.all_eq_true.1 h.2) (o,i) (by rw [List.mem_zipIdx_iff_getElem?]; simpa using hi)
 have h3:=(List.all_eq_true.1 h2) e (by simpa using he)
 simpa [hb] using h3
theorem wpAnyIn_of_runD (hB:drawB ops cl=true) {r:Option Nat} {Q:Exit→Act→World→Prop} {K:Act→Hp→Prop} {w₀:World}
   (hQ:∀ a w,K a w.heap→Sm w₀ w→Q .normal a w):∀ (l:List Nat) (listed:Array Bool) (a:Act) (H:Hp) (w:World),
     l.Pairwise (·<·)→listed.size=ops.size→(∀ i,i∈l↔i<ops.size∧listed.getD i false=false) →
     (∀ j oj,ops[j]?=some oj→listed.getD j false=true→∀ e∈oj.after,Region.binds .any e=true→listed.getD e.on false=true) →
     Ex q H w.heap→Sm w₀ w→runD q P ops cl K l a H→wpAnyIn (ZV r) 0 P .any ops Q l.length listed a w:=by
 have hn:noSelB ops=true:=by simp only [drawB,Bool.and_eq_true] at hB; exact hB.1.1
 have rdy:∀ (l:List Nat) (listed:Array Bool),listed.size=ops.size→(∀ i,i∈l↔i<ops.size∧listed.getD i false=false)→∀ i,i∈Region.ready .any ops listed→i∈l:=by
   intro l listed hsz hl i hi
   obtain ⟨h1,o,ho,_⟩:=mem_ready.1 hi
   have hlt:i<ops.size:=(Array.getElem?_eq_some_iff.1 ho).1
   refine (hl i).2 ⟨hlt,?_⟩
   simp [hsz,hlt] at h1 ⊢
   exact h1
 have emp:∀ (l:List Nat) (listed:Array Bool),l.Pairwise (·<·)→listed.size=ops.size→(∀ i,i∈l↔i<ops.size∧listed.getD i false=false)→Region.ready .any ops listed=[]→l=[]:=by
   intro l listed hp hsz hl hr
   cases l with
   | nil=>rfl
   | cons i l=>
     exfalso
     have hi:=(hl i).1 List.mem_cons_self
     have:i∈Region.ready .any ops listed:=by
       obtain ⟨o,ho⟩:∃ o,ops[i]?=some o:=⟨_,Array.getElem?_eq_getElem hi.1⟩
       refine mem_ready.2 ⟨by simp [hsz,hi.1] at hi ⊢; exact hi,o,ho,fun e he hb=>?_⟩
       have hlt:=drawB_edge hB ho he hb
       cases hg:listed.getD e.on false with
       | true=>rfl
       | false=>
         have hm:=(hl e.on).2 ⟨by omega,hg⟩
         rcases List.mem_cons.1 hm with h1 | h1
         · omega
         · have:=(List.pairwise_cons.1 hp).1 _ h1; omega
     rw [hr] at this; cases this
 intro l
 induction hlen:l.length generalizing l with
 | zero=>
   intro listed a H w hp hsz hl hcl hx hsm h
   have:l=[]:=List.eq_nil_of_length_eq_zero hlen
   subst this
   refine (⟨?_,hQ a w (h _ hx) hsm⟩:_∧_)
   cases hr:Region.ready .any ops listed with
   | nil=>rfl
   | cons i t=>have:=rdy [] listed hsz hl i (by rw [hr]; exact List.mem_cons_self); cases this
 | succ n ih=>
   intro listed a H w hp hsz hl hcl hx hsm h
   refine ⟨fun hr=>(by have:=emp l listed hp hsz hl hr; rw [this] at hlen; cases hlen),fun i hi=>?_⟩
   have him:=rdy l listed hsz hl i hi
   obtain ⟨l1,l2,rfl⟩:=List.append_of_mem him
   obtain ⟨_,oi,hoi,hall⟩:=mem_ready.1 hi
   have hlt:i<ops.size:=(Array.getElem?_eq_some_iff.1 hoi).1
   obtain ⟨hp1,hp2,hp3⟩:=List.pairwise_append.1 hp
   have hsw:∀ k∈l1,swapB ops cl k i=true:=fun k hk=>by
     have hki:k<i:=hp3 k hk i List.mem_cons_self
     rcases drawB_pair hB hki hlt with h1 | h1
     · exfalso
       have h2:=h1.listed hcl fun o ho e he hb=>by rw [hoi] at ho; cases ho; exact hall e he hb
       have h3:=((hl k).1 (List.mem_append_left _ hk)).2
       rw [h2] at h3; cases h3
     · exact h1
   have h1:=runD_pull hn l1 a H hsw h
   have hset:∀ j,(listed.setIfInBounds i true).getD j false=(if j=i then true else listed.getD j false):=fun j=>by
     by_cases hji:j=i
     · subst hji; simp [hsz,hlt]
     · rw [getD_set_ne false (Ne.symm hji),if_neg hji]
   have hnot:i ∉ l1∧i ∉ l2:=⟨fun hm=>by have:=hp3 i hm i List.mem_cons_self; omega,fun hm=>by have:=(List.pairwise_cons.1 hp2).1 i hm; omega⟩
   refine ye hn hx h1 fun a' H' w' hr hx' hsm'=>?_
   refine ih (l1++l2) (by simp at hlen ⊢; omega) (listed.setIfInBounds i true) a' H' w' ?_ (by simp [hsz]) (fun j=>?_) (fun j oj hj hlj e he hb=>?_) hx' (hsm.trans hsm') hr
   · exact List.pairwise_append.2 ⟨hp1,(List.pairwise_cons.1 hp2).2,fun x hx y hy=>hp3 x hx y (List.mem_cons_of_mem _ hy)⟩
   · rw [hset]
     by_cases hji:j=i
     · subst hji; simp [hnot]
     · rw [if_neg hji,← hl j]; simp [hji]
   · rw [hset] at hlj ⊢
     by_cases hei:e.on=i
     · rw [if_pos hei]
     · rw [if_neg hei]
       by_cases hji:j=i
       · subst hji; rw [hoi] at hj; cases hj; exact hall e he hb
       · rw [if_neg hji] at hlj; exact hcl j oj hj hlj e he hb
theorem wpIn_draw (hm:P.follows .mixedOrders=true) (hB:drawB ops cl=true) {id:Nat} {r:Option Nat} {Q:Exit→Act→World→Prop} {K:Act→Hp→Prop} {a:Act} {w:World}
   (h:runD q P ops cl K (List.range ops.size) a w.heap) (hQ:∀ a' w',K a' w'.heap→Sm w w'→Q .normal a' w'):(Code.region id ops true).wpIn (ZV r) 0 P Q a w:=by
 refine wpIn_region_any hm ?_
 have hsz:(List.range ops.size).length=ops.size:=List.length_range
 rw [← hsz]
 refine wpAnyIn_of_runD (q:=q) hB (w₀:=w) hQ (List.range ops.size) _ a w.heap _ List.pairwise_lt_range (by simp) (fun i=>?_) (fun j oj hj hlj=>?_) (Ex.refl q _) ⟨rfl,rfl,rfl⟩ h
 · simp only [List.mem_range,hsz,Array.getD_eq_getD_getElem?,Array.getElem?_replicate]
   constructor
   · intro hi; exact ⟨hi,by rw [if_pos hi]; rfl⟩
   · exact fun h=>h.1
 · simp only [hsz,Array.getD_eq_getD_getElem?,Array.getElem?_replicate] at hlj
   split at hlj <;> cases hlj
end
end Go.Vc
