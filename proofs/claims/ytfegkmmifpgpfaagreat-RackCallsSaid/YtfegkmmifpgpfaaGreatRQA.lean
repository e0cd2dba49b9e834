/- Parts of a proof, joined in build order: a calculus of contracts, contracts of functions. -/
import Derived.RangeFuncIn
import Derived.OrdersIn
import Derived.KernelRfl
set_option linter.unusedVariables false
set_option linter.unusedSimpArgs false
set_option maxHeartbeats 8000000
set_option maxRecDepth 100000
namespace Go.Vc
theorem aH:type_of% @if_neg:=@if_neg
theorem aR:type_of% @Nat.zero_add:=@Nat.zero_add
theorem aU:type_of% @if_pos:=@if_pos
theorem bH:type_of% @Nat.add_zero:=@Nat.add_zero
theorem bR:type_of% @List.length_map:=@List.length_map
theorem bU:type_of% @List.getElem?_eq_getElem:=@List.getElem?_eq_getElem
theorem cH:type_of% @decide_eq_false:=@decide_eq_false
theorem cR:type_of% @List.length_append:=@List.length_append
theorem cU:type_of% @List.map_append:=@List.map_append
theorem dH:type_of% @List.mem_cons_of_mem:=@List.mem_cons_of_mem
theorem dR:type_of% @List.getElem?_map:=@List.getElem?_map
theorem dU:type_of% @List.getElem?_cons_zero:=@List.getElem?_cons_zero
theorem eH:type_of% @List.mem_cons_self:=@List.mem_cons_self
theorem eR:type_of% @List.getElem?_eq_none:=@List.getElem?_eq_none
theorem eU:type_of% @List.mem_singleton:=@List.mem_singleton
theorem fH:type_of% @List.mem_append:=@List.mem_append
theorem fR:type_of% @List.getElem?_toArray:=@List.getElem?_toArray
theorem fU:type_of% @List.take_succ_eq_append_getElem:=@List.take_succ_eq_append_getElem
theorem gH:type_of% @List.getElem?_cons_succ:=@List.getElem?_cons_succ
theorem gR:type_of% @List.length_cons:=@List.length_cons
theorem gU:type_of% @decide_eq_true:=@decide_eq_true
theorem iH:type_of% @Option.some.injEq:=@Option.some.injEq
theorem iQ:type_of% @Array.getElem?_eq_none:=@Array.getElem?_eq_none
theorem iR:type_of% @Option.map_some:=@Option.map_some
theorem iS:type_of% @decide_eq_true_eq:=@decide_eq_true_eq
theorem iT:type_of% @List.mem_map:=@List.mem_map
theorem iU:type_of% @Nat.le_refl:=@Nat.le_refl
theorem iV:type_of% @Array.all_toList:=@Array.all_toList
theorem iW:type_of% @Bool.not_true:=@Bool.not_true
theorem iX:type_of% @Nat.mul_one:=@Nat.mul_one
theorem iY:type_of% @Array.getElem?_setIfInBounds:=@Array.getElem?_setIfInBounds
theorem jb:type_of% @List.map_cons:=@List.map_cons
theorem jd:type_of% @Bool.and_eq_true:=@Bool.and_eq_true
theorem jf:type_of% @Option.map_eq_some_iff:=@Option.map_eq_some_iff
theorem jg:type_of% @List.mem_cons:=@List.mem_cons
theorem jh:type_of% @Classical.not_not:=@Classical.not_not
theorem ji:type_of% @Array.getElem?_extract:=@Array.getElem?_extract
theorem jj:type_of% @Nat.lt_of_lt_of_le:=@Nat.lt_of_lt_of_le
theorem jk:type_of% @List.take_length:=@List.take_length
theorem jl:type_of% @Bool.false_eq_true:=@Bool.false_eq_true
theorem jm:type_of% @Array.ext_getElem?:=@Array.ext_getElem?
theorem jo:type_of% @List.nodup_cons:=@List.nodup_cons
theorem jq:type_of% @decide_eq_false_iff_not:=@decide_eq_false_iff_not
theorem jr:type_of% @List.getD_eq_getElem?_getD:=@List.getD_eq_getElem?_getD
theorem ju:type_of% @List.getElem_mem:=@List.getElem_mem
theorem jx:type_of% @Nat.lt_or_ge:=@Nat.lt_or_ge
theorem jy:type_of% @List.getElem?_set_ne:=@List.getElem?_set_ne
theorem jz:type_of% @List.eq_nil_of_length_eq_zero:=@List.eq_nil_of_length_eq_zero
theorem jB:type_of% @List.getElem?_append_right:=@List.getElem?_append_right
theorem jD:type_of% @if_false:=@if_false
theorem jF:type_of% @List.drop_eq_getElem_cons:=@List.drop_eq_getElem_cons
theorem jG:type_of% @Option.bind_some:=@Option.bind_some
theorem jH:type_of% @List.find?_append:=@List.find?_append
theorem jI:type_of% @List.mem_append_left:=@List.mem_append_left
theorem jJ:type_of% @List.nodup_append:=@List.nodup_append
theorem jK:type_of% @Int.toNat_natCast:=@Int.toNat_natCast
theorem jL:type_of% @Bool.eq_iff_iff:=@Bool.eq_iff_iff
theorem jN:type_of% @Bool.not_false:=@Bool.not_false
theorem jO:type_of% @if_true:=@if_true
theorem jP:type_of% @List.append_assoc:=@List.append_assoc
theorem jT:type_of% @List.find?_cons_of_pos:=@List.find?_cons_of_pos
theorem jU:type_of% @Nat.mul_le_mul_right:=@Nat.mul_le_mul_right
theorem jV:type_of% @List.mem_of_getElem?:=@List.mem_of_getElem?
theorem jW:type_of% @List.length_nil:=@List.length_nil
theorem jX:type_of% @List.getElem?_set_self:=@List.getElem?_set_self
theorem jY:type_of% @List.append_nil:=@List.append_nil
theorem j0:type_of% @List.find?_eq_none:=@List.find?_eq_none
theorem j6:type_of% @Option.bind_eq_some_iff:=@Option.bind_eq_some_iff
theorem j8:type_of% @List.find?_cons_of_neg:=@List.find?_cons_of_neg
theorem ka:type_of% @Array.getElem?_eq_getElem:=@Array.getElem?_eq_getElem
theorem kg:type_of% @Nat.le_trans:=@Nat.le_trans
theorem ki:type_of% @List.mem_range:=@List.mem_range
theorem kl:type_of% @List.all_eq_true:=@List.all_eq_true
theorem km:type_of% @List.mem_append_right:=@List.mem_append_right
theorem kn:type_of% @Nat.add_mul:=@Nat.add_mul
theorem ko:type_of% @List.getElem?_append_left:=@List.getElem?_append_left
theorem kr:type_of% @decide_eq_decide:=@decide_eq_decide
theorem ks:type_of% @of_decide_eq_true:=@of_decide_eq_true
theorem ku:type_of% @List.ext_getElem?:=@List.ext_getElem?
theorem kN:type_of% @List.getElem?_range:=@List.getElem?_range
theorem kQ:type_of% @Array.getElem?_eq_some_iff:=@Array.getElem?_eq_some_iff
theorem kV:type_of% @Nat.mod_lt:=@Nat.mod_lt
theorem kX:type_of% @Array.getElem?_replicate:=@Array.getElem?_replicate
theorem kY:type_of% @Nat.one_mul:=@Nat.one_mul
theorem lq:type_of% @Nat.pow_le_pow_right:=@Nat.pow_le_pow_right
theorem lr:type_of% @List.setIfInBounds_toArray:=@List.setIfInBounds_toArray
theorem lD:type_of% @List.mem_or_eq_of_mem_set:=@List.mem_or_eq_of_mem_set
theorem lG:type_of% @Array.length_toList:=@Array.length_toList
theorem lL:type_of% @Array.size_setIfInBounds:=@Array.size_setIfInBounds
theorem lS:type_of% @Array.getElem?_append_right:=@Array.getElem?_append_right
theorem lU:type_of% @List.getElem?_set:=@List.getElem?_set
theorem lV:type_of% @List.length_set:=@List.length_set
theorem mf:type_of% @Nat.mod_eq_of_lt:=@Nat.mod_eq_of_lt
theorem mg:type_of% @List.length_take:=@List.length_take
theorem mj:type_of% @Bool.true_eq_false:=@Bool.true_eq_false
theorem mC:type_of% @Nat.le_succ:=@Nat.le_succ
theorem mE:type_of% @List.getElem?_replicate:=@List.getElem?_replicate
theorem mT:type_of% @Nat.zero_le:=@Nat.zero_le
theorem mV:type_of% @Array.toList_inj:=@Array.toList_inj
theorem mZ:type_of% @List.set_cons_zero:=@List.set_cons_zero
theorem na:type_of% @List.set_cons_succ:=@List.set_cons_succ
theorem nc:type_of% @Array.getElem?_append_left:=@Array.getElem?_append_left
theorem nf:type_of% @List.take_append_drop:=@List.take_append_drop
theorem nj:type_of% @Array.getElem?_toList:=@Array.getElem?_toList
theorem nM:type_of% @Nat.sub_self:=@Nat.sub_self
theorem nN:type_of% @List.size_toArray:=@List.size_toArray
theorem nO:type_of% @Array.toArray_toList:=@Array.toArray_toList
theorem ot:type_of% @List.filterMap_cons:=@List.filterMap_cons
theorem ou:type_of% @Array.getElem?_push:=@Array.getElem?_push
theorem o0:type_of% @Nat.div_div_eq_div_mul:=@Nat.div_div_eq_div_mul
theorem rV:type_of% @List.nodup_nil:=@List.nodup_nil
theorem rW:type_of% @List.dropLast_subset:=@List.dropLast_subset
theorem sE:type_of% @Nat.pow_succ:=@Nat.pow_succ
theorem sF:type_of% @List.map_nil:=@List.map_nil
theorem sG:type_of% @List.cons_append:=@List.cons_append
theorem sK:type_of% @List.mem_of_find?_eq_some:=@List.mem_of_find?_eq_some
theorem uD:type_of% @Nat.lt_irrefl:=@Nat.lt_irrefl
theorem uR:type_of% @Option.map_none:=@Option.map_none
theorem uS:type_of% @List.range_succ:=@List.range_succ
theorem vL:type_of% @Array.size_extract:=@Array.size_extract
theorem An:type_of% @Nat.zero_mul:=@Nat.zero_mul
theorem Ao:type_of% @List.flatMap_cons:=@List.flatMap_cons
theorem DJ:type_of% @Prod.mk.injEq:=@Prod.mk.injEq
theorem Ef:type_of% @List.pairwise_append:=@List.pairwise_append
theorem GP:type_of% @List.mem_filter:=@List.mem_filter
theorem GQ:type_of% @Bool.or_eq_true:=@Bool.or_eq_true
theorem JD:type_of% @Array.getD_eq_getD_getElem?:=@Array.getD_eq_getD_getElem?
theorem LJ:type_of% @Nat.add_sub_cancel:=@Nat.add_sub_cancel
theorem LK:type_of% @List.pairwise_cons:=@List.pairwise_cons
theorem LL:type_of% @List.getElem?_drop:=@List.getElem?_drop
theorem LM:type_of% @List.filter_append:=@List.filter_append
theorem XD:type_of% @Int.natCast_emod:=@Int.natCast_emod
theorem ad6:type_of% @Nat.pow_zero:=@Nat.pow_zero
theorem ad7:type_of% @Nat.add_comm:=@Nat.add_comm
theorem ad8:type_of% @List.map_map:=@List.map_map
theorem ah6:type_of% @Array.getElem?_append:=@Array.getElem?_append
abbrev Hp:=Array Obj
structure Sm(w w':World):Prop where
 os:w'.os=w.os
 out:w'.output=w.output
 tape:w'.tape=w.tape
theorem Sm.refl(w:World):Sm w w:=⟨rfl,rfl,rfl⟩
theorem Sm.trans{a b c:World}(h:Sm a b)(h':Sm b c):Sm a c:=⟨h'.os.trans h.os,h'.out.trans h.out,h'.tape.trans h.tape⟩
structure Ext(H H':Hp):Prop where
 le:H.size<=H'.size
 same:∀ b,b<H.size->H'[b]?=H[b]?
theorem Ext.refl(H:Hp):Ext H H:=⟨iU _,fun _ _=>rfl⟩
theorem Ext.trans{a b c:Hp}(h:Ext a b)(h':Ext b c):Ext a c:=
 ⟨kg h.le h'.le,fun k hk=>(h'.same k (jj hk h.le)).trans (h.same k hk)⟩
theorem Ext.push(H:Hp)(o:Obj):Ext H (H.push o):=
 ⟨by simp,fun k hk=>by rw[ou];split<;>simp_all⟩
theorem Ext.at{H H':Hp}(h:Ext H H'){b:Nat}{o:Obj}(hb:H[b]?=some o):H'[b]?=some o:=by
 have kc:b<H.size:=by
  rcases jx b H.size with h1 | h1
  ·exact h1
  ·rw[iQ h1]at hb;cases hb
 rw[h.same b kc,hb]
def Z5(r:Option Nat):Fence:={ Fence.wide with round:=r }
def Fc(P:Program)(f:FuncId)(args:Array Value)(H:Hp)(R:Value->Hp->Prop):Prop:=
 ∀ w,w.heap=H->CallsIn (Z5 none) 0 P f args w fun e w'=>∃ v,e=.returned v/\R v w'.heap/\Sm w w'
theorem Fc.mono{P:Program}{f:FuncId}{args:Array Value}{H:Hp}{R R':Value->Hp->Prop}(h:Fc P f args H R)(hr:∀ v H',R v H'->R' v H'):Fc P f args H R':=
 fun w hw=>(h w hw).mono fun _ _ ⟨v,he,h1,h2⟩=>⟨v,he,hr _ _ h1,h2⟩
def Rnd(P:Program)(l:Nat)(f:FuncId)(tmps:Array Value)(assign body:Code)(H:Hp)(R:Value->Hp->Prop):Prop:=
 ∀ w,w.heap=H->RoundIn (Z5 none) 0 P l f tmps assign body w fun e w'=>∃ v,e=.returned v/\R v w'.heap/\Sm w w'
theorem Rnd.mono{P:Program}{l:Nat}{f:FuncId}{tmps:Array Value}{assign body:Code}{H:Hp}{R R':Value->Hp->Prop}(h:Rnd P l f tmps assign body H R)(hr:∀ v H',R v H'->R' v H'):Rnd P l f tmps assign body H R':=
 fun w hw=>(h w hw).mono fun _ _ ⟨v,he,h1,h2⟩=>⟨v,he,hr _ _ h1,h2⟩
def Up(P:Program)(w:World)(K:Value->Hp->Prop):Result Next->Prop
 | .ok (.value v) w'=>Sm w w'/\K v w'.heap
 | .ok .skip w'=>Sm w w'/\K undef w'.heap
 | .ok (.enter f args) w'=>Sm w w'/\Fc P f args w'.heap K
 | .ok (.round l f tmps assign body) w'=>Sm w w'/\Rnd P l f tmps assign body w'.heap K
 | _=>False
def Eff(P:Program)(s:Sem Next)(H:Hp)(K:Value->Hp->Prop):Prop:=∀ w,w.heap=H->Up P w K (s.run P w)
theorem Up.mono{P:Program}{w:World}{K K':Value->Hp->Prop}(hk:∀ v H',K v H'->K' v H'){r:Result Next}(h:Up P w K r):Up P w K' r:=by
 cases r with
 | halt x w'=>exact h
 | ok n w'=>cases n<;>first | exact h | exact⟨h.1,hk _ _ h.2⟩ | exact⟨h.1,Fc.mono h.2 hk⟩ | exact⟨h.1,Rnd.mono h.2 hk⟩
theorem Eff.mono{P:Program}{s:Sem Next}{H:Hp}{K K':Value->Hp->Prop}(h:Eff P s H K)(hk:∀ v H',K v H'->K' v H'):Eff P s H K':=
 fun w hw=>(h w hw).mono hk
def Pv(P:Program)(s:Sem Next)(v:Value):Prop:=∀ w,s.run P w=.ok (.value v) w
section
variable{P:Program}{r:Option Nat}{o:Oper}{a:Act}{w:World}
theorem qp(hd:∀ c,o.op≠.defer c){next:Act->World->Prop}{Q:Exit->Act->World->Prop}{K:Value->Hp->Prop}
   (h:Eff P (execOp a.eval o) w.heap K) (hn:∀ v w',K v w'.heap->Sm w w'->next (a.put o.dst v) w'):o.wpIn (Z5 r) 0 P a w next Q:=by
 refine⟨fun _ _=>trivial,?_⟩
 have hs:(Z5 r).round=r:=rfl
 rw[hs,Oper.semAt_eq r a.eval o hd]
 have h1:=h w rfl
 generalize (execOp a.eval o).run P w=res at h1
 cases res with
 | halt x w'=>exact h1.elim
 | ok n w'=>
   cases n<;>simp only[Up]at h1<;>try exact h1.elim
   case value v=>exact hn v w' h1.2 h1.1
   case skip=>exact hn undef w' h1.2 h1.1
   case enter f args=>
     refine⟨fun hd=>by simp[Z5,Fence.wide]at hd,?_⟩
     refine CallsIn.mono (h1.2 w' rfl:CallsIn (Z5 r) 0 P f args w' _) fun e w'' ⟨v,he,hk,mL⟩=>?_
     subst he
     exact hn v w'' hk (h1.1.trans mL)
   case round l f tmps assign body=>
     refine⟨fun hd=>by simp[Z5,Fence.wide]at hd,?_⟩
     refine RoundIn.mono (h1.2 w' rfl:RoundIn (Z5 r) 0 P l f tmps assign body w' _) fun e w'' ⟨v,he,hk,mL⟩=>?_
     subst he
     exact hn v w'' hk (h1.1.trans mL)
end
def Ex(q:Bool)(H H':Hp):Prop:=match q with | true=>Ext H H' | false=>H'=H
theorem Ex.refl(q:Bool)(H:Hp):Ex q H H:=by cases q<;>first | exact Ext.refl H | rfl
theorem Ex.trans{q:Bool}{a b c:Hp}(h:Ex q a b)(h':Ex q b c):Ex q a c:=by
 cases q
 ·exact Eq.trans h' h
 ·exact Ext.trans h h'
def Qw(q:Bool)(P:Program)(s:Sem Next)(H:Hp)(v:Value):Prop:=∀ H',Ex q H H'->Eff P s H' fun u oZ=>u=v/\Ex q H' oZ
theorem Qw.next{q:Bool}{P:Program}{s:Sem Next}{H H':Hp}{v:Value}(h:Qw q P s H v)(hx:Ex q H H'):Qw q P s H' v:=fun _ h2=>h _ (hx.trans h2)
theorem Pv.qw{q:Bool}{P:Program}{s:Sem Next}{v:Value}(h:Pv P s v)(H:Hp):Qw q P s H v:=fun H' _ w hw=>by
 rw[h w];exact⟨Sm.refl w,rfl,by rw[hw];exact Ex.refl q H'⟩
inductive GO where
 | pure | quiet | SZ | fresh
 deriving DecidableEq
section
variable(q:Bool)(P:Program)(ops:Array Oper)(cl:Nat->GO)
def yW(i:Nat)(K:Act->Hp->Prop)(a:Act)(H:Hp):Prop:=
 match ops[i]? with
 | none=>K a H
 | some o=>
  if Region.wanted o (yielded ops a.tmps) then
   match cl i with
   | .pure=>∃ v,Pv P (execOp a.eval o) v/\K (a.put o.dst v) H
   | .quiet=>∃ v,Qw q P (execOp a.eval o) H v/\K (a.put o.dst v) H
   | .SZ=>∀ H',Ex q H H'->Eff P (execOp a.eval o) H' fun v oZ=>K (a.put o.dst v) oZ
   | .fresh=>∀ H',Ex q H H'->Eff P (execOp a.eval o) H' fun v oZ=>Ex q H' oZ/\K (a.put o.dst v) oZ
  else K (a.put o.dst undef) H
def uq(K:Act->Hp->Prop):List Nat->Act->Hp->Prop
 | [],a,H=>∀ H',Ex q H H'->K a H'
 | i :: l,a,H=>yW q P ops cl i (uq K l) a H
end
section
variable{q:Bool}{P:Program}{ops:Array Oper}{cl:Nat->GO}
theorem rl{i:Nat}{K K':Act->Hp->Prop}(h:∀ a H,K a H->K' a H){a:Act}{H:Hp}(hs:yW q P ops cl i K a H):yW q P ops cl i K' a H:=by
 unfold yW at *;cases ho:ops[i]? with
 | none=>simp only[ho]at hs ⊢;exact h _ _ hs
 | some o=>
  simp only[ho]at hs ⊢;by_cases hw:Region.wanted o (yielded ops a.tmps)=true
  ·simp only[hw,jO]at hs ⊢;cases hc:cl i<;>simp only[hc]at hs ⊢
   ·obtain⟨v,h1,h2⟩:=hs;exact⟨v,h1,h _ _ h2⟩
   ·obtain⟨v,h1,h2⟩:=hs;exact⟨v,h1,h _ _ h2⟩
   ·exact fun H' hx=>(hs H' hx).mono fun v oZ hk=>h _ _ hk
   ·exact fun H' hx=>(hs H' hx).mono fun v oZ hk=>⟨hk.1,h _ _ hk.2⟩
  ·simp only[hw,jl,jD]at hs ⊢;exact h _ _ hs
def JS(o:Oper):Bool:=match o.op with | .move _ | .assign _=>true | _=>false
theorem Hh{o:Oper}(h:JS o=true)(ρ:Operand->Value):∃ v,Pv P (execOp ρ o) v:=by
 obtain⟨dst,op,type,pos,after,guard⟩:=o;unfold JS at h;cases op<;>simp only at h<;>(try (cases h;done))
 ·exact⟨_,fun w=>rfl⟩
 ·exact⟨_,fun w=>rfl⟩
theorem Pv.det{s:Sem Next}{u v:Value}(h:Pv P s u)(h':Pv P s v)(w:World):u=v:=by
 have:=(h w).symm.trans (h' w);injection this with h1 h2;injection h1
def uF(ops:Array Oper)(cl:Nat->GO)(k i:Nat):Bool:=
 match ops[k]?,ops[i]? with
 | some ok,some oi=>ok.apart ops oi && (match cl k,cl i with | .pure,_=>true | .quiet,.quiet=>true | .quiet,.pure=>true | .quiet,.fresh=>true | _,.pure=>JS oi | _,_=>false)
 | _,_=>true
def oB(ops:Array Oper):Bool:=ops.toList.all fun o=>match o.op with | .select ..=>false | .defer _=>false | _=>true
theorem u3(h:oB ops=true){i:Nat}{o:Oper}(hi:ops[i]?=some o):(∀ cs b,o.op≠.select cs b)/\∀ c,o.op≠.defer c:=by
 have:=(kl.1 h) o (by simpa using Array.mem_of_getElem? hi);refine⟨fun cs b e=>?_,fun c e=>?_⟩<;>rw[e]at this<;>cases this
theorem BL(hn:oB ops=true){k i:Nat}(hs:uF ops cl k i=true){K:Act->Hp->Prop}{a:Act}{H:Hp}
   (h:yW q P ops cl k (yW q P ops cl i K) a H):yW q P ops cl i (yW q P ops cl k K) a H:=by
 cases hk:ops[k]? with
 | none=>simp only[yW,hk]at h ⊢;exact h
 | some ok=>
   cases hi:ops[i]? with
   | none=>simp only[yW,hi]at h ⊢;exact h
   | some oi=>
     simp only[uF,hk,hi,jd]at hs
     obtain⟨hap,lI⟩:=hs
     obtain⟨h1,h2,h3⟩:=Oper.apart_spec hap
     have nk:=(u3 hn hk).1
     have ni:=(u3 hn hi).1
     have ek:∀ v,execOp (a.put oi.dst v).eval ok=execOp a.eval ok:=fun v=>execOp_put ok nk a oi.dst v h3
     have ei:∀ v,execOp (a.put ok.dst v).eval oi=execOp a.eval oi:=fun v=>execOp_put oi ni a ok.dst v h1
     have wk:∀ v,Region.wanted ok (yielded ops (a.put oi.dst v).tmps)=Region.wanted ok (yielded ops a.tmps):=fun v=>wanted_put ok a oi.dst v h3
     have wi:∀ v,Region.wanted oi (yielded ops (a.put ok.dst v).tmps)=Region.wanted oi (yielded ops a.tmps):=fun v=>wanted_put oi a ok.dst v h1
     have pc:∀ v u,(a.put oi.dst v).put ok.dst u=(a.put ok.dst u).put oi.dst v:=fun v u=>(Act.put_comm a u v h2).symm
     simp only[yW,hk,hi]at h ⊢
     by_cases wkt:Region.wanted ok (yielded ops a.tmps)=true
     · by_cases wit:Region.wanted oi (yielded ops a.tmps)=true
       · simp only[wkt,wit,jO,wk,wi,ek,ei,pc]at h ⊢
         cases ck:cl k<;>cases ci:cl i<;>simp only[ck,ci]at h lI ⊢<;>try (exact absurd lI (by decide))
         · obtain⟨v,hv,u,hu,hK⟩:=h;exact⟨u,hu,v,hv,hK⟩
         · obtain⟨v,hv,u,hu,hK⟩:=h;exact⟨u,hu,v,hv,hK⟩
         · obtain⟨v,hv,hK⟩:=h;exact fun H' hx=>(hK H' hx).mono fun u oZ hk=>⟨v,hv,hk⟩
         · obtain⟨v,hv,hK⟩:=h;exact fun H' hx=>(hK H' hx).mono fun u oZ hk=>⟨hk.1,v,hv,hk.2⟩
         · obtain⟨v,hv,u,hu,hK⟩:=h;exact⟨u,hu,v,hv,hK⟩
         · obtain⟨v,hv,u,hu,hK⟩:=h;exact⟨u,hu,v,hv,hK⟩
         · obtain⟨v,hv,hK⟩:=h;exact fun H' hx=>(hK H' hx).mono fun u oZ hk=>⟨hk.1,v,hv.next (hx.trans hk.1),hk.2⟩
         · obtain⟨v0,hv0⟩:=Hh (P:=P) lI a.eval
           refine⟨v0,hv0,fun H' hx w hw=>(h H' hx w hw).mono fun u oZ hk=>?_⟩
           obtain⟨v,hv,hK⟩:=hk
           rw[Pv.det hv0 hv w];exact hK
         · obtain⟨v0,hv0⟩:=Hh (P:=P) lI a.eval
           refine⟨v0,hv0,fun H' hx w hw=>(h H' hx w hw).mono fun u oZ hk=>?_⟩
           obtain⟨hx2,v,hv,hK⟩:=hk
           rw[Pv.det hv0 hv w];exact⟨hx2,hK⟩
       · simp only[wkt,wit,jO,jl,jD,wk,wi,ek,ei,pc]at h ⊢
         cases ck:cl k<;>simp only[ck]at h lI ⊢
         · obtain⟨v,hv,hK⟩:=h;exact⟨v,hv,hK⟩
         · obtain⟨v,hv,hK⟩:=h;exact⟨v,hv,hK⟩
         · exact h
         · exact h
     · by_cases wit:Region.wanted oi (yielded ops a.tmps)=true
       · simp only[wkt,wit,jO,jl,jD,wk,wi,ek,ei,pc]at h ⊢
         cases ci:cl i<;>simp only[ci]at h lI ⊢
         · obtain⟨v,hv,hK⟩:=h;exact⟨v,hv,hK⟩
         · obtain⟨v,hv,hK⟩:=h;exact⟨v,hv,hK⟩
         · exact h
         · exact h
       · simp only[wkt,wit,jl,jD,wk,wi,pc]at h ⊢
         exact h
theorem Eo(hn:oB ops=true){i:Nat}{K:Act->Hp->Prop}{l2:List Nat}:∀ (l1:List Nat) (a:Act) (H:Hp),(∀ k∈l1,uF ops cl k i=true) ->
   uq q P ops cl K (l1++i :: l2) a H->yW q P ops cl i (uq q P ops cl K (l1++l2)) a H
 | [],_,_,_,h=>h
 | k :: l1,a,H,hs,h=>by
   have h1:yW q P ops cl k (yW q P ops cl i (uq q P ops cl K (l1++l2))) a H:=
     rl (fun a' H' h'=>Eo hn l1 a' H' (fun k' Oj=>hs k' (dH _ Oj)) h') h
   exact BL hn (hs k eH) h1
theorem yK(hn:oB ops=true){r:Option Nat}{Q:Exit->Act->World->Prop}{i:Nat}{K:Act->Hp->Prop}{K':Act->World->Prop}{a:Act}{H:Hp}{w:World}
   (hx:Ex q H w.heap) (h:yW q P ops cl i K a H) (hk:∀ a' H' w',K a' H'->Ex q H' w'.heap->Sm w w'->K' a' w'):wpOpIn (Z5 r) 0 P ops Q i K' a w:=by
 unfold yW at h
 unfold wpOpIn
 cases ho:ops[i]? with
 | none=>simp only[ho]at h ⊢;exact hk _ _ _ h hx (Sm.refl w)
 | some o=>
   simp only[ho]at h ⊢
   by_cases hw:Region.wanted o (yielded ops a.tmps)=true
   · simp only[hw,jO]at h ⊢
     have hd:=(u3 hn ho).2
     cases hc:cl i<;>simp only[hc]at h
     · obtain⟨v,hv,hK⟩:=h
       refine qp hd (hv.qw (q:=q) H _ hx) fun u w' hu mL=>?_
       obtain⟨rfl,AQ⟩:=hu
       exact hk _ _ _ hK (hx.trans AQ) mL
     · obtain⟨v,hv,hK⟩:=h
       refine qp hd (hv _ hx) fun u w' hu mL=>?_
       obtain⟨rfl,AQ⟩:=hu
       exact hk _ _ _ hK (hx.trans AQ) mL
     · exact qp hd (h _ hx) fun u w' hu mL=>hk _ _ _ hu (Ex.refl q _) mL
     · exact qp hd (h _ hx) fun u w' hu mL=>hk _ _ _ hu.2 (Ex.refl q _) mL
   · simp only[hw,jl,jD]at h ⊢
     exact⟨fun _ _=>trivial,hk _ _ _ h hx (Sm.refl w)⟩
def Yd:List Oper->List Nat->List Nat
 | [],acc=>acc
 | o :: l,acc=>Yd l (acc++[o.after.toList.foldl (fun s e=>if Region.binds .any e then s ||| 2 ^ e.on ||| acc.getD e.on 0 else s) 0])
inductive og (ops:Array Oper):Nat->Nat->Prop
 | one {i k:Nat} {o:Oper} {e:Edge} (ho:ops[i]?=some o) (he:e∈o.after) (hb:Region.binds .any e=true) (hk:e.on=k):og ops i k
 | more {i m k:Nat} (h:og ops i m) (h':og ops m k):og ops i k
theorem og.jw{jw:Array Bool}(lI:∀ j oj,ops[j]?=some oj->jw.getD j false=true->∀ e∈oj.after,Region.binds .any e=true->jw.getD e.on false=true)
   {i k:Nat} (h:og ops i k):(∀ o,ops[i]?=some o->∀ e∈o.after,Region.binds .any e=true->jw.getD e.on false=true)->jw.getD k false=true:=by
 induction h with
 | one ho he hb hk=>intro hi;rw[<- hk];exact hi _ ho _ he hb
 | more h h' ih ih'=>intro hi;exact ih' fun o ho e he hb=>lI _ _ ho (ih hi) e he hb
theorem E0(acc:List Nat)(KP:∀ j k,(acc.getD j 0).testBit k=true->og ops j k)(i:Nat)(o:Oper)(ho:ops[i]?=some o) :
   ∀ (es:List Edge) (s:Nat),(∀ e∈es,e∈o.after)->(∀ k,s.testBit k=true->og ops i k) ->
     ∀ k,(es.foldl (fun s e=>if Region.binds .any e then s ||| 2 ^ e.on ||| acc.getD e.on 0 else s) s).testBit k=true->og ops i k
 | [],_,_,hs,k,hk=>hs k hk
 | e :: es,s,AB,hs,k,hk=>by
   refine E0 acc KP i o ho es _ (fun x hx=>AB x (dH _ hx)) (fun k hk=>?_) k hk
   by_cases hb:Region.binds .any e=true
   · simp only[hb,jO]at hk
     have w1:og ops i e.on:=.one ho (AB e eH) hb rfl
     rw[Nat.testBit_or,Nat.testBit_or,GQ,GQ]at hk
     rcases hk with (hk | hk) | hk
     · exact hs k hk
     · rw[Nat.testBit_two_pow]at hk;simp at hk;rw[<- hk];exact w1
     · exact .more w1 (KP _ _ hk)
   · simp only[hb,jl,jD]at hk;exact hs k hk
theorem u6:∀ (l:List Oper) (acc:List Nat),(∀ j,l[j]?=ops[acc.length+j]?)->(∀ j k,(acc.getD j 0).testBit k=true->og ops j k) ->
   ∀ j k,((Yd l acc).getD j 0).testBit k=true->og ops j k
 | [],_,_,KP,j,k,h=>KP j k h
 | o :: l,acc,hl,KP,j,k,h=>by
   refine u6 l _ (fun j=>?_) (fun j k hj=>?_) j k h
   · have:=hl (j+1);simp at this ⊢;rw[this];congr 1;omega
   · have h0:ops[acc.length]?=some o:=by simpa using (hl 0).symm
     rcases Nat.lt_trichotomy j acc.length with kc | heq | AS
     · rw[jr,ko kc,<- jr]at hj;exact KP j k hj
     · subst heq
       simp at hj
       rw[<- Array.foldl_toList]at hj
       exact E0 acc KP acc.length o h0 o.after.toList 0 (fun e he=>by simpa using he) (fun k hk=>by simp at hk) k hj
     · rw[jr,eR (by simp;omega)]at hj;simp at hj
def wM(ops:Array Oper)(cl:Nat->GO):Bool:=
 oB ops &&
 (let ms:=Yd ops.toList []
  (List.range ops.size).all fun i=>(List.range i).all fun k=>(ms.getD i 0).testBit k || uF ops cl k i) &&
 (ops.toList.zipIdx.all fun(o,i)=>o.after.toList.all fun e=>!Region.binds .any e || decide (e.on<i))
theorem Ld(h:wM ops cl=true){k i:Nat}(Sb:k<i)(hi:i<ops.size):og ops i k\/uF ops cl k i=true:=by
 simp only[wM,jd,kl,ki,GQ]at h;rcases h.1.2 i hi k Sb with h1 | h1
 ·exact .inl (u6 ops.toList [] (fun j=>by simp) (fun j k hj=>by simp at hj) i k h1)
 ·exact .inr h1
theorem Le(h:wM ops cl=true){i:Nat}{o:Oper}(hi:ops[i]?=some o){e:Edge}(he:e∈o.after)(hb:Region.binds .any e=true):e.on<i:=by
 simp only[wM,jd]at h;have h2:=(kl.1 h.2) (o,i) (by rw[List.mem_zipIdx_iff_getElem?];simpa using hi);have h3:=(kl.1 h2) e (by simpa using he);simpa[hb]using h3
theorem AL(hB:wM ops cl=true){r:Option Nat}{Q:Exit->Act->World->Prop}{K:Act->Hp->Prop}{w₀:World}
   (hQ:∀ a w,K a w.heap->Sm w₀ w->Q .normal a w):∀ (l:List Nat) (jw:Array Bool) (a:Act) (H:Hp) (w:World),
     l.Pairwise (·<·)->jw.size=ops.size->(∀ i,i∈l↔i<ops.size/\jw.getD i false=false) ->
     (∀ j oj,ops[j]?=some oj->jw.getD j false=true->∀ e∈oj.after,Region.binds .any e=true->jw.getD e.on false=true) ->
     Ex q H w.heap->Sm w₀ w->uq q P ops cl K l a H->wpAnyIn (Z5 r) 0 P .any ops Q l.length jw a w:=by
 have hn:oB ops=true:=by simp only[wM,jd]at hB;exact hB.1.1
 have rdy:∀ (l:List Nat) (jw:Array Bool),jw.size=ops.size->(∀ i,i∈l↔i<ops.size/\jw.getD i false=false)->∀ i,i∈Region.ready .any ops jw->i∈l:=by
   intro l jw lH hl i hi
   obtain⟨h1,o,ho,_⟩:=mem_ready.1 hi
   have kc:i<ops.size:=(kQ.1 ho).1
   refine(hl i).2 ⟨kc,?_⟩
   simp[lH,kc]at h1 ⊢
   exact h1
 have emp:∀ (l:List Nat) (jw:Array Bool),l.Pairwise (·<·)->jw.size=ops.size->(∀ i,i∈l↔i<ops.size/\jw.getD i false=false)->Region.ready .any ops jw=[]->l=[]:=by
   intro l jw hp lH hl hr
   cases l with
   | nil=>rfl
   | cons i l=>
     exfalso
     have hi:=(hl i).1 eH
     have:i∈Region.ready .any ops jw:=by
       obtain⟨o,ho⟩:∃ o,ops[i]?=some o:=⟨_,ka hi.1⟩
       refine mem_ready.2 ⟨by simp[lH,hi.1]at hi ⊢;exact hi,o,ho,fun e he hb=>?_⟩
       have kc:=Le hB ho he hb
       cases hg:jw.getD e.on false with
       | true=>rfl
       | false=>
         have hm:=(hl e.on).2 ⟨by omega,hg⟩
         rcases jg.1 hm with h1 | h1
         · omega
         · have:=(LK.1 hp).1 _ h1;omega
     rw[hr]at this;cases this
 intro l
 induction hlen:l.length generalizing l with
 | zero=>
   intro jw a H w hp lH hl lI hx mL h
   have:l=[]:=jz hlen
   subst this
   refine(⟨?_,hQ a w (h _ hx) mL⟩:_/\_)
   cases hr:Region.ready .any ops jw with
   | nil=>rfl
   | cons i t=>have:=rdy [] jw lH hl i (by rw[hr];exact eH);cases this
 | succ n ih=>
   intro jw a H w hp lH hl lI hx mL h
   refine⟨fun hr=>(by have:=emp l jw hp lH hl hr;rw[this]at hlen;cases hlen),fun i hi=>?_⟩
   have Se:=rdy l jw lH hl i hi
   obtain⟨l1,l2,rfl⟩:=List.append_of_mem Se
   obtain⟨_,oi,Og,mc⟩:=mem_ready.1 hi
   have kc:i<ops.size:=(kQ.1 Og).1
   obtain⟨hp1,hp2,hp3⟩:=Ef.1 hp
   have hsw:∀ k∈l1,uF ops cl k i=true:=fun k hk=>by
     have Sb:k<i:=hp3 k hk i eH
     rcases Ld hB Sb kc with h1 | h1
     · exfalso
       have h2:=h1.jw lI fun o ho e he hb=>by rw[Og]at ho;cases ho;exact mc e he hb
       have h3:=((hl k).1 (jI _ hk)).2
       rw[h2]at h3;cases h3
     · exact h1
   have h1:=Eo hn l1 a H hsw h
   have Oa:∀ j,(jw.setIfInBounds i true).getD j false=(if j=i then true else jw.getD j false):=fun j=>by
     by_cases AR:j=i
     · subst AR;simp[lH,kc]
     · rw[getD_set_ne false (Ne.symm AR),aH AR]
   have akz:i ∉ l1/\i ∉ l2:=⟨fun hm=>by have:=hp3 i hm i eH;omega,fun hm=>by have:=(LK.1 hp2).1 i hm;omega⟩
   refine yK hn hx h1 fun a' H' w' hr AQ vn=>?_
   refine ih (l1++l2) (by simp at hlen ⊢;omega) (jw.setIfInBounds i true) a' H' w' ?_ (by simp[lH]) (fun j=>?_) (fun j oj hj JJ e he hb=>?_) AQ (mL.trans vn) hr
   · exact Ef.2 ⟨hp1,(LK.1 hp2).2,fun x hx y hy=>hp3 x hx y (dH _ hy)⟩
   · rw[Oa]
     by_cases AR:j=i
     · subst AR;simp[akz]
     · rw[aH AR,<- hl j];simp[AR]
   · rw[Oa]at JJ ⊢
     by_cases lP:e.on=i
     · rw[aU lP]
     · rw[aH lP]
       by_cases AR:j=i
       · subst AR;rw[Og]at hj;cases hj;exact mc e he hb
       · rw[aH AR]at JJ;exact lI j oj hj JJ e he hb
theorem Eg(hm:P.follows .mixedOrders=true)(hB:wM ops cl=true){id:Nat}{r:Option Nat}{Q:Exit->Act->World->Prop}{K:Act->Hp->Prop}{a:Act}{w:World}
   (h:uq q P ops cl K (List.range ops.size) a w.heap) (hQ:∀ a' w',K a' w'.heap->Sm w w'->Q .normal a' w'):(Code.region id ops true).wpIn (Z5 r) 0 P Q a w:=by
 refine wpIn_region_any hm ?_
 have lH:(List.range ops.size).length=ops.size:=List.length_range
 rw[<- lH]
 refine AL (q:=q) hB (w₀:=w) hQ (List.range ops.size) _ a w.heap _ List.pairwise_lt_range (by simp) (fun i=>?_) (fun j oj hj JJ=>?_) (Ex.refl q _) ⟨rfl,rfl,rfl⟩ h
 · simp only[ki,lH,JD,kX]
   constructor
   · intro hi;exact⟨hi,by rw[aU hi];rfl⟩
   · exact fun h=>h.1
 · simp only[lH,JD,kX]at JJ
   split at JJ<;>cases JJ
end
end Go.Vc
