/- Parts of a proof, joined in build order: a calculus of contracts, contracts of functions. -/
import Derived.Test.YtfegkmmifpgpfaaGreatRQE
import Derived.WalkKit
import Derived.ProofKit
import Derived.OpenShut
import Derived.OpenVars
set_option linter.unusedVariables false
set_option linter.unusedSimpArgs false
set_option maxHeartbeats 8000000
set_option maxRecDepth 100000
namespace Go.Vc
open Go.ChangeShapes Go.WideShapes Go.ChangeAt Go.RowKit
theorem Fc.calls{P:Program}{f:FuncId}{args:Array Value}{W:World}{R:Value->Hp->Prop}(h:Fc P f args W.heap R) :
   Calls P f args W fun e W'=>∃ v,e=.returned v/\R v W'.heap/\Sm W W':=
 callsIn_wide.1 (h W rfl)
theorem TL{W W':World}(hs:Sm W W')(hx:Ext W.heap W'.heap):Below W.heap.size W W':=
 ⟨hs.os,hs.tape,hs.out,hx.le,hx.same⟩
section
variable{H:Type}{enc:TypeId × Value->H}{P:Program}
theorem uE(hl:laidOutB P=true){W W':World}(hb:Below W.heap.size W W'):∀ {ts:List TypeId} {vs:List Value} {ds:List (DataW H)} {ps:List MemPlace},
   (ts.all fun t=>P.readableRec t && decide (t<P.types.size))=true->DataW.TrodAll enc P W 0 (fun _=>true) true ts vs ds ps->(∀ x∈ps,x.block<W.heap.size) ->
   DataW.TrodAll enc P W' 0 (fun b=>decide (b<W.heap.size)) true ts vs ds ps
 | [],vs,ds,ps,_,h,_=>by
   cases vs<;>cases ds<;>first | exact h | exact h.elim
 | t :: ts,[],_,_,_,h,_=>by simp[DataW.TrodAll]at h
 | t :: ts,v :: vs,[],_,_,h,_=>by simp[DataW.TrodAll]at h
 | t :: ts,v :: vs,d :: ds,ps,hr,h,kc=>by
   obtain⟨p,p',h1,h2,rfl⟩:=h
   simp only[List.all_cons,jd,iS]at hr
   exact⟨p,p',Below.trod hl hr.1.1 hr.1.2 h1 hb (fun x hx=>kc x (by simp[hx])),uE hl hb hr.2 h2 (fun x hx=>kc x (by simp[hx])),rfl⟩
theorem Ap{w:World}{b:Nat}{sp:Nat->Bool}{hd:Bool}:∀ {ts:List TypeId} {vs:List Value} {ds:List (DataW H)} {ps:List MemPlace},DataW.TrodAll enc P w b sp hd ts vs ds ps->ds.length=ts.length
 | [],[],[],_,_=>rfl
 | [],[],_ :: _,_,h=>by simp[DataW.TrodAll]at h
 | [],_ :: _,_,_,h=>by simp[DataW.TrodAll]at h
 | _ :: _,[],_,_,h=>by simp[DataW.TrodAll]at h
 | _ :: _,_ :: _,[],_,h=>by simp[DataW.TrodAll]at h
 | _ :: ts,_ :: vs,_ :: ds,_,h=>by
  obtain⟨_,_,_,hs,_⟩:=h;simp[Ap hs]
theorem vT{w:World}{sp:Nat->Bool}:∀ {ns:List String} {gs:List (DataW H)} {ps:List MemPlace},DataW.TrodVars enc P w sp ns gs ps->gs.length=ns.length
 | [],[],_,_=>rfl
 | [],_ :: _,_,h=>by simp[DataW.TrodVars]at h
 | _ :: _,[],_,h=>by simp[DataW.TrodVars]at h
 | _ :: ns,_ :: gs,_,h=>by
  obtain⟨_,_,_,_,_,_,_,_,_,_,hs,_⟩:=h;simp[vT hs]
theorem RI{f:Func}{s:ChangeSpec}{fresh handsOn:Bool}{W W':World}{args:Array Value}{ds gs:List (DataW H)}{before:List MemPlace}{t:TypeId}
   (hl:laidOutB P=true) (ht:P.underlying t=some .bool) (hr:f.resultTypes=#[t])
   (r8:(f.params.toList.all fun t=>P.readableRec t && decide (t<P.types.size))=true) (Wl:varsRowed P s.vars=true)
   (hW:DataW.Whole enc P f.params.toList s.vars false W args.toList ds gs before)
   (agt:ds.length=f.params.size->gs.length=s.vars.length->s.fn H (ds++gs)={ results:=[.lit (.bool true)],args:=ds,vars:=gs })
   (hs:Sm W W') (hx:Ext W.heap W'.heap):s.post enc P f false fresh handsOn false W args (.bool true) W':=by
 have hb:=TL hs hx
 have kc:=hW.lt
 have hW0:=hW
 obtain⟨p,q,hA,hV,rfl,hz,hn⟩:=hW0
 have e1:ds.length=f.params.size:=by rw[Ap hA];simp
 have e2:gs.length=s.vars.length:=vT hV
 have e:=agt e1 e2
 refine⟨ds,gs,p++q,[],p,q,hW,?_,?_,?_,hb.frame _,fun h=>by cases h⟩
 · rw[e,hr]
   exact trodAll_mk1 (shut_bool ht true)
 · rw[e]
   exact uE hl hb r8 hA (fun x hx=>kc x (by simp[hx]))
 · rw[e]
   exact hb.trodVars hl Wl hV
theorem ahU{W:World}{r:Reach}{base n:Nat}{t:TypeId}{v:Value}{d:TypeDesc}{ts:List TypeId}(ht:P.underlying t=some d)(hd:(match d with | .struct _ | .array _ _=>true | _=>false)=true)
   (hc:P.cellsOf t=n) (hts:P.cellTypes P.depth t=some ts) (hn:ts.length=n) (h:Value.okWide P W r base t v) :
   ∃ cs:Array Value,v=.agg cs/\cs.size=n/\∀ (i:Nat) (u:TypeId),ts[i]?=some u->∃ x,cs[i]?=some x/\Cell.okWide P W r base u x:=by
 have h':∃ cs,v=.agg cs/\cs.size=P.cellsOf t/\Row.okWide P W r base t cs:=by
   unfold Value.okWide at h
   rw[ht]at h
   cases d<;>first | exact h | cases hd
 obtain⟨cs,rfl,lH,ts',akc,_,r9⟩:=h'
 have e:ts'=ts:=Option.some.inj (akc.symm.trans hts)
 subst e
 refine⟨cs,rfl,by rw[lH,hc],fun i u hu=>?_⟩
 have hi:i<ts'.length:=by
   rcases jx i ts'.length with h1 | h1
   · exact h1
   · rw[eR h1]at hu;cases hu
 have Gg:i<cs.size:=by rw[lH,hc,<- hn];exact hi
 refine⟨cs[i],ka Gg,?_⟩
 obtain⟨u',DA,kD⟩:=r9 i _ (ka Gg)
 rw[mf hi,hu]at DA
 injection DA with DA
 subst DA
 exact kD
theorem F0{W:World}{r:Reach}{base n:Nat}{t:TypeId}{d:TypeDesc}{ts:List TypeId}{cs:Array Value}(ht:P.underlying t=some d)(hd:(match d with | .struct _ | .array _ _=>true | _=>false)=true)
   (hc:P.cellsOf t=n) (hts:P.cellTypes P.depth t=some ts) (hn:ts.length=n) (lH:cs.size=n) (r9:∀ (i:Nat) (u:TypeId),ts[i]?=some u->∃ x,cs[i]?=some x/\Cell.okWide P W r base u x):Value.okWide P W r base t (.agg cs):=by
 have h':∃ ke,Value.agg cs=.agg ke/\ke.size=P.cellsOf t/\Row.okWide P W r base t ke:=by
   refine⟨cs,rfl,by rw[lH,hc],ts,hts,⟨1,by rw[lH,hn,kY]⟩,fun i v hv=>?_⟩
   have hi:i<cs.size:=by
     rcases jx i cs.size with h1 | h1
     · exact h1
     · rw[iQ h1]at hv;cases hv
   have Gg:i<ts.length:=by rw[hn,<- lH];exact hi
   obtain⟨x,hx,kD⟩:=r9 i ts[i] (bU Gg)
   rw[hv]at hx
   injection hx with hx
   subst hx
   exact⟨ts[i],by rw[mf Gg];exact bU Gg,kD⟩
 unfold Value.okWide
 rw[ht]
 cases d<;>first | exact h' | cases hd
theorem y8{W:World}{r:Reach}{base:Nat}{u:TypeId}{k:IntKind}{n:Int}(hu:P.underlying u=some (.int k))(h0:k.min<=n)(h1:n<=k.max):Cell.okWide P W r base u (.int k n):=by
 simp[Cell.okWide,hu,Cell.ok,IntKind.has,h0,h1]
theorem FA{C:Checked}{os:Os}{f:FuncId}{fn:Func}{s:ChangeSpec}{conds:List PathCond}{apart:Bool}(args:Array Value)(fuel:Nat)
   (hv:(World.plainHolding C.prog os ⟨#[],args,[]⟩).variablesB C.prog=true)
   (hr:((World.plainHolding C.prog os ⟨#[],args,[]⟩).heap.toList.drop C.prog.globals.size).take ((begin C.prog (fun _ _=>0) default).world.heap.size - C.prog.globals.size) =
     (begin C.prog (fun _ _=>0) default).world.heap.toList.drop C.prog.globals.size)
   (hfn:C.prog.funcs[f]?=some fn) (h1:C.prog.inits.idxOf? f=none) (h2:fn.body.isSome=true/\fn.ours=false/\fn.nfree=0/\args.size=fn.params.size)
   (od:∀ (W:World) (base:Nat) (j:Nat) (t:TypeId) (v:Value),fn.params[j]?=some t->args[j]?=some v->Value.okWide C.prog W .any base t v)
   (acF:s.preB enc C.prog fn conds apart (World.plainHolding C.prog os ⟨#[],args,[]⟩).memory args fuel=true)
   (lH:s.sizedB enc C.prog fn apart (World.plainHolding C.prog os ⟨#[],args,[]⟩).memory args fuel=true) :
   ∃ (w:World) (tape:Tape) (i:Input),w.os=os/\(w.forCall tape i).Shaped C.prog/\i.vars=[]/\Input.okWide C.prog (w.forCall tape i) .any w.heap.size f i /\
     s.pre6 enc C.prog fn conds apart (w.forCall tape i).memory i.args/\({}:Assume).holds C.prog (lone (Frame.enter C.prog f i.args .normal) [] (w.forCall tape i)):=
 ⟨World.holding C.prog os ⟨#[],args,[]⟩,fun _ _=>0,⟨#[],args,[]⟩,rfl,World.shaped_of_B hv hr,rfl,
   ⟨fun o ho=>by simp at ho,fun gv hgv=>by simp at hgv,h1,fn,hfn,h2.1,h2.2.1,h2.2.2.1,h2.2.2.2,od _ _⟩,⟨ChangeSpec.pre_of_preB acF,sizedMet_of_sizedB lH⟩,by
   simp only[Assume.holds]
   exact⟨by simp,by simp,fun _=>Modest.zero,by simp,by simp⟩⟩
end
theorem VT:IntKind.i64.min = -9223372036854775808:=by decide
theorem max_i64:IntKind.i64.max=9223372036854775807:=by decide
theorem abV:IntKind.u8.min=0:=by decide
theorem abZ:IntKind.u8.max=255:=by decide
end Go.Vc
