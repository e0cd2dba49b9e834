/- Parts of a proof, joined in build order: a calculus of contracts, contracts of functions. -/
import Derived.Test.YtgkadmojokfohaaGreatFSE
import Derived.WalkKit
import Derived.ProofKit
import Derived.OpenShut
import Derived.OpenVars
set_option linter.unusedVariables false
set_option linter.unusedSimpArgs false
namespace Go.Vc
open Go.ChangeShapes Go.WideShapes Go.ChangeAt Go.RowKit
theorem Fc.calls {P:Program} {f:FuncId} {args:Array Value} {W:World} {R:Value→Hp→Prop} (h:Fc P f args W.heap R) :
   Calls P f args W fun e W'=>∃ v,e=.returned v∧R v W'.heap∧Sm W W':=
 callsIn_wide.1 (h W rfl)
theorem below_of {W W':World} (hs:Sm W W') (hx:Ext W.heap W'.heap):Below W.heap.size W W':=
 ⟨hs.os,hs.tape,hs.out,hx.le,hx.same⟩
section
variable {H:Type} {enc:TypeId × Value→H} {P:Program}
theorem trodAll_below (hl:laidOutB P=true) {W W':World} (hb:Below W.heap.size W W'):∀ {ts:List TypeId} {vs:List Value} {ds:List (DataW H)} {ps:List MemPlace},
   (ts.all fun t=>P.readableRec t && decide (t<P.types.size))=true→DataW.TrodAll enc P W 0 (fun _=>true) true ts vs ds ps→(∀ x∈ps,x.block<W.heap.size) →
   DataW.TrodAll enc P W' 0 (fun b=>decide (b<W.heap.size)) true ts vs ds ps
 | [],vs,ds,ps,_,h,_=>by
   cases vs <;> cases ds <;> first | exact h | exact h.elim
 | t :: ts,[],_,_,_,h,_=>by simp [DataW.TrodAll] at h
 | t :: ts,v :: vs,[],_,_,h,_=>by simp [DataW.TrodAll] at h
 | t :: ts,v :: vs,d :: ds,ps,hr,h,hlt=>by
   obtain ⟨p,p',h1,h2,rfl⟩:=h
   simp only [List.all_cons,Bool.and_eq_true,decide_eq_true_eq] at hr
   exact ⟨p,p',Below.trod hl hr.1.1 hr.1.2 h1 hb (fun x hx=>hlt x (by simp [hx])),trodAll_below hl hb hr.2 h2 (fun x hx=>hlt x (by simp [hx])),rfl⟩
theorem trodAll_len {w:World} {b:Nat} {sp:Nat→Bool} {hd:Bool}:∀ {ts:List TypeId} {vs:List Value} {ds:List (DataW H)} {ps:List MemPlace},DataW.TrodAll enc P w b sp hd ts vs ds ps→ds.length=ts.length
 | [],[],[],_,_=>rfl
 | [],[],_ :: _,_,h=>by simp [DataW.TrodAll] at h
 | [],_ :: _,_,_,h=>by simp [DataW.TrodAll] at h
 | _ :: _,[],_,_,h=>by simp [DataW.TrodAll] at h
 | _ :: _,_ :: _,[],_,h=>by simp [DataW.TrodAll] at h
 | _ :: ts,_ :: vs,_ :: ds,_,h=>by
   obtain ⟨_,_,_,hs,_⟩:=h
   simp [trodAll_len hs]
theorem trodVars_len {w:World} {sp:Nat→Bool}:∀ {ns:List String} {gs:List (DataW H)} {ps:List MemPlace},DataW.TrodVars enc P w sp ns gs ps→gs.length=ns.length
 | [],[],_,_=>rfl
 | [],_ :: _,_,h=>by simp [DataW.TrodVars] at h
 | _ :: _,[],_,h=>by simp [DataW.TrodVars] at h
 | _ :: ns,_ :: gs,_,h=>by
   obtain ⟨_,_,_,_,_,_,_,_,_,_,hs,_⟩:=h
   simp [trodVars_len hs]
theorem law_post {f:Func} {s:ChangeSpec} {fresh handsOn:Bool} {W W':World} {args:Array Value} {ds gs:List (DataW H)} {before:List MemPlace} {t:TypeId}
   (hl:laidOutB P=true) (ht:P.underlying t=some .bool) (hr:f.resultTypes=#[t])
   (hps:(f.params.toList.all fun t=>P.readableRec t && decide (t<P.types.size))=true) (hvs:varsRowed P s.vars=true)
   (hW:DataW.Whole enc P f.params.toList s.vars false W args.toList ds gs before)
   (hspec:ds.length=f.params.size→gs.length=s.vars.length→s.fn H (ds++gs)={ results:=[.lit (.bool true)],args:=ds,vars:=gs })
   (hs:Sm W W') (hx:Ext W.heap W'.heap):s.post enc P f false fresh handsOn false W args (.bool true) W':=by
 have hb:=below_of hs hx
 have hlt:=hW.lt
 have hW0:=hW
 obtain ⟨p,q,hA,hV,rfl,hz,hn⟩:=hW0
 have e1:ds.length=f.params.size:=by rw [trodAll_len hA]; simp
 have e2:gs.length=s.vars.length:=trodVars_len hV
 have e:=hspec e1 e2
 refine ⟨ds,gs,p++q,[],p,q,hW,?_,?_,?_,hb.frame _,fun h=>by cases h⟩
 · rw [e,hr]
   exact trodAll_mk1 (shut_bool ht true)
 · rw [e]
   exact trodAll_below hl hb hps hA (fun x hx=>hlt x (by simp [hx]))
 · rw [e]
   exact hb.trodVars hl hvs hV
theorem cells_of {W:World} {r:Reach} {base n:Nat} {t:TypeId} {v:Value} {d:TypeDesc} {ts:List TypeId} (ht:P.underlying t=some d) (hd:(match d with | .struct _ | .array _ _=>true | _=>false)=true)
   (hc:P.cellsOf t=n) (hts:P.cellTypes P.depth t=some ts) (hn:ts.length=n) (h:Value.okWide P W r base t v) :
   ∃ cs:Array Value,v=.agg cs∧cs.size=n∧∀ (i:Nat) (u:TypeId),ts[i]?=some u→∃ x,cs[i]?=some x∧Cell.okWide P W r base u x:=by
 have h':∃ cs,v=.agg cs∧cs.size=P.cellsOf t∧Row.okWide P W r base t cs:=by
   unfold Value.okWide at h
   rw [ht] at h
   cases d <;> first | exact h | cases hd
 obtain ⟨cs,rfl,hsz,ts',hts',_,hcell⟩:=h'
 have e:ts'=ts:=Option.some.inj (hts'.symm.trans hts)
 subst e
 refine ⟨cs,rfl,by rw [hsz,hc],fun i u hu=>?_⟩
 have hi:i<ts'.length:=by
   rcases Nat.lt_or_ge i ts'.length with h1 | h1
   · exact h1
   · rw [List.getElem?_eq_none h1] at hu; cases hu
 have hi2:i<cs.size:=by rw [hsz,hc,← hn]; exact hi
 refine ⟨cs[i],Array.getElem?_eq_getElem hi2,?_⟩
 obtain ⟨u',hu',hok⟩:=hcell i _ (Array.getElem?_eq_getElem hi2)
 rw [Nat.mod_eq_of_lt hi,hu] at hu'
 injection hu' with hu'
 subst hu'
 exact hok
theorem okWide_cells {W:World} {r:Reach} {base n:Nat} {t:TypeId} {d:TypeDesc} {ts:List TypeId} {cs:Array Value} (ht:P.underlying t=some d) (hd:(match d with | .struct _ | .array _ _=>true | _=>false)=true)
   (hc:P.cellsOf t=n) (hts:P.cellTypes P.depth t=some ts) (hn:ts.length=n) (hsz:cs.size=n) (hcell:∀ (i:Nat) (u:TypeId),ts[i]?=some u→∃ x,cs[i]?=some x∧Cell.okWide P W r base u x):Value.okWide P W r base t (.agg cs):=by
 have h':∃ cs',Value.agg cs=.agg cs'∧cs'.size=P.cellsOf t∧Row.okWide P W r base t cs':=by
   refine ⟨cs,rfl,by rw [hsz,hc],ts,hts,⟨1,by rw [hsz,hn,Nat.one_mul]⟩,fun i v hv=>?_⟩
   have hi:i<cs.size:=by
     rcases Nat.lt_or_ge i cs.size with h1 | h1
     · exact h1
     · rw [Array.getElem?_eq_none h1] at hv; cases hv
   have hi2:i<ts.length:=by rw [hn,← hsz]; exact hi
   obtain ⟨x,hx,hok⟩:=hcell i ts[i] (List.getElem?_eq_getElem hi2)
   rw [hv] at hx
   injection hx with hx
   subst hx
   exact ⟨ts[i],by rw [Nat.mod_eq_of_lt hi2]; exact List.getElem?_eq_getElem hi2,hok⟩
 unfold Value.okWide
 rw [ht]
 cases d <;> first | exact h' | cases hd
theorem Z6 {W:World} {r:Reach} {base:Nat} {u:TypeId} {k:IntKind} {n:Int} (hu:P.underlying u=some (.int k)) (h0:k.min≤n) (h1:n≤k.max):Cell.okWide P W r base u (.int k n):=by
 simp [Cell.okWide,hu,Cell.ok,IntKind.has,h0,h1]
theorem witness_hand {C:Checked} {os:Os} {f:FuncId} {fn:Func} {s:ChangeSpec} {conds:List PathCond} {apart:Bool} (args:Array Value) (fuel:Nat)
   (hv:(World.plainHolding C.prog os ⟨#[],args,[]⟩).variablesB C.prog=true)
   (hr:((World.plainHolding C.prog os ⟨#[],args,[]⟩).heap.toList.drop C.prog.globals.size).take ((begin C.prog (fun _ _=>0) default).world.heap.size - C.prog.globals.size) =
     (begin C.prog (fun _ _=>0) default).world.heap.toList.drop C.prog.globals.size)
   (hfn:C.prog.funcs[f]?=some fn) (h1:C.prog.inits.idxOf? f=none) (h2:fn.body.isSome=true∧fn.ours=false∧fn.nfree=0∧args.size=fn.params.size)
   (hargs:∀ (W:World) (base:Nat) (j:Nat) (t:TypeId) (v:Value),fn.params[j]?=some t→args[j]?=some v→Value.okWide C.prog W .any base t v)
   (hpre:s.preB enc C.prog fn conds apart (World.plainHolding C.prog os ⟨#[],args,[]⟩).memory args fuel=true)
   (hsz:s.sizedB enc C.prog fn apart (World.plainHolding C.prog os ⟨#[],args,[]⟩).memory args fuel=true) :
   ∃ (w:World) (tape:Tape) (i:Input),w.os=os∧(w.forCall tape i).Shaped C.prog∧i.vars=[]∧Input.okWide C.prog (w.forCall tape i) .any w.heap.size f i ∧
     s.pre6 enc C.prog fn conds apart (w.forCall tape i).memory i.args∧({}:Assume).holds C.prog (lone (Frame.enter C.prog f i.args .normal) [] (w.forCall tape i)):=
 ⟨World.holding C.prog os ⟨#[],args,[]⟩,fun _ _=>0,⟨#[],args,[]⟩,rfl,World.shaped_of_B hv hr,rfl,
   ⟨fun o ho=>by simp at ho,fun gv hgv=>by simp at hgv,h1,fn,hfn,h2.1,h2.2.1,h2.2.2.1,h2.2.2.2,hargs _ _⟩,⟨ChangeSpec.pre_of_preB hpre,sizedMet_of_sizedB hsz⟩,by
   simp only [Assume.holds]
   exact ⟨by simp,by simp,fun _=>Modest.zero,by simp,by simp⟩⟩
theorem cell_int {W:World} {r:Reach} {base:Nat} {u:TypeId} {k:IntKind} {x:Value} (hu:P.underlying u=some (.int k)) (h:Cell.okWide P W r base u x):∃ n,x=.int k n∧k.min≤n∧n≤k.max:=by
 simp only [Cell.okWide,hu] at h
 cases x <;> simp_all [Cell.ok,IntKind.has]
end
theorem min_i64:IntKind.i64.min = -9223372036854775808:=by decide
theorem max_i64:IntKind.i64.max=9223372036854775807:=by decide
theorem min_u8:IntKind.u8.min=0:=by decide
theorem max_u8:IntKind.u8.max=255:=by decide
end Go.Vc
