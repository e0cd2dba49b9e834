/- Parts of a proof, joined in build order: a calculus of contracts, contracts of functions. -/
import Derived.Test.YtgkadmojokfohaaGreatRows
import Derived.Test.YtgkadmojokfohaaGreatFSK
set_option linter.unusedVariables false
set_option linter.unusedSimpArgs false
namespace Go.Proofs.YtgkadmojokfohaaGreat
open Go.Vc
theorem own:ownKnob Tryz.prog.godebug=none:=by kernel_rfl
theorem laidOut:laidOutB Tryz.prog=true:=by kernel_rfl
theorem undBool:Tryz.prog.underlying 4=some .bool:=by kernel_rfl
section
variable {H:Type} {enc:TypeId × Value→H} {W:World} {b:Nat} {sp:Nat→Bool} {hd:Bool} {ds:List (DataW H)} {ps:List MemPlace}
theorem args_len {P:Program}:∀ {ts:List TypeId} {vs:List Value} {ds:List (DataW H)} {ps:List MemPlace},DataW.TrodAll enc P W b sp hd ts vs ds ps→vs.length=ts.length
 | [],[],_,_,_=>rfl
 | [],_ :: _,_,_,h=>by simp [DataW.TrodAll] at h
 | _ :: _,[],[],_,h=>h.elim
 | _ :: _,[],_ :: _,_,h=>h.elim
 | _ :: _,_ :: _,[],_,h=>h.elim
 | t :: ts,v :: vs,d :: ds,_,h=>by
   obtain ⟨_,_,_,h,_⟩:=h
   simp [args_len h]
theorem args2 {P:Program} {args:Array Value} {t u:TypeId} (h:DataW.TrodAll enc P W b sp hd [t,u] args.toList ds ps):∃ v w,args=#[v,w]:=by
 obtain ⟨l⟩:=args
 match l,args_len h with
 | [v,w],_=>exact ⟨v,w,rfl⟩
end
theorem open_int {P:Program} {W:World} {r:Reach} {base:Nat} {t:TypeId} {k:IntKind} {v:Value} (hu:P.underlying t=some (.int k)) (h:Value.okWide P W r base t v):∃ n,v=.int k n∧k.min≤n∧n≤k.max:=by
 unfold Value.okWide at h
 rw [hu] at h
 exact cell_int hu h
theorem int_ok {P:Program} {W:World} {r:Reach} {base:Nat} {t:TypeId} {k:IntKind} {n:Int} (hu:P.underlying t=some (.int k)) (h0:k.min≤n) (h1:n≤k.max):Value.okWide P W r base t (.int k n):=by
 unfold Value.okWide
 rw [hu]
 exact Z6 hu h0 h1
theorem slice_ok {P:Program} {W:World} {r:Reach} {base:Nat} {t e:TypeId} (hu:P.underlying t=some (.slice e)):Value.okWide P W r base t (.slice none 0 0):=by
 unfold Value.okWide
 rw [hu]
 show Cell.okWide P W r base t _
 unfold Cell.okWide
 rw [hu]
 show Cell.ok P W r base t _
 unfold Cell.ok
 rw [hu]
 trivial
end Go.Proofs.YtgkadmojokfohaaGreat
