/- Parts of a proof, joined in build order: a calculus of contracts, contracts of functions. -/
import Derived.Test.YtfegkmmifpgpfaaGreatRows
import Derived.Test.YtfegkmmifpgpfaaGreatRQK
import Derived.Test.YtfegkmmifpgpfaaGreatRQF
set_option linter.unusedVariables false
set_option linter.unusedSimpArgs false
set_option maxHeartbeats 8000000
set_option maxRecDepth 100000
namespace Go.Proofs.YtfegkmmifpgpfaaGreat
open Go.Vc
theorem own:ownKnob TP.godebug=none:=by kernel_rfl
theorem laidOut:laidOutB TP=true:=by kernel_rfl
theorem UZ:TP.underlying 4=some .bool:=by kernel_rfl
section
variable{H:Type}{enc:TypeId × Value->H}{W:World}{b:Nat}{sp:Nat->Bool}{hd:Bool}{ds:List (DataW H)}{ps:List MemPlace}
theorem Jw{P:Program}:∀ {ts:List TypeId} {vs:List Value} {ds:List (DataW H)} {ps:List MemPlace},DataW.TrodAll enc P W b sp hd ts vs ds ps->vs.length=ts.length
 | [],[],_,_,_=>rfl
 | [],_ :: _,_,_,h=>by simp[DataW.TrodAll]at h
 | _ :: _,[],[],_,h=>h.elim
 | _ :: _,[],_ :: _,_,h=>h.elim
 | _ :: _,_ :: _,[],_,h=>h.elim
 | t :: ts,v :: vs,d :: ds,_,h=>by
  obtain⟨_,_,_,h,_⟩:=h;simp[Jw h]
theorem ahW{P:Program}{args:Array Value}{t u:TypeId}(h:DataW.TrodAll enc P W b sp hd [t,u] args.toList ds ps):∃ v w,args=#[v,w]:=by
 obtain⟨l⟩:=args
 match l,Jw h with
 | [v,w],_=>exact⟨v,w,rfl⟩
end
theorem Qz{P:Program}{W:World}{r:Reach}{base:Nat}{t e:TypeId}{v:Value}(hu:P.underlying t=some (.slice e))(h:Value.okWide P W r base t v) :
   v=.slice none 0 0\/∃ (a:Addr) (len cap:Nat) (c:Array Value) (T:TypeId) (z:Nat × Nat),v=.slice (some ⟨a.block,a.off,none⟩) len cap/\W.heap[a.block]?=some (.cells c T z):=by
 have h1:Cell.okWide P W r base t v:=by
   unfold Value.okWide at h
   rw[hu]at h
   exact h
 clear h
 have h:Cell.ok P W r base t v:=by
   unfold Cell.okWide at h1
   rw[hu]at h1
   cases v<;>exact h1
 clear h1
 unfold Cell.ok at h
 rw[hu]at h
 cases v
 case slice b len cap=>
   cases b with
   | none=>
     cases len with
     | zero=>cases cap with
       | zero=>exact .inl rfl
       | succ n=>exact(show False from h).elim
     | succ n=>exact(show False from h).elim
   | some a=>
     right
     obtain⟨_,_,_,oI,row,cells,hsh,_⟩:=h
     unfold World.shape? at hsh
     split at hsh
     · rename_i c T z hb
       obtain⟨ab,ao,asp⟩:=a
       simp only at oI;subst oI
       exact⟨⟨ab,ao,none⟩,len,cap,c,T,z,rfl,hb⟩
     · cases hsh
 all_goals exact(show False from h).elim
theorem BT{P:Program}{W:World}{r:Reach}{base:Nat}{t e:TypeId}(hu:P.underlying t=some (.slice e)):Value.okWide P W r base t (.slice none 0 0):=by
 unfold Value.okWide;rw[hu];show Cell.okWide P W r base t _;unfold Cell.okWide;rw[hu];show Cell.ok P W r base t _;unfold Cell.ok;rw[hu];trivial
end Go.Proofs.YtfegkmmifpgpfaaGreat
