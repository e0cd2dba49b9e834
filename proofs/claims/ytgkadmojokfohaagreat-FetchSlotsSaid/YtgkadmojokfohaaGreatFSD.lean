/- Parts of a proof, joined in build order: a calculus of contracts, contracts of functions. -/
import Derived.Laws.BytesArg
import Derived.Laws.IdiomStrings
import Derived.DeepKeys3
import Derived.Test.YtgkadmojokfohaaGreatFSB
import Derived.Test.YtgkadmojokfohaaGreatFSC
set_option linter.unusedVariables false
set_option linter.unusedSimpArgs false
namespace Go.Vc
def plainK (td:Option TypeDesc):Option TypeDesc:=
 match td with
 | some (.int k)=>some (.int k)
 | some .string=>some .string
 | some .bool=>some .bool
 | _=>none
def mapI (P:Program) (T:TypeId):Option (TypeId × TypeDesc × TypeId):=
 match P.underlying T with
 | some (.map kt et)=>(plainK (P.underlying kt)).map fun kd=>(kt,kd,et)
 | _=>none
def mapH (H:Hp) (r:Nat):Option (Array MapEntry × Nat):=match H[r]? with | some (.map es c)=>some (es,c) | _=>none
def entsH (x:Value) (H:Hp):Option (Array MapEntry):=
 match x with
 | .map none=>some #[]
 | .map (some r)=>(mapH H r).map (·.1)
 | _=>none
def mkOk (ok:Bool) (v:Value) (b:Bool):Value:=if ok then .tuple #[v,.bool b] else v
def yu (P:Program) (mi:Option (TypeId × TypeDesc × TypeId)) (ok:Bool) (x k:Value) (H:Hp):Option Value:=
 match mi with
 | some (_,kd,et)=>(entsH x H).bind fun es=>(Instr.findNow kd k es.toList 0).bind fun r=>match r with
   | some (_,v)=>some (mkOk ok v true)
   | none=>(zD P et).map fun z=>mkOk ok z false
 | none=>none
def YS (mi:Option (TypeId × TypeDesc × TypeId)) (x k v:Value) (H:Hp):Option Hp:=
 match mi,x with
 | some (_,kd,_),.map (some r)=>(mapH H r).bind fun (es,c)=>(Instr.findNow kd k es.toList 0).map fun f=>match f with
   | some (i,_)=>H.setIfInBounds r (.map (es.modify i fun e=>{ e with key:=k,val:=v }) c)
   | none=>H.setIfInBounds r (.map (es.push { key:=k,val:=v,born:=c }) (c+1))
 | _,_=>none
def delO (es:Array MapEntry) (c:Nat):Option (Nat × Value)→Obj
 | some (i,_)=>.map (es.eraseIdxIfInBounds i) c
 | none=>.map es c
def mapDelE (mi:Option (TypeId × TypeDesc × TypeId)) (x k:Value) (H:Hp):Option Hp:=
 match mi,x with
 | some (_,kd,_),.map (some r)=>(mapH H r).bind fun (es,c)=>(Instr.findNow kd k es.toList 0).map fun f=>H.setIfInBounds r (delO es c f)
 | _,_=>none
def mapClrE (x:Value) (H:Hp):Option Hp:=
 match x with
 | .map none=>some H
 | .map (some r)=>(mapH H r).map fun (_,c)=>H.setIfInBounds r (.map #[] c)
 | _=>none
def Yq (x:Value) (H:Hp):Option Value:=(entsH x H).map fun es=>.int .i64 es.size
section
variable {P:Program} {w:World}
theorem mapI_spec {T:TypeId} {mi:TypeId × TypeDesc × TypeId} (h:mapI P T=some mi):P.underlying T=some (.map mi.1 mi.2.2)∧P.underlying mi.1=some mi.2.1∧((∃ k,mi.2.1=.int k)∨mi.2.1=.string∨mi.2.1=.bool):=by
 unfold mapI at h
 split at h
 · rename_i kt et hu
   simp only [Option.map_eq_some_iff] at h
   obtain ⟨kd,hk,rfl⟩:=h
   refine ⟨hu,?_⟩
   unfold plainK at hk
   split at hk
   · rename_i k hk2; injection hk with hk; subst hk; exact ⟨hk2,.inl ⟨k,rfl⟩⟩
   · rename_i hk2; injection hk with hk; subst hk; exact ⟨hk2,.inr (.inl rfl)⟩
   · rename_i hk2; injection hk with hk; subst hk; exact ⟨hk2,.inr (.inr rfl)⟩
   · cases hk
 · cases h
theorem checkKey_plain {b:Bool} {n:Nat} {t:TypeId} {kd:TypeDesc} {v:Value} (hu:P.underlying t=some kd) (hk:(∃ k,kd=.int k)∨kd=.string∨kd=.bool):(Instr.checkKey b (n+1) t v).run P w=.ok () w:=by
 rcases hk with ⟨k,rfl⟩ | rfl | rfl <;> simp [Instr.checkKey,underlying,hu]
theorem YY {b:Bool} {t:TypeId} {kd:TypeDesc} {v:Value} (hu:P.underlying t=some kd) (hk:(∃ k,kd=.int k)∨kd=.string∨kd=.bool):(Instr.checkKey b 10000 t v).run P w=.ok () w:=checkKey_plain (n:=9999) hu hk
theorem findKey_ok {t:TypeId} {kd:TypeDesc} {k:Value} {l:List MapEntry} {r:Option (Nat × Value)} (hu:P.underlying t=some kd) (h:Instr.findNow kd k l 0=some r):(Instr.findKey t k l).run P w=.ok r w:=by
 simp [Instr.findKey,underlying,hu,h]
theorem ZX {H:Hp} {r:Nat} {es:Array MapEntry} {c:Nat} (h:mapH H r=some (es,c)):H[r]?=some (.map es c):=by
 unfold mapH at h
 split at h
 · injection h with h; cases h; assumption
 · cases h
theorem YA {r:Nat} {es:Array MapEntry} {c:Nat} (h:w.heap[r]?=some (.map es c)):(getObj r).run P w=.ok (.map es c) w:=by
 simp [getObj,Sem.run,h,bind,Sem.bind]
theorem Yx {r:Nat} {es:Array MapEntry} {c:Nat} {o:Obj} (h:w.heap[r]?=some (.map es c)):∃ w',(setObj r o).run P w=.ok () w'∧Sm w w'∧w'.heap=w.heap.setIfInBounds r o:=by
 refine ⟨{ w with heap:=w.heap.setIfInBounds r o },?_,⟨rfl,rfl,rfl⟩,rfl⟩
 simp [setObj,Sem.run,h]
theorem lookupE_ok {T:TypeId} {x k v:Value} {ok:Bool} (h:yu P (mapI P T) ok x k w.heap=some v):(Instr.lookup T x k ok).run P w=.ok v w:=by
 unfold yu at h
 split at h
 · rename_i kt kd et hmi
   obtain ⟨hu,huk,hk⟩:=mapI_spec hmi
   simp only at hu huk hk
   simp only [Option.bind_eq_some_iff] at h
   obtain ⟨es,hes,r,hr,h⟩:=h
   unfold entsH at hes
   have fin:∀ (r:Option (Nat × Value)) (v':Value),(match r with
       | some (_,v)=>some (mkOk ok v true)
       | none=>(zD P et).map fun z=>mkOk ok z false)=some v' →
       ((match r with
         | some (_,v)=>do
           let __x ← pure (v,true)
           pure (if ok=true then Value.tuple #[__x.fst,Value.bool __x.snd] else __x.fst)
         | none=>do
           let __do_lift ← zeroValue et
           let __x ← pure (__do_lift,false)
           pure (if ok=true then Value.tuple #[__x.fst,Value.bool __x.snd] else __x.fst):Sem Value).run P w)=.ok v' w:=by
     intro r v' h
     cases r with
     | some iv=>
       obtain ⟨i,u⟩:=iv
       simp only at h
       injection h with h; subst h
       simp [mkOk]
     | none=>
       simp only [Option.map_eq_some_iff] at h
       obtain ⟨z,hz,rfl⟩:=h
       unfold zD at hz
       simp only [Option.bind_eq_some_iff] at hz
       obtain ⟨i,hi,hz⟩:=hz
       simp [zeroValue,typeInfo,hi,hz,mkOk]
   split at hes
   · injection hes with hes; subst hes
     unfold Instr.lookup
     simp only [Sem.run_bind,underlying,run_program,Result.andThen_ok,hu,Sem.run_pure,YY huk hk,findKey_ok huk hr]
     exact fin _ v h
   · rename_i r
     simp only [Option.map_eq_some_iff] at hes
     obtain ⟨⟨es',c⟩,hm,rfl⟩:=hes
     unfold Instr.lookup
     simp only [Sem.run_bind,underlying,run_program,Result.andThen_ok,hu,Sem.run_pure,YA (ZX hm),YY huk hk,findKey_ok huk hr]
     exact fin _ v h
   · cases hes
 · cases h
theorem findNow_key {kd:TypeDesc} {k:Value} (hk:(∃ q,kd=.int q)∨kd=.string∨kd=.bool):∀ {l:List MapEntry} {n i:Nat} {v:Value},Instr.findNow kd k l n=some (some (i,v)) →
   n≤i∧∃ e,l[i - n]?=some e∧Instr.sameNow kd k e.key=some true∧e.val=v
 | [],_,_,_,h=>by simp [Instr.findNow] at h
 | e :: l,n,i,v,h=>by
   unfold Instr.findNow at h
   split at h
   · rename_i hs
     injection h with h; injection h with h; injection h with h1 h2
     subst h1 h2
     exact ⟨Nat.le_refl _,e,by simp,hs,rfl⟩
   · obtain ⟨h1,e',h2,h3,h4⟩:=findNow_key hk h
     exact ⟨by omega,e',by rw [show i - n=(i - (n+1))+1 by omega]; simpa using h2,h3,h4⟩
   · cases h
theorem same_bits {kd:TypeDesc} {a b:Value} (h:Instr.sameNow kd a b=some true) (n:Nat):Instr.sameBits n b a=true:=by
 unfold Instr.sameNow at h
 split at h
 · split at h
   · rename_i hk; injection h with h; subst hk; simp only [Instr.sameBits]; rw [beq_kindB]; simp at h ⊢; exact h.symm
   · cases h
 · injection h with h; simp only [Instr.sameBits]; exact beq_symm_bytes h
 · injection h with h; simp only [Instr.sameBits]; simp at h ⊢; exact h.symm
 · cases h
where
 beq_kindB {k:IntKind}:(k == k)=true:=by cases k <;> rfl
 beq_symm_bytes {a b:ByteArray} (h:(a == b)=true):(b == a)=true:=by
   rw [Go.beq_toListBytes] at h ⊢
   simp at h ⊢; exact h.symm
theorem mapSetE_ok {T:TypeId} {x k v:Value} {H':Hp} (h:YS (mapI P T) x k v w.heap=some H'):∃ w',(Instr.mapUpdate T x k v).run P w=.ok () w'∧Sm w w'∧w'.heap=H':=by
 unfold YS at h
 split at h
 · rename_i kt kd et r hmi
   obtain ⟨hu,huk,hk⟩:=mapI_spec hmi
   simp only at hu huk hk
   simp only [Option.bind_eq_some_iff,Option.map_eq_some_iff] at h
   obtain ⟨⟨es,c⟩,hm,f,hf,h⟩:=h
   have hg:=YA (P:=P) (ZX hm)
   have hrun:(Instr.mapUpdate T (.map (some r)) k v).run P w=(match f with
       | some (i,_)=>(do
         let key ← Instr.keyThatStays (((es[i]?).map fun (e:MapEntry)=>e.key).getD k) k
         setObj r (.map (es.modify i fun e=>{ e with key,val:=v }) c):Sem Unit)
       | none=>setObj r (.map (es.push { key:=k,val:=v,born:=c }) (c+1))).run P w:=by
     unfold Instr.mapUpdate
     simp only [Sem.run_bind,underlying,run_program,Result.andThen_ok,hu,Sem.run_pure,hg,YY huk hk,findKey_ok huk hf]
     cases f with
     | none=>rfl
     | some iv=>rfl
   rw [hrun]
   cases f with
   | none=>
     simp only at h ⊢
     subst h
     exact Yx (ZX hm)
   | some iv=>
     obtain ⟨i,u⟩:=iv
     simp only at h ⊢
     subst h
     obtain ⟨_,e,he,hs,_⟩:=findNow_key hk hf
     have he':es[i]?=some e:=by simpa using he
     have hkey:(Instr.keyThatStays (((es[i]?).map fun (e:MapEntry)=>e.key).getD k) k).run P w=.ok k w:=by
       rw [he']
       unfold Instr.keyThatStays
       simp [same_bits hs 10000]
     obtain ⟨w',h1,h2,h3⟩:=Yx (P:=P) (ZX hm) (o:=.map (es.modify i fun e=>{ e with key:=k,val:=v }) c)
     exact ⟨w',by rw [Sem.run_bind,hkey]; exact h1,h2,h3⟩
 · cases h
def wideK (P:Program) (kt:TypeId):Bool:=(match P.underlying kt with | some (.array _ _) | some (.struct _)=>true | _=>false) && P.keyTypeAt 100 kt
def mapW (P:Program) (T:TypeId):Option TypeId:=
 match P.underlying T with
 | some (.map kt _)=>(match wideK P kt with | true=>some kt | false=>none)
 | _=>none
def keyB (P:Program) (kt:TypeId) (k:Value):Bool:=k.formed P kt && (P.keyLits 100 kt k.cells.toList).isSome
def findS (P:Program) (kt:TypeId) (k:Value):List MapEntry→Nat→Option (Option (Nat × Value))
 | [],_=>some none
 | e :: es,i=>(match eqT P 10000 kt k e.key with
   | some true=>some (some (i,e.key))
   | some false=>findS P kt k es (i+1)
   | none=>none)
def mapSetS (P:Program) (kt:TypeId) (x k v:Value) (H:Hp):Option Hp:=
 match x with
 | .map (some r)=>(mapH H r).bind fun (es,c)=>(match keyB P kt k with
   | true=>(findS P kt k es.toList 0).bind fun f=>(match f with
     | some (i,old)=>(match Instr.sameBits 10000 old k with
       | true=>some (H.setIfInBounds r (.map (es.modify i fun e=>{ e with key:=k,val:=v }) c))
       | false=>none)
     | none=>some (H.setIfInBounds r (.map (es.push { key:=k,val:=v,born:=c }) (c+1))))
   | false=>none)
 | _=>none
theorem mapW_spec {T kt:TypeId} (h:mapW P T=some kt):∃ et,P.underlying T=some (.map kt et)∧wideK P kt=true:=by
 unfold mapW at h
 split at h
 · rename_i kt' et hu
   split at h
   · rename_i hw
     injection h with h; subst h
     exact ⟨et,hu,hw⟩
   · cases h
 · cases h
theorem findS_ok {kt:TypeId} {k:Value}:∀ {l:List MapEntry} {i:Nat} {r:Option (Nat × Value)},findS P kt k l i=some r →
   ∃ r',(Instr.findAsking kt k l i).run P w=.ok r' w∧(match r,r' with
     | some (j,old),some (j',_)=>j=j'∧i≤j∧∃ e,l[j - i]?=some e∧e.key=old
     | none,none=>True
     | _,_=>False)
 | [],i,r,h=>by
   simp only [findS,Option.some.injEq] at h; subst h
   exact ⟨none,by simp [Instr.findAsking],trivial⟩
 | e :: l,i,r,h=>by
   unfold findS at h
   split at h
   · rename_i hq
     injection h with h; subst h
     have he:(Op.equal kt k e.key).run P w=.ok true w:=eqT_ok (d:=10000) hq
     exact ⟨some (i,e.val),by simp [Instr.findAsking,he],rfl,Nat.le_refl _,e,by simp,rfl⟩
   · rename_i hq
     have he:(Op.equal kt k e.key).run P w=.ok false w:=eqT_ok (d:=10000) hq
     obtain ⟨r',h1,h2⟩:=findS_ok h
     refine ⟨r',by simp [Instr.findAsking,he,h1],?_⟩
     match r,r',h2 with
     | some (j,old),some (j',u),h2=>
       obtain ⟨h3,h4,e',h5,h6⟩:=h2
       exact ⟨h3,by omega,e',by rw [show j - i=(j - (i+1))+1 by omega]; simpa using h5,h6⟩
     | none,none,h2=>trivial
   · cases h
theorem mapSetS_ok {T kt:TypeId} {x k v:Value} {H':Hp} (hw:mapW P T=some kt) (h:mapSetS P kt x k v w.heap=some H'):∃ w',(Instr.mapUpdate T x k v).run P w=.ok () w'∧Sm w w'∧w'.heap=H':=by
 obtain ⟨et,hu,hwk⟩:=mapW_spec hw
 unfold wideK at hwk
 simp only [Bool.and_eq_true] at hwk
 unfold mapSetS at h
 split at h
 · rename_i r
   simp only [Option.bind_eq_some_iff] at h
   obtain ⟨⟨es,c⟩,hm,h⟩:=h
   have hg:=YA (P:=P) (ZX hm)
   simp only at h
   split at h
   · rename_i hkb
     unfold keyB at hkb
     simp only [Bool.and_eq_true,Option.isSome_iff_exists] at hkb
     obtain ⟨hfm,la,hla⟩:=hkb
     have hck:(Instr.checkKey false 10000 kt k).run P w=.ok () w:=run_checkKey_deep false 9900 100 kt hwk.2 w 100 k la hfm hla
     simp only [Option.bind_eq_some_iff] at h
     obtain ⟨f,hf,h⟩:=h
     obtain ⟨r',hr1,hr2⟩:=findS_ok (w:=w) hf
     have hfk:(Instr.findKey kt k es.toList).run P w=.ok r' w:=by rw [run_findKey_eq w hwk.1]; exact hr1
     match f,r',hr2,h,hfk with
     | some (j,old),some (j',u),hr2,h,hfk=>
       obtain ⟨rfl,_,e,he,rfl⟩:=hr2
       simp only at h
       split at h
       · rename_i hsb
         injection h with h; subst h
         obtain ⟨w',h1,h2,h3⟩:=Yx (P:=P) (ZX hm) (o:=.map (es.modify j fun e=>{ e with key:=k,val:=v }) c)
         refine ⟨w',?_,h2,h3⟩
         have hk2:((es[j]?).map fun (e:MapEntry)=>e.key)=some e.key:=by
           rw [← Array.getElem?_toList]
           simp only [Nat.sub_zero] at he
           rw [he]; rfl
         simp [Instr.mapUpdate,underlying,hu,hg,hck,hfk,hk2,Instr.keyThatStays,hsb,h1]
       · cases h
     | none,none,hr2,h,hfk=>
       injection h with h; subst h
       obtain ⟨w',h1,h2,h3⟩:=Yx (P:=P) (ZX hm) (o:=.map (es.push { key:=k,val:=v,born:=c }) (c+1))
       refine ⟨w',?_,h2,h3⟩
       simp [Instr.mapUpdate,underlying,hu,hg,hck,hfk,h1]
   · cases h
 · cases h
theorem mapDelE_ok {T R:TypeId} {ats:Array TypeId} {x k:Value} {H':Hp} (hat:ats[0]?=some T) (h:mapDelE (mapI P T) x k w.heap=some H'):∃ w',(Builtin.delete_ ats R #[x,k]).run P w=.ok (.tuple #[]) w'∧Sm w w'∧w'.heap=H':=by
 unfold mapDelE at h
 split at h
 · rename_i kt kd et r hmi
   obtain ⟨hu,huk,hk⟩:=mapI_spec hmi
   simp only at hu huk hk
   simp only [Option.bind_eq_some_iff,Option.map_eq_some_iff] at h
   obtain ⟨⟨es,c⟩,hm,f,hf,h⟩:=h
   have hg:=YA (P:=P) (ZX hm)
   obtain ⟨w',h1,h2,h3⟩:=Yx (P:=P) (ZX hm) (o:=delO es c f)
   refine ⟨w',?_,h2,?_⟩
   · unfold Builtin.delete_
     simp only [hat,List.getElem?_toArray,List.getElem?_cons_zero,List.getElem?_cons_succ,Sem.run_bind,underlying,run_program,Result.andThen_ok,hu,Sem.run_pure,hg,YY huk hk,findKey_ok huk hf]
     cases f with
     | none=>simp only [delO] at h1 ⊢; simp only [Sem.run_bind,h1]; rfl
     | some iv=>simp only [delO] at h1 ⊢; simp only [Sem.run_bind,h1]; rfl
   · rw [h3,← h]
 · cases h
theorem mapClrE_ok {T kt et R:TypeId} {ats:Array TypeId} {x:Value} {H':Hp} (hat:ats[0]?=some T) (hu:P.underlying T=some (.map kt et)) (h:mapClrE x w.heap=some H'):∃ w',(Builtin.clear_ ats R #[x]).run P w=.ok (.tuple #[]) w'∧Sm w w'∧w'.heap=H':=by
 unfold mapClrE at h
 split at h
 · injection h with h; subst h
   exact ⟨w,by simp [Builtin.clear_,hat,underlying,hu],Sm.refl w,rfl⟩
 · rename_i r
   simp only [Option.map_eq_some_iff] at h
   obtain ⟨⟨es,c⟩,hm,h⟩:=h
   obtain ⟨w',h1,h2,h3⟩:=Yx (P:=P) (ZX hm) (o:=.map #[] c)
   refine ⟨w',?_,h2,by rw [h3,← h]⟩
   simp [Builtin.clear_,hat,underlying,hu,YA (P:=P) (ZX hm),h1]
 · cases h
theorem mapLenE_ok {T kt et R:TypeId} {ats:Array TypeId} {x v:Value} (hat:ats[0]?=some T) (hu:P.underlying T=some (.map kt et)) (h:Yq x w.heap=some v):(Builtin.len_ ats R #[x]).run P w=.ok v w:=by
 unfold Yq entsH at h
 split at h
 · simp only [Option.map_some,Option.some.injEq] at h
   subst h
   simp [Builtin.len_,hat,underlying,hu,goInt]
 · rename_i r
   cases hm:mapH w.heap r with
   | none=>rw [hm] at h; simp at h
   | some ec=>
     obtain ⟨es,c⟩:=ec
     rw [hm] at h
     simp only [Option.map_some,Option.some.injEq] at h
     subst h
     simp [Builtin.len_,hat,underlying,hu,YA (P:=P) (ZX hm),goInt]
 · simp at h
theorem mapH_ext {H H':Hp} (hx:Ext H H') {r:Nat} {y:Array MapEntry × Nat} (h:mapH H r=some y):mapH H' r=some y:=by
 obtain ⟨es,c⟩:=y
 have:=hx.at (ZX h)
 simp [mapH,this]
theorem entsH_ext {H H':Hp} (hx:Ext H H') {x:Value} {es:Array MapEntry} (h:entsH x H=some es):entsH x H'=some es:=by
 unfold entsH at h ⊢
 split at h
 · exact h
 · simp only [Option.map_eq_some_iff] at h ⊢
   obtain ⟨y,h1,h2⟩:=h
   exact ⟨y,mapH_ext hx h1,h2⟩
 · cases h
theorem lookupE_ext {H H':Hp} (hx:Ext H H') {mi:Option (TypeId × TypeDesc × TypeId)} {ok:Bool} {x k v:Value} (h:yu P mi ok x k H=some v):yu P mi ok x k H'=some v:=by
 unfold yu at h ⊢
 split at h
 · simp only [Option.bind_eq_some_iff] at h
   obtain ⟨es,hes,r,hr,h⟩:=h
   simp only [entsH_ext hx hes,Option.bind_some,hr]
   exact h
 · cases h
theorem mapLenE_ext {H H':Hp} (hx:Ext H H') {x v:Value} (h:Yq x H=some v):Yq x H'=some v:=by
 unfold Yq at h ⊢
 simp only [Option.map_eq_some_iff] at h ⊢
 obtain ⟨y,h1,h2⟩:=h
 exact ⟨y,entsH_ext hx h1,h2⟩
def cellsN (es n:Nat) (x:Value) (H:Hp):Option (Array Value):=
 match x with
 | .slice (some a) _ _=>rowH H a (n*es)
 | .slice none _ _=>some #[]
 | .string s=>some ((s.extract 0 n).data.map fun b=>.int .u8 b.toNat)
 | _=>none
def lenX (x:Value):Option Nat:=match x with | .slice _ n _=>some n | .string s=>some s.size | _=>none
def copyE (e:Option ZT) (d s:Value) (H:Hp):Option (Value × Hp):=
 match e,d with
 | some e,.slice base dLen _=>(lenX s).bind fun sl=>(cellsN e.size (min sl dLen) s H).bind fun cs=>match base with
   | some a=>(putH H a cs).map fun H'=>(.int .i64 (min sl dLen:Nat),H')
   | none=>some (.int .i64 (min sl dLen:Nat),H)
 | _,_=>none
theorem cellsN_ok {es n:Nat} {x:Value} {cs:Array Value} (h:cellsN es n x w.heap=some cs):(Builtin.firstCells es n x).run P w=.ok cs w:=by
 unfold cellsN at h
 split at h
 · simp [Builtin.firstCells,Yk h]
 · injection h with h; subst h; simp [Builtin.firstCells]
 · injection h with h; subst h; simp [Builtin.firstCells]
 · cases h
theorem copyE_ok {T R:TypeId} {ats:Array TypeId} {e:Option ZT} {d s v:Value} {H':Hp} (hat:ats[0]?=some T) (he:zI P T=e) (h:copyE e d s w.heap=some (v,H')):∃ w',(Builtin.copy_ ats R #[d,s]).run P w=.ok v w'∧Sm w w'∧w'.heap=H':=by
 unfold copyE at h
 split at h
 · rename_i e' base dLen cap
   obtain ⟨hu,i,z,hi,hsz,_,_,_⟩:=yV he
   simp only [Option.bind_eq_some_iff] at h
   obtain ⟨sl,hsl,cs,hcs,h⟩:=h
   have hl:(Builtin.lenOf s).run P w=.ok sl w:=by
     unfold lenX at hsl
     split at hsl
     · injection hsl with hsl; subst hsl; simp [Builtin.lenOf]
     · injection hsl with hsl; subst hsl; simp [Builtin.lenOf]
     · cases hsl
   have hc:=cellsN_ok (P:=P) hcs
   cases base with
   | none=>
     simp only [Option.some.injEq,Prod.mk.injEq] at h
     obtain ⟨rfl,rfl⟩:=h
     refine ⟨w,?_,Sm.refl w,rfl⟩
     have hc':(Builtin.firstCells e'.size (Nat.min sl dLen) s).run P w=.ok cs w:=hc
     simp [Builtin.copy_,hat,underlying,hu,hl,sizeOf,typeInfo,hi,hsz,hc',goInt]
   | some a=>
     simp only [Option.map_eq_some_iff,Prod.mk.injEq] at h
     obtain ⟨H1,hp,rfl,rfl⟩:=h
     obtain ⟨w',h1,h2,h3⟩:=putH_ok (P:=P) hp
     refine ⟨w',?_,h2,h3⟩
     have hc':(Builtin.firstCells e'.size (Nat.min sl dLen) s).run P w=.ok cs w:=hc
     simp [Builtin.copy_,hat,underlying,hu,hl,sizeOf,typeInfo,hi,hsz,hc',h1,goInt]
 · cases h
def clrE (e:Option ZT) (x:Value) (H:Hp):Option Hp:=
 match e,x with
 | some e,.slice (some a) (n+1) _=>putH H a (Builtin.zeroCells e.zero (n+1))
 | some _,.slice none _ _=>some H
 | _,_=>none
theorem clrE_ok {T R:TypeId} {ats:Array TypeId} {e:Option ZT} {x:Value} {H':Hp} (hat:ats[0]?=some T) (he:zI P T=e) (h:clrE e x w.heap=some H'):∃ w',(Builtin.clear_ ats R #[x]).run P w=.ok (.tuple #[]) w'∧Sm w w'∧w'.heap=H':=by
 unfold clrE at h
 split at h
 · rename_i e' a n cap
   obtain ⟨hu,i,z,hi,hsz,hby,hz,hzc⟩:=yV he
   obtain ⟨w',h1,h2,h3⟩:=putH_ok (P:=P) h
   refine ⟨w',?_,h2,h3⟩
   simp [Builtin.clear_,hat,underlying,hu,zeroValue,typeInfo,hi,hz,hzc,h1]
 · rename_i e' l c
   obtain ⟨hu,_⟩:=yV he
   injection h with h; subst h
   exact ⟨w,by simp [Builtin.clear_,hat,underlying,hu],Sm.refl w,rfl⟩
 · cases h
def YT (e:Option ZT) (l c:Value) (H:Hp):Option (Value × Hp):=
 match e,l,c with
 | some e,.int _ l,.int _ c=>if 0≤l∧l≤c∧c≤2 ^ 48∧e.bytes*c≤2 ^ 47∧(c=0∨e.size≠0) then
     some (.slice (some ⟨H.size,0,none⟩) l.toNat c.toNat,H.push (.cells ((Array.range (c.toNat*e.size)).map (e.zero[· % e.zero.size]!)) e.type)) else none
 | _,_,_=>none
theorem makeE_ok {T:TypeId} {e:Option ZT} {l c v:Value} {H':Hp} (he:zI P T=e) (h:YT e l c w.heap=some (v,H')):∃ w',(Instr.makeSlice T l c).run P w=.ok v w'∧Sm w w'∧w'.heap=H':=by
 unfold YT at h
 split at h
 · rename_i e' k l k' c
   obtain ⟨hu,i,z,hi,hsz,hby,hz,hzc⟩:=yV he
   split at h
   · rename_i hc
     obtain ⟨h0,h1,h2,h3,h4⟩:=hc
     simp only [Option.some.injEq,Prod.mk.injEq] at h
     obtain ⟨rfl,rfl⟩:=h
     have wl:IntKind.i64.wrap l=l:=by unfold IntKind.wrap; simp [IntKind.bits,IntKind.signed]; omega
     have wc:IntKind.i64.wrap c=c:=by unfold IntKind.wrap; simp [IntKind.bits,IntKind.signed]; omega
     have hb:¬ (c<0):=by omega
     have hb2:¬ ((2:Int) ^ 48<(i.bytes:Int)*c):=by rw [hby]; omega
     have hl1:¬ l<0:=by omega
     have hl2:¬ c<l:=by omega
     refine ⟨{ w with heap:=w.heap.push (.cells ((Array.range (c.toNat*e'.size)).map (e'.zero[· % e'.zero.size]!)) e'.type) },?_,⟨rfl,rfl,rfl⟩,rfl⟩
     unfold Instr.makeSlice
     simp only [Sem.run_bind,underlying,run_program,Result.andThen_ok,hu,Sem.run_pure,asInt,asIntOf,typeInfo,hi,wl,wc,sizeOf,hsz]
     simp only [hb,hb2,hl1,hl2,decide_false,Bool.or_self,gt_iff_lt,Bool.false_eq_true,if_false]
     by_cases hn:c.toNat*e'.size=0
     · rcases h4 with h4 | h4
       · subst h4
         simp [askRoom,newRow,hi,show Array.range 0=#[] from rfl]
       · have h5:c.toNat=0:=by rcases Nat.mul_eq_zero.1 hn with h5 | h5 <;> first | exact h5 | exact absurd h5 h4
         simp [askRoom,newRow,h5,hi,show Array.range 0=#[] from rfl]
     · unfold askRoom
       have hn':¬ c.toNat*i.size=0:=by rw [hsz]; exact hn
       split <;> (simp [newRow,zeroValue,typeInfo,hi,hz,hzc,hsz]; intro h0; exact absurd h0 hn)
   · cases h
 · cases h
end
def bytesT (P:Program) (s d:TypeId):Bool:=
 match P.underlying s,P.underlying d with
 | some (.slice e),some .string=>(match P.underlying e with | some (.int .u8)=>true | _=>false)
 | _,_=>false
def u8s:List Value→Option (List Int)
 | []=>some []
 | .int .u8 n :: l=>(u8s l).map (n :: ·)
 | _ :: _=>none
theorem u8s_ok:∀ {l:List Value} {ns:List Int},u8s l=some ns→l=ns.map (Value.int .u8)
 | [],ns,h=>by simp only [u8s,Option.some.injEq] at h; subst h; rfl
 | v :: l,ns,h=>by
   unfold u8s at h
   split at h
   · rename_i heq; cases heq
   · rename_i n l' heq
     injection heq with h1 h2
     subst h1 h2
     simp only [Option.map_eq_some_iff] at h
     obtain ⟨ns',h1,rfl⟩:=h
     rw [u8s_ok h1]; rfl
   · cases h
def strOfE (x:Value) (H:Hp):Option Value:=
 match x with
 | .slice (some a) len _=>(rowH H a len).bind fun cs=>(u8s cs.toList).map fun ns=>.string (strOfNums ns)
 | .slice none _ _=>some (.string ByteArray.empty)
 | _=>none
theorem strOfE_ok {P:Program} {w:World} {S D:TypeId} {x v:Value} (hb:bytesT P S D=true) (h:strOfE x w.heap=some v):(convert S D x).run P w=.ok v w:=by
 unfold bytesT at hb
 split at hb
 · rename_i e hs hd
   split at hb
   · rename_i he
     unfold strOfE at h
     split at h
     · rename_i a len cap
       simp only [Option.bind_eq_some_iff,Option.map_eq_some_iff] at h
       obtain ⟨cs,h1,ns,h2,rfl⟩:=h
       have hl:=Yk (P:=P) h1
       have hcs:cs=(ns.map (Value.int .u8)).toArray:=by rw [← u8s_ok h2]
       rw [hcs] at hl
       rw [run_convert_bytes_string w S D e _ len cap hs he hd,run_bytesToString w _ len cap ns hl,foldl_push_bytes]
       simp [strOfNums,ByteArray.empty,ByteArray.emptyWithCapacity]
       rfl
     · injection h with h; subst h
       exact run_convert_bytes_nil w S e hs he _ _ D hd
     · cases h
   · cases hb
 · cases hb
def strT (P:Program) (s d:TypeId):Bool:=
 match P.underlying s,P.underlying d with
 | some .string,some (.slice e)=>(match P.underlying e with | some (.int .u8)=>true | _=>false)
 | some (.slice _),some (.slice e)=>Nat.beq s d && (match P.underlying e with | some (.int .u8)=>true | _=>false)
 | _,_=>false
def BytesS (P:Program) (s d:TypeId) (x:Value) (H:Hp) (K:Value→Hp→Prop):Prop:=
 match P.underlying s,P.underlying d,x with
 | some .string,some (.slice e),.string s=>∀ cap fz,s.size≤cap→K (.slice (some ⟨H.size,0,none⟩) s.size cap) (H.push (.cells (bytesRow s cap) e fz))
 | some (.slice _),some (.slice _),.slice (some a) len cap=>(match H[a.block]? with
   | some (.cells c T _)=>∀ fz,K (.slice (some a) len cap) (H.setIfInBounds a.block (.cells c T fz))
   | _=>False)
 | _,_,_=>False
theorem modify_set {H:Hp} {b:Nat} {o:Obj} (h:H[b]?=some o) (f:Obj→Obj):H.modify b f=H.setIfInBounds b (f o):=by
 apply Array.ext
 · simp
 · intro i h1 h2
   have hi:i<H.size:=by simpa using h1
   rw [Array.getElem_modify,Array.getElem_setIfInBounds (by simpa using h2)]
   by_cases hb:b=i
   · subst hb
     rw [Array.getElem?_eq_getElem hi] at h
     injection h with h
     simp [h]
   · simp [hb]
theorem mark_ok {P:Program} {w:World} {S e:TypeId} {a:Addr} {len cap:Nat} {c:Array Value} {T:TypeId} {fz:Nat × Nat} (hs:P.underlying S=some (.slice e)) (he:P.underlying e=some (.int .u8)) (ho:w.heap[a.block]?=some (.cells c T fz)) :
   ∃ fz',(convert S S (.slice (some a) len cap)).run P w=.ok (.slice (some a) len cap) { w with heap:=w.heap.setIfInBounds a.block (.cells c T fz') }:=by
 have hsh:w.shape? a.block=some (T,c.size):=by
   unfold World.shape?
   rw [ho]
 obtain ⟨lo,hi⟩:=fz
 refine ⟨if lo == hi then (c.size,c.size+1) else (min lo c.size,max hi (c.size+1)),?_⟩
 simp [convert,underlying,hs,he,markStringish,hsh]
 show World.freeze w ⟨a.block,c.size,none⟩ 1=_
 unfold World.freeze
 rw [if_neg (by decide),modify_set ho]
 simp
theorem BytesS_ok {P:Program} {w:World} {S D:TypeId} {x:Value} {K:Value→Hp→Prop} (hb:strT P S D=true) (h:BytesS P S D x w.heap K):∃ v w',(convert S D x).run P w=.ok v w'∧Sm w w'∧K v w'.heap:=by
 unfold strT at hb
 unfold BytesS at h
 split at h
 · rename_i s hs hd
   rw [hs,hd] at hb
   simp only at hb
   split at hb
   · rename_i he
     exact ⟨_,_,run_bytes_of_string w S D _ _ hs hd he,⟨rfl,rfl,rfl⟩,h _ _ (grownCap_ge w _ 0 _)⟩
   · cases hb
 · rename_i a len cap hs hd
   rw [hs,hd] at hb
   simp only [Bool.and_eq_true] at hb
   obtain ⟨hsd,hb⟩:=hb
   have hsd:=Nat.eq_of_beq_eq_true hsd
   subst hsd
   split at hb
   · rename_i he
     split at h
     · rename_i c' T fz ho
       obtain ⟨fz',hm⟩:=mark_ok (len:=len) (cap:=cap) hd he ho
       exact ⟨_,_,hm,⟨rfl,rfl,rfl⟩,h fz'⟩
     · exact h.elim
   · cases hb
 · exact h.elim
theorem rowH_ext {H H':Hp} {a:Addr} {n:Nat} {cs:Array Value} (hx:Ext H H') (h:rowH H a n=some cs):rowH H' a n=some cs:=by
 unfold rowH at h ⊢
 split at h
 · rename_i c _ _ hc
   rw [hx.at hc]; exact h
 · cases h
theorem strOfE_ext {H H':Hp} {x v:Value} (hx:Ext H H') (h:strOfE x H=some v):strOfE x H'=some v:=by
 unfold strOfE at h ⊢
 split at h
 · simp only [Option.bind_eq_some_iff] at h
   obtain ⟨cs,h1,h2⟩:=h
   rw [rowH_ext hx h1]; exact h2
 · exact h
 · cases h
def yZ (td:Option TypeDesc):Bool:=match td with | some (.map _ _)=>true | _=>false
def Yv (P:Program) (q:Bool) (b:Builtin) (ts:List TypeId) (xs:List Value) (H:Hp) (K:Value→Hp→Prop):Prop:=
 match b,ts,xs with
 | .len,[T],[x]=>(match yZ (P.underlying T) with
   | true=>Pu (Yq x H) fun v=>K v H
   | false=>Pu (lenE P T x) fun v=>K v H)
 | .min,_,[x,y]=>Pu (minE x y) fun v=>K v H
 | .max,_,[x,y]=>Pu (maxE x y) fun v=>K v H
 | .append,[T,T2],[s,x]=>ForX q H fun H=>match P.underlying T2 with
   | some (.slice _)=>Y2 (zI P T) s x H K
   | _=>False
 | .delete,[T,_],[m,k]=>ForX q H fun H=>Pu (mapDelE (mapI P T) m k H) fun H'=>K (.tuple #[]) H'
 | .clear,[T],[m]=>ForX q H fun H=>(match yZ (P.underlying T) with
   | true=>Pu (mapClrE m H) fun H'=>K (.tuple #[]) H'
   | false=>Pu (clrE (zI P T) m H) fun H'=>K (.tuple #[]) H')
 | .copy,[T,_],[d,s]=>ForX q H fun H=>Pu (copyE (zI P T) d s H) fun y=>K y.1 y.2
 | _,_,_=>False
def partsOf (ρ:Operand→Value) (parts:Array (Nat × Operand)):List (Nat × Value):=parts.toList.map fun (i,x)=>(i,ρ x)
def opsA (ρ:Operand→Value) (xs:Array Operand):Array Value:=(xs.toList.map ρ).toArray
def vcOp (P:Program) (qf:FuncId→Bool) (dr q:Bool) (o:Oper) (ρ:Operand→Value) (H:Hp) (K:Value→Hp→Prop):Prop:=
 match o.op with
 | .move x | .assign x=>K (ρ x) H
 | .pick c a b=>Ite (ρ c) (K (ρ a) H) (K (ρ b) H)
 | .binOp op T x y _=>(match hardT (P.underlying T) with
   | true=>Pu (yH P T (y7 x || y7 y) op (ρ x) (ρ y) H) fun v=>K v H
   | false=>Pu (zo (P.underlying T) op (ρ x) (ρ y)) fun v=>K v H)
 | .unOp op _ x=>Pu (unE op (ρ x)) fun v=>K v H
 | .convert s d x=>(match strT P s d with
   | true=>ForX q H fun H=>BytesS P s d (ρ x) H K
   | false=>(match bytesT P s d with
     | true=>Pu (strOfE (ρ x) H) fun v=>K v H
     | false=>Pu (z9 (P.underlying s) (P.underlying d) (ρ x)) fun v=>K v H))
 | .fieldAddr S x f=>Pu (zd (fieldO P S f) (ρ x)) fun v=>K v H
 | .field S x f=>Pu (fieldE P S (ρ x) f) fun v=>K v H
 | .indexAddr T x i=>Pu (zh (idxK P T) (ρ x) (ρ i)) fun v=>K v H
 | .index T x i=>Pu (idxE P T (ρ x) (ρ i)) fun v=>K v H
 | .sliceToArrayPointer T x=>Pu (arrE (arrK P T) (ρ x)) fun v=>K v H
 | .extract t i=>Pu (ze (ρ t) i) fun v=>K v H
 | .nilCheck x=>Pu (zc (ρ x)) fun v=>K v H
 | .makeFunc fn first cap=>K (.func fn (opsA ρ first) (opsA ρ cap)) H
 | .build T parts=>Pu (zu P T (partsOf ρ parts)) fun v=>K v H
 | .slice T x lo hi mx=>Pu (ZO P T (ρ x) (lo.map ρ) (hi.map ρ) (mx.map ρ)) fun v=>K v H
 | .load T a=>Pu (zb (ldK P T) (ρ a) H) fun v=>K v H
 | .store T a x=>ForX q H fun H=>Pu (zj (szOf P T) (ρ a) (ρ x) H) fun H'=>K undef H'
 | .box T x=>ForX q H fun H=>K (.pointer (some ⟨H.size,0,none⟩)) (H.push (.cells (ρ x).cells T))
 | .alloc T=>ForX q H fun H=>Pu (zD P T) fun z=>K (.pointer (some ⟨H.size,0,none⟩)) (H.push (.cells z.cells T))
 | .buildSlice T n parts=>ForX q H fun H=>Pu (zI P T) fun e=>Pu (zH (some e) n (partsOf ρ parts)) fun cs=>K (.slice (some ⟨H.size,0,none⟩) n n) (H.push (.cells cs e.type))
 | .lookup T x k ok=>Pu (yu P (mapI P T) ok (ρ x) (ρ k) H) fun v=>K v H
 | .mapUpdate T m k x=>ForX q H fun H=>(match mapW P T with
   | some kt=>Pu (mapSetS P kt (ρ m) (ρ k) (ρ x) H) fun H'=>K undef H'
   | none=>Pu (YS (mapI P T) (ρ m) (ρ k) (ρ x) H) fun H'=>K undef H')
 | .insert T m k x=>ForX q H fun H=>Pu (YS (mapI P T) (ρ m) (ρ k) (ρ x) H) fun H'=>K undef H'
 | .makeMap _ none=>ForX q H fun H=>K (.map (some H.size)) (H.push (.map #[] 0))
 | .makeSlice T l c=>ForX q H fun H=>Pu (YT (zI P T) (ρ l) (ρ c) H) fun y=>K y.1 y.2
 | .call c=>
   match c.callee with
   | .builtin b=>Yv P q b c.argTypes.toList (c.args.toList.map ρ) H K
   | .value (.func f)=>
     if enterB P f then (if dr && qf f then ∃ v,QC q P f (opsA ρ c.args) H v∧K v H else ForX q H fun H=>Fc P f (opsA ρ c.args) H K) else False
   | .value x=>ForX q H fun H=>CallV P (ρ x) (opsA ρ c.args) H K
   | .invoke _ _=>False
 | _=>False
def lenMap (P:Program) (ts:Array TypeId):Bool:=match ts.toList with | [T]=>yZ (P.underlying T) | _=>false
def clsOf (P:Program) (qf:FuncId→Bool) (o:Oper):Cls:=
 match o.op with
 | .move _ | .assign _ | .pick _ _ _ | .unOp _ _ _ | .fieldAddr _ _ _ | .field _ _ _ | .indexAddr _ _ _ | .index _ _ _ | .extract _ _ | .nilCheck _ | .makeFunc _ _ _ | .build _ _ | .slice _ _ _ _ _ | .sliceToArrayPointer _ _=>.pure
 | .binOp _ T _ _ _=>match hardT (P.underlying T) with | true=>.quiet | false=>.pure
 | .convert s d _=>match strT P s d with | true=>.eff | false=>(match bytesT P s d with | true=>.quiet | false=>.pure)
 | .load _ _ | .lookup _ _ _ _=>.quiet
 | .call c=>
   match c.callee with
   | .builtin .len=>match lenMap P c.argTypes with | true=>.quiet | false=>.pure
   | .builtin .min | .builtin .max=>.pure
   | .value (.func f)=>if qf f then .quiet else .eff
   | _=>.eff
 | _=>.eff
section
variable {P:Program} {qf:FuncId→Bool} {dr q:Bool} {o:Oper} {ρ:Operand→Value} {H:Hp} {K:Value→Hp→Prop}
theorem pv_val {s:Sem Value} {v:Value} (h:∀ w,s.run P w=.ok v w):Pv P (do pure (.value (← s))) v:=fun w=>by
 rw [Sem.run_bind,h w]; rfl
theorem map_ops (ρ:Operand→Value) (xs:Array Operand):xs.map ρ=(xs.toList.map ρ).toArray:=by
 apply Array.ext'; simp
theorem opsA_eq (ρ:Operand→Value) (xs:Array Operand):opsA ρ xs=xs.map ρ:=(map_ops ρ xs).symm
theorem enter_ok {f:FuncId} (h:enterB P f=true) (args:Array Value) (w:World):(callFunc f args).run P w=.ok (.enter f args) w:=by
 unfold enterB at h
 cases hf:P.funcs[f]? with
 | none=>rw [hf] at h; cases h
 | some fn=>
   rw [hf] at h
   simp only [Bool.and_eq_true,Bool.not_eq_true'] at h
   have h1:¬ fn.name = "runtime.NumGoroutine" := by simpa using h.1
   have h2:¬ fn.body=none:=by cases hb:fn.body <;> simp_all
   simp [callFunc,hf,h1,h2]
theorem buildE_ok {w:World} {T:TypeId} {parts:Array (Nat × Value)} {v:Value} (h:zu P T parts.toList=some v):(Instr.build T parts).run P w=.ok v w:=by
 unfold zu at h
 simp only [Option.map_eq_some_iff] at h
 obtain ⟨cs,h1,rfl⟩:=h
 exact run_build w T parts cs h1
theorem Zg {w:World} {x:Value} {y m:Nat} {code:BoundsCode} {d:Nat} (h:Zf (some x) d y=some m):(Instr.sliceBound x y code).run P w=.ok m w:=by
 cases x <;> simp only [Zf] at h <;> try (cases h; done)
 split at h
 · rename_i hc; injection h with h; subst h; simp [Instr.sliceBound,asIntOf,hc]
 · cases h
theorem slice_ok {w:World} {T:TypeId} {x v:Value} {lo hi mx:Option Value} (h:ZO P T x lo hi mx=some v):(Instr.sliceAt T x lo hi mx).run P w=.ok v w:=by
 unfold ZO at h
 split at h
 · rename_i e a n c hu
   simp only [Option.bind_eq_some_iff,Option.map_eq_some_iff] at h
   obtain ⟨m,hm,hh,hhh,l,hl,i,hi',rfl⟩:=h
   simp only [hiE] at hhh
   have hb:(Instr.sliceBounds true n c lo hi mx).run P w=.ok (l,hh,m) w:=by
     unfold Instr.sliceBounds
     cases mx with
     | none=>
       simp only [Zf,Option.some.injEq] at hm; subst hm
       cases hi with
       | none=>
         simp only [Zf,Option.some.injEq] at hhh; subst hhh
         cases lo with
         | none=>simp only [Zf,Option.some.injEq] at hl; subst hl; simp
         | some lv=>simp [Zg hl]
       | some hv=>
         cases lo with
         | none=>simp only [Zf,Option.some.injEq] at hl; subst hl; simp [Zg hhh]
         | some lv=>simp [Zg hl,Zg hhh]
     | some mv=>
       cases hi with
       | none=>simp at hhh
       | some hv=>
         cases lo with
         | none=>simp only [Zf,Option.some.injEq] at hl; subst hl; simp [Zg hhh,Zg hm]
         | some lv=>simp [Zg hl,Zg hhh,Zg hm]
   simp [Instr.sliceAt,Instr.slice,underlying,hu,hb,sizeOf,typeInfo,hi']
 · rename_i n e a hu
   simp only [Option.bind_eq_some_iff,Option.map_eq_some_iff] at h
   obtain ⟨m,hm,hh,hhh,l,hl,i,hi',rfl⟩:=h
   simp only [hiE] at hhh
   have hb:(Instr.sliceBounds false n n lo hi mx).run P w=.ok (l,hh,m) w:=by
     unfold Instr.sliceBounds
     cases mx with
     | none=>
       simp only [Zf,Option.some.injEq] at hm; subst hm
       cases hi with
       | none=>
         simp only [Zf,Option.some.injEq] at hhh; subst hhh
         cases lo with
         | none=>simp only [Zf,Option.some.injEq] at hl; subst hl; simp
         | some lv=>simp [Zg hl]
       | some hv=>
         cases lo with
         | none=>simp only [Zf,Option.some.injEq] at hl; subst hl; simp [Zg hhh]
         | some lv=>simp [Zg hl,Zg hhh]
     | some mv=>
       cases hi with
       | none=>simp at hhh
       | some hv=>
         cases lo with
         | none=>simp only [Zf,Option.some.injEq] at hl; subst hl; simp [Zg hhh,Zg hm]
         | some lv=>simp [Zg hl,Zg hhh,Zg hm]
   simp [Instr.sliceAt,underlying,hu,hb,sizeOf,typeInfo,hi',Instr.sureAddr]
 · rename_i s hu
   split at h
   · simp only [Option.bind_eq_some_iff,Option.map_eq_some_iff] at h
     obtain ⟨hh,hhh,l,hl,rfl⟩:=h
     have hb:(Instr.sliceBounds false s.size s.size lo hi none).run P w=.ok (l,hh,s.size) w:=by
       unfold Instr.sliceBounds
       cases hi with
       | none=>
         simp only [Zf,Option.some.injEq] at hhh; subst hhh
         cases lo with
         | none=>simp only [Zf,Option.some.injEq] at hl; subst hl; simp
         | some lv=>simp [Zg hl]
       | some hv=>
         cases lo with
         | none=>simp only [Zf,Option.some.injEq] at hl; subst hl; simp [Zg hhh]
         | some lv=>simp [Zg hl,Zg hhh]
     simp [Instr.sliceAt,Instr.slice,underlying,hu,hb]
   · cases h
 · cases h
end
section
variable {P:Program} {qf:FuncId→Bool} {dr q:Bool} {o:Oper} {ρ:Operand→Value} {H:Hp} {K:Value→Hp→Prop}
theorem pureS (hc:clsOf P qf o=.pure) (h:vcOp P qf dr q o ρ H K):∃ v,Pv P (execOp ρ o) v∧K v H:=by
 obtain ⟨dst,op,type,pos,after,guard⟩:=o
 unfold clsOf at hc
 unfold vcOp at h
 cases op <;> simp only at hc h <;> (try (cases hc; done))
 case move x=>exact ⟨_,fun w=>rfl,h⟩
 case assign x=>exact ⟨_,fun w=>rfl,h⟩
 case pick c a b=>
   unfold Ite at h
   split at h
   · rename_i hcv; exact ⟨_,fun w=>by simp [execOp,hcv,asBool],h⟩
   · rename_i hcv; exact ⟨_,fun w=>by simp [execOp,hcv,asBool],h⟩
   · exact h.elim
 case build T parts=>
   obtain ⟨v,hv,hk⟩:=Pu.get h
   refine ⟨v,pv_val fun w=>?_,hk⟩
   have:(parts.map fun (i,x)=>(i,ρ x)).toList=partsOf ρ parts:=by simp [partsOf]
   exact buildE_ok (by rw [this]; exact hv)
 case nilCheck x=>
   obtain ⟨v,hv,hk⟩:=Pu.get h
   refine ⟨v,fun w=>?_,hk⟩
   unfold zc at hv
   split at hv <;> first | (cases hv; done) | (rename_i hx; injection hv with hv; subst hv; simp [execOp,hx]; done)
 case binOp op T x y T2=>
   cases hh:hardT (P.underlying T) with
   | true=>rw [hh] at hc; cases hc
   | false=>
     rw [hh] at h
     obtain ⟨v,hv,hk⟩:=Pu.get h
     exact ⟨v,pv_val fun w=>binE_ok hv,hk⟩
 case unOp op T x=>
   obtain ⟨v,hv,hk⟩:=Pu.get h
   exact ⟨v,pv_val fun w=>unE_ok hv,hk⟩
 case convert s d x=>
   cases hst:strT P s d with
   | true=>rw [hst] at hc; cases hc
   | false=>
   rw [hst] at hc h
   simp only at hc h
   cases hb:bytesT P s d with
   | true=>rw [hb] at hc; cases hc
   | false=>
     rw [hb] at h
     obtain ⟨v,hv,hk⟩:=Pu.get h
     exact ⟨v,pv_val fun w=>convE_ok hv,hk⟩
 case makeFunc fn first cap=>
   refine ⟨_,pv_val fun w=>?_,h⟩
   rw [opsA_eq,opsA_eq]; rfl
 case slice T x lo hi mx=>
   obtain ⟨v,hv,hk⟩:=Pu.get h
   exact ⟨v,pv_val fun w=>slice_ok hv,hk⟩
 case fieldAddr S x f=>
   obtain ⟨v,hv,hk⟩:=Pu.get h
   exact ⟨v,pv_val fun w=>fieldAt_ok hv,hk⟩
 case field S x f=>
   obtain ⟨v,hv,hk⟩:=Pu.get h
   exact ⟨v,pv_val fun w=>field_ok hv,hk⟩
 case sliceToArrayPointer T x=>
   obtain ⟨v,hv,hk⟩:=Pu.get h
   exact ⟨v,pv_val fun w=>arrayAt_ok hv,hk⟩
 case indexAddr T x i=>
   obtain ⟨v,hv,hk⟩:=Pu.get h
   exact ⟨v,pv_val fun w=>indexAt_ok hv,hk⟩
 case index T x i=>
   obtain ⟨v,hv,hk⟩:=Pu.get h
   exact ⟨v,pv_val fun w=>index_ok hv,hk⟩
 case extract t i=>
   obtain ⟨v,hv,hk⟩:=Pu.get h
   exact ⟨v,pv_val fun w=>extract_ok hv,hk⟩
 case call c=>
   obtain ⟨callee,args,ats⟩:=c
   cases callee <;> simp only at hc h
   case builtin b=>
     have hargs:args.map ρ=(args.toList.map ρ).toArray:=map_ops ρ args
     have hts:ats=ats.toList.toArray:=by simp
     have hrun:∀ w v,(∀ w,(match b with | .len=>Builtin.len_ ats type (args.map ρ) | .min=>Builtin.min_ ats type (args.map ρ) | .max=>Builtin.max_ ats type (args.map ρ) | _=>stuck "").run P w=.ok v w) →
         (b=.len∨b=.min∨b=.max)→(execOp ρ ⟨dst,.call ⟨.builtin b,args,ats⟩,type,pos,after,guard⟩).run P w=.ok (.value v) w:=by
       intro w v hv hb
       rcases hb with rfl | rfl | rfl <;> simp [execOp,resolve,invoke,builtin,hv w]
     unfold Yv at h
     split at h
     · rename_i T x h1 h2
       have hm:lenMap P ats=yZ (P.underlying T):=by unfold lenMap; rw [h1]
       cases hh:yZ (P.underlying T) with
       | true=>simp only [hm,hh] at hc; cases hc
       | false=>
         rw [hh] at h
         obtain ⟨v,hv,hk⟩:=Pu.get h
         exact ⟨v,fun w=>hrun w v (fun w=>by rw [hargs,h2,hts,h1]; exact len_ok hv) (.inl rfl),hk⟩
     · obtain ⟨v,hv,hk⟩:=Pu.get h
       rename_i x y h2
       exact ⟨v,fun w=>hrun w v (fun w=>by rw [hargs,h2]; exact min_ok hv) (.inr (.inl rfl)),hk⟩
     · obtain ⟨v,hv,hk⟩:=Pu.get h
       rename_i x y h2
       exact ⟨v,fun w=>hrun w v (fun w=>by rw [hargs,h2]; exact max_ok hv) (.inr (.inr rfl)),hk⟩
     · cases hc
     · cases hc
     · cases hc
     · cases hc
     · exact h.elim
   case value x=>
     cases x <;> simp only at hc <;> (try (cases hc; done))
     split at hc <;> cases hc
theorem call_run {f:FuncId} {args:Array Operand} {ats:Array TypeId} (hop:o.op=.call ⟨.value (.func f),args,ats⟩) (hρ:ρ (.func f)=.func (.func f) #[] #[]) (hen:enterB P f=true) (w:World) :
   (execOp ρ o).run P w=.ok (.enter f (args.map ρ)) w:=by
 unfold execOp
 rw [hop]
 simp only [resolve,hρ,Deferred.ofValue,Sem.run_bind,Sem.run_pure,Result.andThen_ok,invoke]
 simpa using enter_ok hen (args.map ρ) w
def Good (ρ:Operand→Value):Prop:=∀ f,ρ (.func f)=.func (.func f) #[] #[]
theorem isMapT_spec {td:Option TypeDesc} (h:yZ td=true):∃ k e,td=some (.map k e):=by
 unfold yZ at h
 split at h
 · exact ⟨_,_,rfl⟩
 · cases h
theorem quiet_of {s:Sem Next} {v:Value} (h:∀ w,Ex q H w.heap→s.run P w=.ok (.value v) w):Qw q P s H v:=fun H' hx w hw=>by
 rw [h w (by rw [hw]; exact hx)]
 exact ⟨Sm.refl w,rfl,by rw [hw]; exact Ex.refl q H'⟩
theorem quietS (hg:Good ρ) (hc:clsOf P qf o=.quiet) (h:vcOp P qf true q o ρ H K):∃ v,Qw q P (execOp ρ o) H v∧K v H:=by
 obtain ⟨dst,op,type,pos,after,guard⟩:=o
 unfold clsOf at hc
 unfold vcOp at h
 cases op <;> simp only at hc h <;> (try (cases hc; done))
 case convert s d x=>
   cases hst:strT P s d with
   | true=>rw [hst] at hc; cases hc
   | false=>
   rw [hst] at hc h
   simp only at hc h
   cases hb:bytesT P s d with
   | false=>rw [hb] at hc; cases hc
   | true=>
     rw [hb] at h
     obtain ⟨v,hv,hk⟩:=Pu.get h
     refine ⟨v,quiet_of fun w hx=>?_,hk⟩
     have hv':strOfE (ρ x) w.heap=some v:=by
       cases q
       · rw [show w.heap=H from hx]; exact hv
       · exact strOfE_ext hx hv
     show (do pure (.value (← convert s d (ρ x))):Sem Next).run P w=_
     rw [Sem.run_bind,strOfE_ok hb hv']; rfl
 case load T a=>
   obtain ⟨v,hv,hk⟩:=Pu.get h
   refine ⟨v,fun H' hx w hw=>?_,hk⟩
   have hv':zb (ldK P T) (ρ a) H'=some v:=by
     cases q
     · cases hx; exact hv
     · exact loadE_ext hx hv
   have hp:∃ b,ρ a=.pointer (some b):=by
     unfold zb at hv'
     split at hv'
     · rename_i b _ hb; exact ⟨b,hb⟩
     · rename_i b _ hb; exact ⟨b,hb⟩
     · cases hv'
   obtain ⟨b,hb⟩:=hp
   rw [hb,← hw] at hv'
   have:(execOp ρ ⟨dst,.load T a,type,pos,after,guard⟩).run P w=.ok (.value v) w:=by
     simp [execOp,Instr.loadAt,hb,Instr.sureAddr,loadVar_ok hv']
   rw [this]
   exact ⟨Sm.refl w,rfl,by rw [hw]; exact Ex.refl q H'⟩
 case binOp op T x y T2=>
   cases hh:hardT (P.underlying T) with
   | false=>rw [hh] at hc; cases hc
   | true=>
     rw [hh] at h
     obtain ⟨v,hv,hk⟩:=Pu.get h
     refine ⟨v,quiet_of fun w hx=>?_,hk⟩
     have hv':yH P T (y7 x || y7 y) op (ρ x) (ρ y) w.heap=some v:=by
       cases q
       · rw [show w.heap=H from hx]; exact hv
       · exact eqXE_ext hx hv
     have h2:=eqXE_ok (P:=P) (xo:=x) (yo:=y) (fun h=>h) hv'
     show (do pure (.value (← (do eqGuard op T x y (ρ x) (ρ y); binOp op T (ρ x) (ρ y):Sem Value))):Sem Next).run P w=_
     rw [Sem.run_bind,h2]; rfl
 case lookup T x k ok=>
   obtain ⟨v,hv,hk⟩:=Pu.get h
   refine ⟨v,quiet_of fun w hx=>?_,hk⟩
   have hv':yu P (mapI P T) ok (ρ x) (ρ k) w.heap=some v:=by
     cases q
     · rw [show w.heap=H from hx]; exact hv
     · exact lookupE_ext hx hv
   show (do pure (.value (← Instr.lookup T (ρ x) (ρ k) ok)):Sem Next).run P w=_
   rw [Sem.run_bind,lookupE_ok hv']; rfl
 case call c=>
   obtain ⟨callee,args,ats⟩:=c
   cases callee <;> simp only at hc h <;> (try (cases hc; done))
   case builtin b=>
     unfold Yv at h
     split at h <;> try (cases hc; done)
     · rename_i T x h1 h2
       have hm:lenMap P ats=yZ (P.underlying T):=by unfold lenMap; rw [h1]
       cases hh:yZ (P.underlying T) with
       | false=>simp only [hm,hh] at hc; cases hc
       | true=>
         rw [hh] at h
         obtain ⟨v,hv,hk⟩:=Pu.get h
         refine ⟨v,quiet_of fun w hx=>?_,hk⟩
         have hv':Yq x w.heap=some v:=by
           cases q
           · rw [show w.heap=H from hx]; exact hv
           · exact mapLenE_ext hx hv
         obtain ⟨kt,et,hu⟩:=isMapT_spec hh
         have hat:ats[0]?=some T:=by rw [← Array.toArray_toList (xs:=ats),h1]; rfl
         have hr:=mapLenE_ok (P:=P) (R:=type) hat hu hv'
         have hargs:args.map ρ=#[x]:=by rw [map_ops,h2]
         simp only [execOp,resolve,invoke,builtin,Sem.run_bind,Sem.run_pure,Result.andThen_ok,hargs,hr]
     · exact h.elim
   case value x=>
     cases x <;> simp only at hc h <;> (try (cases hc; done))
     rename_i f
     split at h
     · rename_i hen
       split at hc
       · rename_i hqf
         simp only [hqf,Bool.and_self,if_true,opsA_eq] at h
         obtain ⟨v,hv,hk⟩:=h
         refine ⟨v,fun H' hx w hw=>?_,hk⟩
         rw [call_run (ats:=ats) rfl (hg f) hen w]
         exact ⟨Sm.refl w,by rw [hw]; exact hv H' hx⟩
       · cases hc
     · exact h.elim
theorem callV_ok {y:Value} {args:Array Value} {w:World} (h:CallV P y args w.heap K):Up P w K ((do let d ← Deferred.ofValue y args; invoke d.target d.args:Sem Next).run P w):=by
 unfold CallV at h
 split at h
 · rename_i f first cap
   simp only [Deferred.ofValue,Sem.run_bind,Sem.run_pure,Result.andThen_ok,invoke]
   rw [enter_ok h.1]
   refine ⟨Sm.refl w,?_⟩
   have e:((first.toList++args.toList)++cap.toList).toArray=(first++args)++cap:=by simp
   rw [← e]; exact h.2
 · rename_i l first cap
   simp only [Deferred.ofValue,Sem.run_bind,Sem.run_pure,Result.andThen_ok,invoke]
   have e:(first.toList++args.toList).toArray=first++args:=by simp
   rw [e] at h
   unfold Yld at h
   split at h
   · rename_i r hr
     have:(Instr.yield l (first++args)).run P w=.ok (.round l r.fn ((r.params.zip (first++args)).foldl (fun tmps (t,a)=>tmps.setIfInBounds t a) r.tmps) r.assign r.body) w:=by
       have h1:(Instr.getLoop l).run P w=.ok r w:=by
         simp [Instr.getLoop,getObj,Sem.run,hr,bind,Sem.bind]
       unfold Instr.yield
       rw [Sem.run_bind,h1]
       simp only [Result.andThen_ok]
       rw [if_neg (by simpa using h.1)]
       rfl
     rw [this]
     exact ⟨Sm.refl w,h.2⟩
   · exact h.elim
 · exact h.elim
theorem effS (hg:Good ρ) (hc:clsOf P qf o=.eff∨dr=false) (h:vcOp P qf dr false o ρ H K):Eff P (execOp ρ o) H K:=by
 by_cases hp:clsOf P qf o=.pure
 · obtain ⟨v,hv,hk⟩:=pureS hp h
   intro w hw; rw [hv w]; exact ⟨Sm.refl w,by rw [hw]; exact hk⟩
 · obtain ⟨dst,op,type,pos,after,guard⟩:=o
   unfold clsOf at hp hc
   unfold vcOp at h
   cases op <;> simp only [ForX] at hp hc h <;> (try (exact absurd rfl hp)) <;> (try (exact absurd trivial hp)) <;> (try (exact h.elim))
   case alloc T=>
     intro w hw
     obtain ⟨z,hz,hk⟩:=Pu.get h
     unfold zD at hz
     simp only [Option.bind_eq_some_iff] at hz
     obtain ⟨i,hi,hz⟩:=hz
     have:(execOp ρ ⟨dst,.alloc T,type,pos,after,guard⟩).run P w=.ok (.value (.pointer (some ⟨w.heap.size,0,none⟩))) { w with heap:=w.heap.push (.cells z.cells T) }:=by
       simp [execOp,Instr.alloc,zeroValue,typeInfo,hi,hz,newVar,newRow]
     rw [this]; subst hw
     exact ⟨⟨rfl,rfl,rfl⟩,hk⟩
   case box T x=>
     intro w hw
     have:(execOp ρ ⟨dst,.box T x,type,pos,after,guard⟩).run P w=.ok (.value (.pointer (some ⟨w.heap.size,0,none⟩))) { w with heap:=w.heap.push (.cells (ρ x).cells T) }:=by
       simp [execOp,Instr.box,newVar,newRow]
     rw [this]; subst hw
     exact ⟨⟨rfl,rfl,rfl⟩,h⟩
   case buildSlice T n parts=>
     intro w hw
     obtain ⟨e,he,h⟩:=Pu.get h
     obtain ⟨cs,hcs,hk⟩:=Pu.get h
     obtain ⟨hu,i,z,hi,hsz,hby,hz,hzc⟩:=yV he
     simp only [zH] at hcs
     split at hcs
     · cases hcs
     · rename_i hlim
       have hparts:(parts.map fun (i,x)=>(i,ρ x)).toList=partsOf ρ parts:=by simp [partsOf]
       have:(execOp ρ ⟨dst,.buildSlice T n parts,type,pos,after,guard⟩).run P w=.ok (.value (.slice (some ⟨w.heap.size,0,none⟩) n n)) { w with heap:=w.heap.push (.cells cs e.type) }:=by
         have hb:(Instr.buildSlice T n (parts.map fun (i,x)=>(i,ρ x))).run P w=.ok (.slice (some ⟨w.heap.size,0,none⟩) n n) { w with heap:=w.heap.push (.cells cs e.type) }:=by
           unfold Instr.buildSlice
           rw [hparts]
           simp only [Sem.run_bind,underlying,run_program,Result.andThen_ok,hu,Sem.run_pure,sizeOf,typeInfo,hi,hsz]
           have hl1:¬ n*e.size > 2 ^ 24:=fun hh=>hlim (.inl hh)
           have h0:¬ n*e.size=0:=fun hh=>hlim (.inr hh)
           simp only [hl1,if_false,Sem.run_pure,h0,Sem.run_bind,zeroValue,typeInfo,run_program,Result.andThen_ok,hi,hz,hzc,hcs]
           simp [newRow]
         simp only [execOp,Sem.run_bind,hb,Result.andThen_ok,Sem.run_pure]
       rw [this]; subst hw
       exact ⟨⟨rfl,rfl,rfl⟩,hk⟩
   case load T a=>
     have hq:=quietS (qf:=qf) (q:=false) (o:=⟨dst,.load T a,type,pos,after,guard⟩) hg rfl h
     obtain ⟨v,hv,hk⟩:=hq
     exact (hv H rfl).mono fun u H'' hu=>by obtain ⟨rfl,rfl⟩:=hu; exact hk
   case lookup T x k ok=>
     have hq:=quietS (qf:=qf) (q:=false) (o:=⟨dst,.lookup T x k ok,type,pos,after,guard⟩) hg rfl h
     obtain ⟨v,hv,hk⟩:=hq
     exact (hv H rfl).mono fun u H'' hu=>by obtain ⟨rfl,rfl⟩:=hu; exact hk
   case convert s d x=>
     cases hst:strT P s d with
     | true=>
       rw [hst] at h
       intro w hw
       subst hw
       obtain ⟨v,w',h1,h2,h3⟩:=BytesS_ok (P:=P) hst h
       have:(execOp ρ ⟨dst,.convert s d x,type,pos,after,guard⟩).run P w=.ok (.value v) w':=by
         show (do pure (.value (← convert s d (ρ x))):Sem Next).run P w=_
         rw [Sem.run_bind,h1]; rfl
       rw [this]
       exact ⟨h2,h3⟩
     | false=>
     rw [hst] at hp h
     simp only at hp h
     have hh:bytesT P s d=true:=by
       cases hh:bytesT P s d with
       | true=>rfl
       | false=>rw [hh] at hp; exact absurd rfl hp
     have hq:=quietS (P:=P) (H:=H) (K:=K) (qf:=qf) (q:=false) (o:=⟨dst,.convert s d x,type,pos,after,guard⟩) hg (by unfold clsOf; simp only [hst,hh]) (by unfold vcOp; simp only [hst]; exact h)
     obtain ⟨v,hv,hk⟩:=hq
     exact (hv H rfl).mono fun u H'' hu=>by obtain ⟨rfl,rfl⟩:=hu; exact hk
   case binOp op T x y T2=>
     have hh:hardT (P.underlying T)=true:=by
       cases hh:hardT (P.underlying T) with
       | true=>rfl
       | false=>rw [hh] at hp; exact absurd rfl hp
     have hq:=quietS (qf:=qf) (q:=false) (o:=⟨dst,.binOp op T x y T2,type,pos,after,guard⟩) hg (by unfold clsOf; simp only [hh]) h
     obtain ⟨v,hv,hk⟩:=hq
     exact (hv H rfl).mono fun u H'' hu=>by obtain ⟨rfl,rfl⟩:=hu; exact hk
   case makeMap t r=>
     cases r with
     | some r=>exact h.elim
     | none=>
       intro w hw
       have:(execOp ρ ⟨dst,.makeMap t none,type,pos,after,guard⟩).run P w=.ok (.value (.map (some w.heap.size))) { w with heap:=w.heap.push (.map #[] 0) }:=by
         simp [execOp,Instr.makeMap,newObj,Sem.run]
       rw [this]; subst hw
       exact ⟨⟨rfl,rfl,rfl⟩,h⟩
   case makeSlice T l c=>
     intro w hw
     obtain ⟨⟨v,H'⟩,hs,hk⟩:=Pu.get h
     subst hw
     obtain ⟨w',h1,h2,h3⟩:=makeE_ok (P:=P) rfl hs
     have:(execOp ρ ⟨dst,.makeSlice T l c,type,pos,after,guard⟩).run P w=.ok (.value v) w':=by
       simp only [execOp,Sem.run_bind,h1,Result.andThen_ok,Sem.run_pure]
     rw [this]
     exact ⟨h2,by rw [h3]; exact hk⟩
   case mapUpdate T m k x=>
     intro w hw
     have fin:∀ {H':Hp},(∃ w',(Instr.mapUpdate T (ρ m) (ρ k) (ρ x)).run P w=.ok () w'∧Sm w w'∧w'.heap=H')→K undef H'→Up P w K ((execOp ρ ⟨dst,.mapUpdate T m k x,type,pos,after,guard⟩).run P w):=fun {H'} ⟨w',h1,h2,h3⟩ hk=>by
       have:(execOp ρ ⟨dst,.mapUpdate T m k x,type,pos,after,guard⟩).run P w=.ok .skip w':=by
         simp only [execOp,Sem.run_bind,h1,Result.andThen_ok,Sem.run_pure]
       rw [this]
       exact ⟨h2,by rw [h3]; exact hk⟩
     subst hw
     cases hmw:mapW P T with
     | some kt=>
       rw [hmw] at h
       obtain ⟨H',hs,hk⟩:=Pu.get h
       exact fin (mapSetS_ok hmw hs) hk
     | none=>
       rw [hmw] at h
       obtain ⟨H',hs,hk⟩:=Pu.get h
       exact fin (mapSetE_ok (P:=P) hs) hk
   case insert T m k x=>
     intro w hw
     obtain ⟨H',hs,hk⟩:=Pu.get h
     subst hw
     obtain ⟨w',h1,h2,h3⟩:=mapSetE_ok (P:=P) hs
     have:(execOp ρ ⟨dst,.insert T m k x,type,pos,after,guard⟩).run P w=.ok .skip w':=by
       simp only [execOp,Sem.run_bind,h1,Result.andThen_ok,Sem.run_pure]
     rw [this]
     exact ⟨h2,by rw [h3]; exact hk⟩
   case store T a x=>
     intro w hw
     obtain ⟨H',hs,hk⟩:=Pu.get h
     have hp:∃ b,ρ a=.pointer (some b):=by
       unfold zj at hs
       split at hs
       · rename_i b hb; exact ⟨b,hb⟩
       · cases hs
     obtain ⟨b,hb⟩:=hp
     rw [hb,← hw] at hs
     obtain ⟨w',h1,h2,h3⟩:=storeVar_ok hs
     have:(execOp ρ ⟨dst,.store T a x,type,pos,after,guard⟩).run P w=.ok .skip w':=by
       simp [execOp,Instr.storeAt,hb,Instr.sureAddr,h1]
     rw [this]
     exact ⟨h2,by rw [h3]; exact hk⟩
   case call c=>
     obtain ⟨callee,args,ats⟩:=c
     cases callee <;> simp only at hp hc h <;> (try (exact h.elim))
     case builtin b=>
       unfold Yv at h
       split at h
       · rename_i T x h1 h2
         have hm:lenMap P ats=yZ (P.underlying T):=by unfold lenMap; rw [h1]
         have hh:yZ (P.underlying T)=true:=by
           cases hh:yZ (P.underlying T) with
           | true=>rfl
           | false=>simp only [hm,hh] at hp; exact absurd trivial hp
         have hq:=quietS (P:=P) (qf:=qf) (q:=false) (o:=⟨dst,.call ⟨.builtin .len,args,ats⟩,type,pos,after,guard⟩) hg (by unfold clsOf; simp only [hm,hh]) (by unfold vcOp Yv; simp only [h1,h2]; exact h)
         obtain ⟨v,hv,hk⟩:=hq
         exact (hv H rfl).mono fun u H'' hu=>by obtain ⟨rfl,rfl⟩:=hu; exact hk
       · exact absurd rfl hp
       · exact absurd rfl hp
       · rename_i T T2 s x h1 h2
         simp only [ForX] at h
         intro w hw
         split at h
         · rename_i e2 hu2
           have h':=h
           unfold Y2 at h'
           obtain ⟨e,he,_⟩:=h'
           rw [he] at h
           obtain ⟨v,w',hr,hsm,hk⟩:=append_ok (R:=type) he ⟨e2,hu2⟩ h hw
           have hargs:args.map ρ=#[s,x]:=by rw [map_ops,h2]
           have hts:ats=#[T,T2]:=by rw [← Array.toArray_toList (xs:=ats),h1]
           have:(execOp ρ ⟨dst,.call ⟨.builtin .append,args,ats⟩,type,pos,after,guard⟩).run P w=.ok (.value v) w':=by
             simp only [execOp,resolve,invoke,builtin,Sem.run_bind,Sem.run_pure,Result.andThen_ok,hargs,hts,hr]
           rw [this]
           exact ⟨hsm,hk⟩
         · exact h.elim
       · rename_i T T2 m k h1 h2
         simp only [ForX] at h
         intro w hw
         obtain ⟨H',hs,hk⟩:=Pu.get h
         subst hw
         have hargs:args.map ρ=#[m,k]:=by rw [map_ops,h2]
         have hat:ats[0]?=some T:=by rw [← Array.toArray_toList (xs:=ats),h1]; rfl
         obtain ⟨w',h3,h4,h5⟩:=mapDelE_ok (P:=P) (R:=type) hat hs
         have:(execOp ρ ⟨dst,.call ⟨.builtin .delete,args,ats⟩,type,pos,after,guard⟩).run P w=.ok (.value (.tuple #[])) w':=by
           simp only [execOp,resolve,invoke,builtin,Sem.run_bind,Sem.run_pure,Result.andThen_ok,hargs,h3]
         rw [this]
         exact ⟨h4,by rw [h5]; exact hk⟩
       · rename_i T m h1 h2
         simp only [ForX] at h
         intro w hw
         cases hh:yZ (P.underlying T) with
         | false=>
           rw [hh] at h
           obtain ⟨H',hs,hk⟩:=Pu.get h
           subst hw
           have hargs:args.map ρ=#[m]:=by rw [map_ops,h2]
           have hat:ats[0]?=some T:=by rw [← Array.toArray_toList (xs:=ats),h1]; rfl
           obtain ⟨w',h3,h4,h5⟩:=clrE_ok (P:=P) (R:=type) hat rfl hs
           have:(execOp ρ ⟨dst,.call ⟨.builtin .clear,args,ats⟩,type,pos,after,guard⟩).run P w=.ok (.value (.tuple #[])) w':=by
             simp only [execOp,resolve,invoke,builtin,Sem.run_bind,Sem.run_pure,Result.andThen_ok,hargs,h3]
           rw [this]
           exact ⟨h4,by rw [h5]; exact hk⟩
         | true=>
           rw [hh] at h
           obtain ⟨kt,et,hu⟩:=isMapT_spec hh
           obtain ⟨H',hs,hk⟩:=Pu.get h
           subst hw
           have hargs:args.map ρ=#[m]:=by rw [map_ops,h2]
           have hat:ats[0]?=some T:=by rw [← Array.toArray_toList (xs:=ats),h1]; rfl
           obtain ⟨w',h3,h4,h5⟩:=mapClrE_ok (P:=P) (R:=type) hat hu hs
           have:(execOp ρ ⟨dst,.call ⟨.builtin .clear,args,ats⟩,type,pos,after,guard⟩).run P w=.ok (.value (.tuple #[])) w':=by
             simp only [execOp,resolve,invoke,builtin,Sem.run_bind,Sem.run_pure,Result.andThen_ok,hargs,h3]
           rw [this]
           exact ⟨h4,by rw [h5]; exact hk⟩
       · rename_i T T2 d s h1 h2
         simp only [ForX] at h
         intro w hw
         obtain ⟨⟨v,H'⟩,hs,hk⟩:=Pu.get h
         subst hw
         have hargs:args.map ρ=#[d,s]:=by rw [map_ops,h2]
         have hat:ats[0]?=some T:=by rw [← Array.toArray_toList (xs:=ats),h1]; rfl
         obtain ⟨w',h3,h4,h5⟩:=copyE_ok (P:=P) (R:=type) hat rfl hs
         have:(execOp ρ ⟨dst,.call ⟨.builtin .copy,args,ats⟩,type,pos,after,guard⟩).run P w=.ok (.value v) w':=by
           simp only [execOp,resolve,invoke,builtin,Sem.run_bind,Sem.run_pure,Result.andThen_ok,hargs,h3]
         rw [this]
         exact ⟨h4,by rw [h5]; exact hk⟩
       · exact h.elim
     case value x=>
       by_cases hx:∃ f,x=.func f
       · obtain ⟨f,rfl⟩:=hx
         simp only [ForX] at h
         split at h
         · rename_i hen
           intro w hw
           rw [call_run (ats:=ats) rfl (hg f) hen w]
           refine ⟨Sm.refl w,?_⟩
           rw [hw]
           split at h
           · rename_i hdq
             simp only [Bool.and_eq_true] at hdq
             rcases hc with hc | hc
             · simp [hdq.2] at hc
             · rw [hc] at hdq; cases hdq.1
           · rw [← opsA_eq]; exact h
         · exact h.elim
       · have h':CallV P (ρ x) (args.map ρ) H K:=by
           rw [← opsA_eq]
           cases x <;> first | exact h | exact absurd ⟨_,rfl⟩ hx
         intro w hw
         subst hw
         have:=callV_ok h'
         simpa only [execOp,resolve,Sem.run_bind] using this
theorem forX_op (hc:clsOf P qf o=.eff) (h:vcOp P qf dr q o ρ H K) {H':Hp} (hx:Ex q H H'):vcOp P qf dr false o ρ H' K:=by
 cases q
 · cases hx; exact h
 · obtain ⟨dst,op,type,pos,after,guard⟩:=o
   unfold clsOf at hc
   unfold vcOp at h ⊢
   cases op <;> simp only [ForX] at hc h ⊢ <;> (try (cases hc; done)) <;> (try (exact h H' hx)) <;> (try (exact h.elim))
   case makeMap t r=>
     cases r with
     | some r=>exact h.elim
     | none=>exact h H' hx
   case convert s d x=>
     cases hst:strT P s d with
     | true=>rw [hst] at h; simp only [hst]; exact h H' hx
     | false=>
       rw [hst] at hc
       simp only at hc
       split at hc <;> cases hc
   case binOp op T x y T2=>
     split at hc <;> cases hc
   case call c=>
     obtain ⟨callee,args,ats⟩:=c
     cases callee <;> simp only at hc h ⊢ <;> (try (exact h.elim))
     case builtin b=>
       unfold Yv at h ⊢
       split at h
       · rename_i T x h1 h2
         have hm:lenMap P ats=yZ (P.underlying T):=by unfold lenMap; rw [h1]
         cases hh:yZ (P.underlying T) with
         | true=>simp only [hm,hh] at hc; cases hc
         | false=>simp only [hm,hh] at hc; cases hc
       · cases hc
       · cases hc
       · exact h H' hx
       · exact h H' hx
       · exact h H' hx
       · exact h H' hx
       · exact h.elim
     case value x=>
       cases x <;> simp only at hc h ⊢ <;> (try (exact h H' hx))
       split at h
       · rename_i hen
         simp only [hen,if_true]
         split at hc
         · cases hc
         · rename_i hqf
           simp only [hqf,Bool.and_false,Bool.false_eq_true,if_false] at h ⊢
           exact h H' hx
       · exact h.elim
end
abbrev Fr:=List Value
def slot (fr:Fr) (k:Nat):Value:=fr.getD k undef
def ev (fr:Fr):Operand→Value
 | .tmp t=>slot fr t
 | .const v=>v
 | .global g=>.pointer (some ⟨g,0,none⟩)
 | .func f=>.func (.func f) #[] #[]
def putF (fr:Fr) (d:Option Tmp) (v:Value):Fr:=
 match d with
 | some d=>fr.set d v
 | none=>fr
def addSk (sk:List Nat) (d:Option Tmp):List Nat:=
 match d with
 | some d=>d :: sk
 | none=>sk
def YJ (P:Program) (qf:FuncId→Bool) (dr q:Bool) (all:Array Oper):List Oper→List Nat→Fr→Hp→(Fr→Hp→Prop)→Prop
 | [],_,fr,H,K=>ForX q H (K fr)
 | o :: rest,sk,fr,H,K=>
   match o.guard with
   | none=>vcOp P qf dr q o (ev fr) H fun v H'=>YJ P qf dr q all rest sk (putF fr o.dst v) H' K
   | some (j,want)=>
     match (all[j]?).bind (·.dst) with
     | none=>False
     | some d=>
       if sk.contains d then
         (match slot fr d with
          | .tuple _=>YJ P qf dr q all rest (addSk sk o.dst) (putF fr o.dst undef) H K
          | _=>False)
       else
         Ite (slot fr d)
           (if want then vcOp P qf dr q o (ev (fr.set d (.bool true))) H fun v H'=>YJ P qf dr q all rest sk (putF (fr.set d (.bool true)) o.dst v) H' K
            else YJ P qf dr q all rest (addSk sk o.dst) (putF (fr.set d (.bool true)) o.dst undef) H K)
           (if want then YJ P qf dr q all rest (addSk sk o.dst) (putF (fr.set d (.bool false)) o.dst undef) H K
            else vcOp P qf dr q o (ev (fr.set d (.bool false))) H fun v H'=>YJ P qf dr q all rest sk (putF (fr.set d (.bool false)) o.dst v) H' K)
def At (a:Act) (fr:Fr):Prop:=a.tmps=fr.toArray
theorem At.slot {a:Act} {fr:Fr} (h:At a fr) (k:Nat):a.tmps.getD k undef=slot fr k:=by
 rw [h]; simp [Vc.slot]
theorem At.ev {a:Act} {fr:Fr} (h:At a fr):a.eval=ev fr:=by
 funext x; cases x <;> first | rfl | exact h.slot _
theorem At.put {a:Act} {fr:Fr} (h:At a fr) (d:Option Tmp) (v:Value):At (a.put d v) (putF fr d v):=by
 cases d with
 | none=>exact h
 | some d=>
   have h1:a.tmps=fr.toArray:=h
   simp [At,Act.put,putF,h1]
theorem Good_ev (fr:Fr):Good (ev fr):=fun _=>rfl
theorem set_same {fr:Fr} {d:Nat} {v:Value} (h:slot fr d=v) (hv:v≠undef):fr.set d v=fr:=by
 unfold slot at h
 apply List.ext_getElem?
 intro j
 rw [List.getElem?_set]
 by_cases hj:d=j
 · subst hj
   by_cases hl:d<fr.length
   · simp [hl] at h ⊢; exact h.symm
   · simp [hl] at h; exact absurd h.symm hv
 · simp [hj]
theorem yielded_slot {a:Act} {fr:Fr} (h:At a fr) {all:Array Oper} {j d:Nat} (hj:(all[j]?).bind (·.dst)=some d) :
   (∀ b,slot fr d=.bool b→yielded all a.tmps j=some b)∧(∀ vs,slot fr d=.tuple vs→yielded all a.tmps j=none):=by
 have h1:a.tmps=fr.toArray:=h
 constructor
 · intro b hb
   unfold yielded
   rw [hj,h1]
   unfold slot at hb
   by_cases hl:d<fr.length
   · simp [hl] at hb ⊢; rw [hb]
   · simp [hl,undef] at hb
 · intro vs hb
   unfold yielded
   rw [hj,h1]
   unfold slot at hb
   by_cases hl:d<fr.length
   · simp [hl] at hb ⊢; rw [hb]
   · simp [hl]
section
variable {P:Program} {qf:FuncId→Bool} {dr q:Bool} {all:Array Oper}
def freshOp (o:Oper):Bool:=match o.op with | .alloc _ | .box _ _ | .buildSlice _ _ _ | .makeMap _ none | .makeSlice _ _ _=>true | _=>false
theorem makeE_ext {e:Option ZT} {l c:Value} {H:Hp} {y:Value × Hp} (h:YT e l c H=some y):Ext H y.2:=by
 unfold YT at h
 split at h
 · split at h
   · injection h with h; subst h; exact Ext.push _ _
   · cases h
 · cases h
theorem fresh_op {o:Oper} {ρ:Operand→Value} {H:Hp} {K:Value→Hp→Prop} (hf:freshOp o=true) (h:vcOp P qf dr false o ρ H K):vcOp P qf dr false o ρ H fun v H'=>Ext H H'∧K v H':=by
 obtain ⟨dst,op,type,pos,after,guard⟩:=o
 unfold freshOp at hf
 unfold vcOp at h ⊢
 cases op <;> simp only [ForX] at hf h ⊢ <;> (try (cases hf; done))
 case alloc T=>
   obtain ⟨z,hz,hk⟩:=Pu.get h
   rw [hz,za]; exact ⟨Ext.push _ _,hk⟩
 case box T x=>exact ⟨Ext.push _ _,h⟩
 case buildSlice T n parts=>
   obtain ⟨e,he,h⟩:=Pu.get h
   obtain ⟨cs,hcs,hk⟩:=Pu.get h
   rw [he,za,hcs,za]; exact ⟨Ext.push _ _,hk⟩
 case makeMap t r=>
   cases r with
   | some r=>cases hf
   | none=>exact ⟨Ext.push _ _,h⟩
 case makeSlice T l c=>
   obtain ⟨y,hy,hk⟩:=Pu.get h
   rw [hy,za]; exact ⟨makeE_ext hy,hk⟩
def clAt (P:Program) (qf:FuncId→Bool) (dr fz:Bool) (all:Array Oper) (i:Nat):Cls:=
 match dr with
 | true=>match all[i]? with
   | some o=>(match fz && freshOp o with | true=>.fresh | false=>clsOf P qf o)
   | none=>.eff
 | false=>.eff
theorem fresh_eff {o:Oper} (hf:freshOp o=true):clsOf P qf o=.eff:=by
 obtain ⟨dst,op,type,pos,after,guard⟩:=o
 unfold freshOp at hf
 unfold clsOf
 cases op <;> simp only at hf ⊢ <;> (try (cases hf; done))
theorem Z7 {fz:Bool} (hq:dr=false→q=false) (hz:fz=true→q=true) {i:Nat} {o:Oper} (ho:all[i]?=some o) {a:Act} {fr:Fr} (ha:At a fr) {H:Hp} {K:Value→Hp→Prop} {K':Act→Hp→Prop}
   (hw:Region.wanted o (yielded all a.tmps)=true) (h:vcOp P qf dr q o (ev fr) H K) (hk:∀ v H',K v H'→K' (a.put o.dst v) H'):yt q P all (clAt P qf dr fz all) i K' a H:=by
 unfold yt
 simp only [ho,hw,if_true]
 rw [ha.ev]
 cases dr with
 | false=>
   have:=hq rfl
   subst this
   simp only [clAt]
   intro H' hx
   cases hx
   exact (effS (Good_ev fr) (.inr rfl) h).mono hk
 | true=>
   simp only [clAt,ho]
   cases hzf:(fz && freshOp o) with
   | false=>
     simp only
     cases hc:clsOf P qf o with
     | pure=>obtain ⟨v,hv,hK⟩:=pureS hc h; exact ⟨v,hv,hk _ _ hK⟩
     | quiet=>obtain ⟨v,hv,hK⟩:=quietS (Good_ev fr) hc h; exact ⟨v,hv,hk _ _ hK⟩
     | eff=>exact fun H' hx=>(effS (Good_ev fr) (.inl hc) (forX_op hc h hx)).mono hk
     | fresh=>
       exact absurd hc (by
         unfold clsOf
         split <;> (try (intro h; cases h; done))
         · split <;> (intro h; cases h)
         · split <;> (try (intro h; cases h; done))
           · split <;> (intro h; cases h)
         · split <;> (try (intro h; cases h; done))
           · split <;> (intro h; cases h)
           · split <;> (intro h; cases h))
   | true=>
     simp only [Bool.and_eq_true] at hzf
     simp only
     have hc:=fresh_eff (P:=P) (qf:=qf) hzf.2
     have hqt:=hz hzf.1
     subst hqt
     exact fun H' hx=>(effS (Good_ev fr) (.inl hc) (fresh_op hzf.2 (forX_op hc h hx))).mono fun v H'' hv=>⟨hv.1,hk _ _ hv.2⟩
theorem skip_of {fz:Bool} {i:Nat} {o:Oper} (ho:all[i]?=some o) {a:Act} {H:Hp} {K':Act→Hp→Prop}
   (hw:Region.wanted o (yielded all a.tmps)=false) (h:K' (a.put o.dst undef) H):yt q P all (clAt P qf dr fz all) i K' a H:=by
 unfold yt
 simp only [ho,hw,Bool.false_eq_true,if_false]
 exact h
def Zx (ops:List Oper):List Nat:=ops.filterMap (·.dst)
def Agree (W:List Nat) (fr fr':Fr):Prop:=fr'.length=fr.length∧∀ k,k ∉ W→fr'[k]?=fr[k]?
theorem Agree.refl (W:List Nat) (fr:Fr):Agree W fr fr:=⟨rfl,fun _ _=>rfl⟩
theorem Agree.trans {W:List Nat} {a b c:Fr} (h:Agree W a b) (h':Agree W b c):Agree W a c:=⟨h'.1.trans h.1,fun k hk=>(h'.2 k hk).trans (h.2 k hk)⟩
theorem Agree.mono {W W':List Nat} {a b:Fr} (h:Agree W a b) (hs:∀ k∈W,k∈W'):Agree W' a b:=⟨h.1,fun k hk=>h.2 k fun hm=>hk (hs k hm)⟩
theorem Agree.put {W:List Nat} {fr:Fr} {d:Option Tmp} {v:Value} (h:∀ k,d=some k→k∈W):Agree W fr (putF fr d v):=by
 cases d with
 | none=>exact Agree.refl W fr
 | some d=>exact ⟨by simp [putF],fun k hk=>by
     have:d≠k:=fun e=>hk (e ▸ h d rfl)
     simp [putF,List.getElem?_set,this]⟩
theorem Yi {fz:Bool} (hq:dr=false→q=false) (hz:fz=true→q=true) {W:List Nat} {ds:List Deferred} {fr₀:Fr}:∀ (l:List Oper) (k:Nat) (sk:List Nat) (fr:Fr) (a:Act) (H:Hp) (K:Fr→Hp→Prop),
   (∀ j,l[j]?=all[k+j]?)→(∀ d∈Zx l,d∈W)→At a fr→a.defers=ds→Agree W fr₀ fr→YJ P qf dr q all l sk fr H K →
   runD q P all (clAt P qf dr fz all) (fun a' H'=>∃ fr',At a' fr'∧a'.defers=ds∧Agree W fr₀ fr'∧K fr' H') (List.range' k l.length) a H
 | [],k,sk,fr,a,H,K,_,_,ha,hd,hA,h=>fun H' hx=>⟨fr,ha,hd,hA,h.ex hx⟩
 | o :: rest,k,sk,fr,a,H,K,hl,hW,ha,hd,hA,h=>by
   have ho:all[k]?=some o:=by simpa using (hl 0).symm
   have hl':∀ j,rest[j]?=all[k+1+j]?:=fun j=>by have:=hl (j+1); simpa [Nat.add_assoc,Nat.add_comm 1 j] using this
   have hW':∀ d∈Zx rest,d∈W:=fun d hd=>hW d (by
     unfold Zx at *; rw [List.filterMap_cons]; split
     · exact hd
     · exact List.mem_cons_of_mem _ hd)
   have hWo:∀ d,o.dst=some d→d∈W:=fun d hdd=>hW d (by unfold Zx; rw [List.filterMap_cons,hdd]; exact List.mem_cons_self)
   have hdp:∀ v,(a.put o.dst v).defers=ds:=fun v=>by rw [← hd]; cases o.dst <;> rfl
   simp only [List.length_cons,List.range'_succ,runD]
   have next:∀ (sk:List Nat) (v:Value) (H':Hp),YJ P qf dr q all rest sk (putF fr o.dst v) H' K→runD q P all (clAt P qf dr fz all) (fun a' H'=>∃ fr',At a' fr'∧a'.defers=ds∧Agree W fr₀ fr'∧K fr' H') (List.range' (k+1) rest.length) (a.put o.dst v) H':=
     fun sk v H' h'=>Yi hq hz rest (k+1) sk (putF fr o.dst v) (a.put o.dst v) H' K hl' hW' (ha.put o.dst v) (hdp v) (hA.trans (Agree.put hWo)) h'
   simp only [YJ] at h
   cases hg:o.guard with
   | none=>
     simp only [hg] at h
     exact Z7 hq hz ho ha (by simp [Region.wanted,hg]) h fun v H' h'=>next sk v H' h'
   | some g=>
     obtain ⟨j,want⟩:=g
     simp only [hg] at h
     cases hjd:(all[j]?).bind (·.dst) with
     | none=>simp only [hjd] at h
     | some d=>
       simp only [hjd] at h
       obtain ⟨hy1,hy2⟩:=yielded_slot ha hjd
       split at h
       · split at h
         · rename_i vs hv
           exact skip_of ho (by simp [Region.wanted,hg,hy2 _ hv]) (next _ undef H h)
         · exact h.elim
       · unfold Ite at h
         split at h
         · rename_i hv
           rw [set_same hv (by simp [undef])] at h
           have hyt:=hy1 true hv
           cases want
           · simp only [Bool.false_eq_true,if_false] at h
             exact skip_of ho (by simp [Region.wanted,hg,hyt]) (next _ undef H h)
           · simp only [if_true] at h
             exact Z7 hq hz ho ha (by simp [Region.wanted,hg,hyt]) h fun v H' h'=>next sk v H' h'
         · rename_i hv
           rw [set_same hv (by simp [undef])] at h
           have hyt:=hy1 false hv
           cases want
           · simp only [Bool.false_eq_true,if_false] at h
             exact Z7 hq hz ho ha (by simp [Region.wanted,hg,hyt]) h fun v H' h'=>next sk v H' h'
           · simp only [if_true] at h
             exact skip_of ho (by simp [Region.wanted,hg,hyt]) (next _ undef H h)
         · exact h.elim
end
def Tup:Nat→Type
 | 0=>Unit
 | n+1=>Value × Tup n
def grab (fr:Fr):(L:List Nat)→Tup L.length
 | []=>()
 | k :: L=>(slot fr k,grab fr L)
def lay:(L:List Nat)→Tup L.length→Fr→Fr
 | [],_,fr=>fr
 | k :: L,s,fr=>(lay L s.2 fr).set k s.1
def havoc (J:List Nat) (j:Nat→Value) (fr:Fr):Fr:=
 match J with
 | []=>fr
 | k :: J=>(havoc J j fr).set k (j k)
inductive zS {n:Nat} (rest:Tup n→Hp→Prop) (first:(Tup n→Hp→Prop)→Prop):Prop
 | mk (K:Tup n→Hp→Prop) (hr:∀ s H,K s H→rest s H) (hf:first K)
inductive zx {n:Nat} (s:Tup n) (H:Hp) (body:(Tup n→Hp→Prop)→Tup n→Hp→Prop):Prop
 | mk (I:Tup n→Hp→Prop) (μ:Tup n→Hp→Nat) (h0:I s H) (hb:∀ s H,I s H→body (fun s' H'=>I s' H'∧μ s' H'<μ s H) s H)
def Any (X:(Nat→Value)→Prop):Prop:=∀ j,X j
inductive Ann where
 | nil
 | seq (l r:Ann)
 | join (L J:List Nat) (l r:Ann)
 | cond (l r:Ann)
 | loop (L J:List Nat) (b:Ann)
def ZM:Code→List Nat
 | .region _ ops _=>Zx ops.toList
 | .seq a b=>ZM a++ZM b
 | .cond _ a b=>ZM a++ZM b
 | .block _ c=>ZM c
 | .loop c=>ZM c
 | .scope c=>ZM c
 | _=>[]
def subB (xs ys:List Nat):Bool:=xs.all fun x=>ys.contains x
abbrev Ks:=Fr→List Deferred→Hp→Prop
def thn (K:Ks) (Q:Exit→Ks):Exit→Ks
 | .normal,fr,ds,H=>K fr ds H
 | e,fr,ds,H=>Q e fr ds H
def isX (k id:Nat) (A B:Prop):Prop:=if k=id then A else B
def blk (id:Nat) (Q:Exit→Ks):Exit→Ks
 | .exit k,fr,ds,H=>isX k id (Q .normal fr ds H) (Q (.exit k) fr ds H)
 | e,fr,ds,H=>Q e fr ds H
def scp (Q:Exit→Ks):Exit→Ks
 | .goto _,_,_,_=>False
 | e,fr,ds,H=>Q e fr ds H
def Zt:Code→Bool
 | .rangeFunc _ _ _ _=>false
 | .seq a b=>Zt a && Zt b
 | .cond _ a b=>Zt a && Zt b
 | .block _ c=>Zt c
 | .loop c=>Zt c
 | .scope c=>Zt c
 | _=>true
def tupL:(n:Nat)→Tup n→List Value
 | 0,_=>[]
 | n+1,s=>s.1 :: tupL n s.2
abbrev Jmp:=Option (Option Nat)
def Yr:Jmp→Option Code
 | none=>none
 | some none=>some .ret
 | some (some id)=>some (.exit id)
def LpAt (rec:Loop) (l:Nat) (st:LoopState) (j:Jmp) (H:Hp):Prop:=H[l]?=some (.loop { rec with state:=st,pending:=Yr j })
def setLp (rec:Loop) (l:Nat) (st:LoopState) (j:Jmp) (H:Hp):Hp:=H.setIfInBounds l (.loop { rec with state:=st,pending:=Yr j })
inductive RangeF (P:Program) (g:Value) (n:Nat) (H:Hp) (round:Tup n→Hp→(Hp→(Hp→Prop)→Prop)→(Jmp→Hp→Prop)→Prop) (after:Jmp→Nat→Hp→Prop):Prop
 | mk (hg:∃ f first cap,g=.func (.func f) first cap) (h:∀ (rec:Loop) (l D:Nat) (y:Value) (H1:Hp),Ext H H1→H.size≤D→D<l→l<H1.size→H1[D]?=some (.deferred (some []))→LpAt rec l .ready none H1 →
     (∀ (s:Tup n) (H2:Hp) (K:Value→Hp→Prop),LpAt rec l .ready none H2 →
       round s H2 (fun H3 X=>LpAt rec l .ready none H3∧X (setLp rec l .busy none H3))
         (fun j H4=>LpAt rec l .busy none H4∧K (.bool j.isNone) (setLp rec l (if j.isNone then .ready else .done) j H4))→CallV P y (tupL n s).toArray H2 K) →
     CallV P g #[y] H1 fun _ H5=>∃ st j,st≠.busy∧LpAt rec l st j H5∧after j D (setLp rec l .exhausted j H5)):RangeF P g n H round after
def onJ (j:Jmp) (A B:Prop) (C:Nat→Prop):Prop:=
 match j with
 | none=>A
 | some none=>B
 | some (some id)=>C id
def rndQ (K:Jmp→Hp→Prop):Exit→Ks
 | .normal,_,_,H=>K none H
 | .ret,_,_,H=>K (some none) H
 | .exit id,_,_,H=>K (some (some id)) H
 | _,_,_,_=>False
def asgQ (B:Hp→(Hp→Prop)→Prop) (body:Ks):Exit→Ks
 | .normal,fr,ds,H=>B H fun H3=>body fr ds H3
 | _,_,_,_=>False
def setL (fr:Fr):List (Nat × Value)→Fr
 | []=>fr
 | (t,v) :: l=>setL (fr.set t v) l
def markD (D:Nat):Deferred:={ target:=.collected D,args:=#[] }
def anyQ (qf:FuncId→Bool) (ops:Array Oper):Bool:=
 ops.toList.any fun o=>match o.op with
   | .call c=>match c.callee with
     | .value (.func f)=>qf f
     | _=>false
   | _=>false
def vcReg (P:Program) (qf:FuncId→Bool) (ops:Array Oper) (dr:Bool) (fr:Fr) (H:Hp) (K:Fr→Hp→Prop):Prop:=
 match dr with
 | false=>if noSelB ops then YJ P qf false false ops ops.toList [] fr H K else False
 | true=>if P.follows .mixedOrders && drawB ops (clAt P qf true false ops) then YJ P qf true (anyQ qf ops) ops ops.toList [] fr H K
   else if P.follows .mixedOrders && drawB ops (clAt P qf true true ops) then YJ P qf true true ops ops.toList [] fr H K else False
def vc (P:Program) (qf:FuncId→Bool):(top:Bool)→Code→Ann→(Exit→Ks)→Ks
 | _,.skip,_,Q,fr,ds,H=>Q .normal fr ds H
 | _,.label _,_,Q,fr,ds,H=>Q .normal fr ds H
 | _,.ret,_,Q,fr,ds,H=>Q .ret fr ds H
 | _,.exit id,_,Q,fr,ds,H=>Q (.exit id) fr ds H
 | _,.region _ ops dr,_,Q,fr,ds,H=>vcReg P qf ops dr fr H fun fr' H'=>Q .normal fr' ds H'
 | top,.seq a b,ann,Q,fr,ds,H=>
   match ann with
   | .join L J l r=>
     if subB (ZM a) (L++J) && Zt a then
       zS (fun s H=>Any fun j=>vc P qf top b r Q (lay L s (havoc J j fr)) ds H) fun K=>vc P qf top a l (thn (fun fr' _ H'=>K (grab fr' L) H') Q) fr ds H
     else False
   | .seq l r=>vc P qf top a l (thn (vc P qf top b r Q) Q) fr ds H
   | _=>vc P qf top a .nil (thn (vc P qf top b .nil Q) Q) fr ds H
 | top,.cond c a b,ann,Q,fr,ds,H=>
   match ann with
   | .cond l r=>Ite (ev fr c) (vc P qf top a l Q fr ds H) (vc P qf top b r Q fr ds H)
   | _=>Ite (ev fr c) (vc P qf top a .nil Q fr ds H) (vc P qf top b .nil Q fr ds H)
 | top,.block id c,ann,Q,fr,ds,H=>vc P qf top c ann (blk id Q) fr ds H
 | top,.scope c,ann,Q,fr,ds,H=>vc P qf top c ann (scp Q) fr ds H
 | top,.loop c,ann,Q,fr,ds,H=>
   match ann with
   | .loop L J b=>
     if subB (ZM c) (L++J) && Zt c then
       zx (grab fr L) H fun K s H=>Any fun j=>vc P qf top c b (thn (fun fr' _ H'=>K (grab fr' L) H') Q) (lay L s (havoc J j fr)) ds H
     else False
   | _=>False
 | true,.rangeFunc g ps x y,ann,Q,fr,ds,H=>
   match ann with
   | .seq l r=>RangeF P (ev fr g) ps.size H
       (fun s H2 B K=>vc P qf false x l (asgQ B (vc P qf false y r (rndQ K))) (setL fr (ps.toList.zip (tupL ps.size s))) [] H2)
       (fun j D H'=>onJ j (Q .normal fr (markD D :: ds) H') (Q .ret fr (markD D :: ds) H') fun id=>Q (.exit id) fr (markD D :: ds) H')
   | _=>False
 | _,_,_,_,_,_,_=>False
end Go.Vc
