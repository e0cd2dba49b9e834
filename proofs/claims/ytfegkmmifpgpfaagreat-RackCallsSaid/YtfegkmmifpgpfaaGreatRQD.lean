/- Parts of a proof, joined in build order: a calculus of contracts, contracts of functions. -/
import Derived.Laws.BytesArg
import Derived.Laws.IdiomStrings
import Derived.DeepKeys3
import Derived.Test.YtfegkmmifpgpfaaGreatRQB
import Derived.Test.YtfegkmmifpgpfaaGreatRQC
set_option linter.unusedVariables false
set_option linter.unusedSimpArgs false
set_option maxHeartbeats 8000000
set_option maxRecDepth 100000
namespace Go.Vc
def Q7(td:Option TypeDesc):Option TypeDesc:=
 match td with
 | some (.int k)=>some (.int k)
 | some .string=>some .string
 | some .bool=>some .bool
 | _=>none
def DT(P:Program)(T:TypeId):Option (TypeId × TypeDesc × TypeId):=
 match P.underlying T with
 | some (.map kt et)=>(Q7 (P.underlying kt)).map fun kd=>(kt,kd,et)
 | _=>none
def wq(H:Hp)(r:Nat):Option (Array MapEntry × Nat):=match H[r]? with | some (.map es c)=>some (es,c) | _=>none
def AH(x:Value)(H:Hp):Option (Array MapEntry):=
 match x with
 | .map none=>some #[]
 | .map (some r)=>(wq H r).map (·.1)
 | _=>none
def ux(ok:Bool)(v:Value)(b:Bool):Value:=if ok then .tuple #[v,.bool b] else v
def yf(P:Program)(mi:Option (TypeId × TypeDesc × TypeId))(ok:Bool)(x k:Value)(H:Hp):Option Value:=
 match mi with
 | some (_,kd,et)=>(AH x H).bind fun es=>(Instr.findNow kd k es.toList 0).bind fun r=>match r with
  | some (_,v)=>some (ux ok v true)
  | none=>(ZZ P et).map fun z=>ux ok z false
 | none=>none
def yM(mi:Option (TypeId × TypeDesc × TypeId))(x k v:Value)(H:Hp):Option Hp:=
 match mi,x with
 | some (_,kd,_),.map (some r)=>(wq H r).bind fun(es,c)=>(Instr.findNow kd k es.toList 0).map fun f=>match f with
  | some (i,_)=>H.setIfInBounds r (.map (es.modify i fun e=>{ e with key:=k,val:=v }) c)
  | none=>H.setIfInBounds r (.map (es.push { key:=k,val:=v,born:=c }) (c+1))
 | _,_=>none
def W6(es:Array MapEntry)(c:Nat):Option (Nat × Value)->Obj
 | some (i,_)=>.map (es.eraseIdxIfInBounds i) c
 | none=>.map es c
def rC(mi:Option (TypeId × TypeDesc × TypeId))(x k:Value)(H:Hp):Option Hp:=
 match mi,x with
 | some (_,kd,_),.map (some r)=>(wq H r).bind fun(es,c)=>(Instr.findNow kd k es.toList 0).map fun f=>H.setIfInBounds r (W6 es c f)
 | _,_=>none
def rD(x:Value)(H:Hp):Option Hp:=
 match x with
 | .map none=>some H
 | .map (some r)=>(wq H r).map fun(_,c)=>H.setIfInBounds r (.map #[] c)
 | _=>none
def YI(x:Value)(H:Hp):Option Value:=(AH x H).map fun es=>.int .i64 es.size
section
variable{P:Program}{w:World}
theorem xC{T:TypeId}{mi:TypeId × TypeDesc × TypeId}(h:DT P T=some mi):P.underlying T=some (.map mi.1 mi.2.2)/\P.underlying mi.1=some mi.2.1/\((∃ k,mi.2.1=.int k)\/mi.2.1=.string\/mi.2.1=.bool):=by
 unfold DT at h;split at h
 ·rename_i kt et hu;simp only[jf]at h;obtain⟨kd,hk,rfl⟩:=h;refine⟨hu,?_⟩;unfold Q7 at hk;split at hk
  ·rename_i k uA;injection hk with hk;subst hk;exact⟨uA,.inl ⟨k,rfl⟩⟩
  ·rename_i uA;injection hk with hk;subst hk;exact⟨uA,.inr (.inl rfl)⟩
  ·rename_i uA;injection hk with hk;subst hk;exact⟨uA,.inr (.inr rfl)⟩
  ·cases hk
 ·cases h
theorem Di{b:Bool}{n:Nat}{t:TypeId}{kd:TypeDesc}{v:Value}(hu:P.underlying t=some kd)(hk:(∃ k,kd=.int k)\/kd=.string\/kd=.bool):(Instr.checkKey b (n+1) t v).run P w=.ok () w:=by
 rcases hk with ⟨k,rfl⟩ | rfl | rfl<;>simp[Instr.checkKey,underlying,hu]
theorem qJ{b:Bool}{t:TypeId}{kd:TypeDesc}{v:Value}(hu:P.underlying t=some kd)(hk:(∃ k,kd=.int k)\/kd=.string\/kd=.bool):(Instr.checkKey b 10000 t v).run P w=.ok () w:=Di (n:=9999) hu hk
theorem rN{t:TypeId}{kd:TypeDesc}{k:Value}{l:List MapEntry}{r:Option (Nat × Value)}(hu:P.underlying t=some kd)(h:Instr.findNow kd k l 0=some r):(Instr.findKey t k l).run P w=.ok r w:=by
 simp[Instr.findKey,underlying,hu,h]
theorem yj{H:Hp}{r:Nat}{es:Array MapEntry}{c:Nat}(h:wq H r=some (es,c)):H[r]?=some (.map es c):=by
 unfold wq at h;split at h
 ·injection h with h;cases h;assumption
 ·cases h
theorem qh{r:Nat}{es:Array MapEntry}{c:Nat}(h:w.heap[r]?=some (.map es c)):(getObj r).run P w=.ok (.map es c) w:=by
 simp[getObj,Sem.run,h,bind,Sem.bind]
theorem Y8{r:Nat}{es:Array MapEntry}{c:Nat}{o:Obj}(h:w.heap[r]?=some (.map es c)):∃ w',(setObj r o).run P w=.ok () w'/\Sm w w'/\w'.heap=w.heap.setIfInBounds r o:=by
 refine⟨{ w with heap:=w.heap.setIfInBounds r o },?_,⟨rfl,rfl,rfl⟩,rfl⟩;simp[setObj,Sem.run,h]
theorem Kw{T:TypeId}{x k v:Value}{ok:Bool}(h:yf P (DT P T) ok x k w.heap=some v):(Instr.lookup T x k ok).run P w=.ok v w:=by
 unfold yf at h
 split at h
 · rename_i kt kd et X7
   obtain⟨hu,N8,hk⟩:=xC X7
   simp only at hu N8 hk
   simp only[j6]at h
   obtain⟨es,AB,r,hr,h⟩:=h
   unfold AH at AB
   have fin:∀ (r:Option (Nat × Value)) (v':Value),(match r with
       | some (_,v)=>some (ux ok v true)
       | none=>(ZZ P et).map fun z=>ux ok z false)=some v' ->
       ((match r with
         | some (_,v)=>do
           let __x <- pure (v,true)
           pure (if ok=true then Value.tuple #[__x.fst,Value.bool __x.snd] else __x.fst)
         | none=>do
           let Py <- zeroValue et
           let __x <- pure (Py,false)
           pure (if ok=true then Value.tuple #[__x.fst,Value.bool __x.snd] else __x.fst):Sem Value).run P w)=.ok v' w:=by
     intro r v' h
     cases r with
     | some iv=>
       obtain⟨i,u⟩:=iv
       simp only at h
       injection h with h;subst h
       simp[ux]
     | none=>
       simp only[jf]at h
       obtain⟨z,hz,rfl⟩:=h
       unfold ZZ at hz
       simp only[j6]at hz
       obtain⟨i,hi,hz⟩:=hz
       simp[zeroValue,typeInfo,hi,hz,ux]
   split at AB
   · injection AB with AB;subst AB
     unfold Instr.lookup
     simp only[Sem.run_bind,underlying,run_program,Result.andThen_ok,hu,Sem.run_pure,qJ N8 hk,rN N8 hr]
     exact fin _ v h
   · rename_i r
     simp only[jf]at AB
     obtain⟨⟨es',c⟩,hm,rfl⟩:=AB
     unfold Instr.lookup
     simp only[Sem.run_bind,underlying,run_program,Result.andThen_ok,hu,Sem.run_pure,qh (yj hm),qJ N8 hk,rN N8 hr]
     exact fin _ v h
   · cases AB
 · cases h
theorem AG{kd:TypeDesc}{k:Value}(hk:(∃ q,kd=.int q)\/kd=.string\/kd=.bool):∀ {l:List MapEntry} {n i:Nat} {v:Value},Instr.findNow kd k l n=some (some (i,v)) ->
   n<=i/\∃ e,l[i - n]?=some e/\Instr.sameNow kd k e.key=some true/\e.val=v
 | [],_,_,_,h=>by simp[Instr.findNow]at h
 | e :: l,n,i,v,h=>by
   unfold Instr.findNow at h
   split at h
   · rename_i hs
     injection h with h;injection h with h;injection h with h1 h2
     subst h1 h2
     exact⟨iU _,e,by simp,hs,rfl⟩
   · obtain⟨h1,e',h2,h3,h4⟩:=AG hk h
     exact⟨by omega,e',by rw[show i - n=(i - (n+1))+1 by omega];simpa using h2,h3,h4⟩
   · cases h
theorem NM{kd:TypeDesc}{a b:Value}(h:Instr.sameNow kd a b=some true)(n:Nat):Instr.sameBits n b a=true:=by
 unfold Instr.sameNow at h;split at h
 ·split at h
  ·rename_i hk;injection h with h;subst hk;simp only[Instr.sameBits];rw[Po];simp at h ⊢;exact h.symm
  ·cases h
 ·injection h with h;simp only[Instr.sameBits];exact Dr h
 ·injection h with h;simp only[Instr.sameBits];simp at h ⊢;exact h.symm
 ·cases h
where
 Po {k:IntKind}:(k == k)=true:=by cases k<;>rfl
 Dr {a b:ByteArray} (h:(a == b)=true):(b == a)=true:=by
  rw[Go.beq_toListBytes]at h ⊢;simp at h ⊢;exact h.symm
theorem Cm{T:TypeId}{x k v:Value}{H':Hp}(h:yM (DT P T) x k v w.heap=some H'):∃ w',(Instr.mapUpdate T x k v).run P w=.ok () w'/\Sm w w'/\w'.heap=H':=by
 unfold yM at h
 split at h
 · rename_i kt kd et r X7
   obtain⟨hu,N8,hk⟩:=xC X7
   simp only at hu N8 hk
   simp only[j6,jf]at h
   obtain⟨⟨es,c⟩,hm,f,hf,h⟩:=h
   have hg:=qh (P:=P) (yj hm)
   have vo:(Instr.mapUpdate T (.map (some r)) k v).run P w=(match f with
       | some (i,_)=>(do
         let key <- Instr.keyThatStays (((es[i]?).map fun(e:MapEntry)=>e.key).getD k) k
         setObj r (.map (es.modify i fun e=>{ e with key,val:=v }) c):Sem Unit)
       | none=>setObj r (.map (es.push { key:=k,val:=v,born:=c }) (c+1))).run P w:=by
     unfold Instr.mapUpdate
     simp only[Sem.run_bind,underlying,run_program,Result.andThen_ok,hu,Sem.run_pure,hg,qJ N8 hk,rN N8 hf]
     cases f with
     | none=>rfl
     | some iv=>rfl
   rw[vo]
   cases f with
   | none=>
     simp only at h ⊢
     subst h
     exact Y8 (yj hm)
   | some iv=>
     obtain⟨i,u⟩:=iv
     simp only at h ⊢
     subst h
     obtain⟨_,e,he,hs,_⟩:=AG hk hf
     have he':es[i]?=some e:=by simpa using he
     have akM:(Instr.keyThatStays (((es[i]?).map fun(e:MapEntry)=>e.key).getD k) k).run P w=.ok k w:=by
       rw[he']
       unfold Instr.keyThatStays
       simp[NM hs 10000]
     obtain⟨w',h1,h2,h3⟩:=Y8 (P:=P) (yj hm) (o:=.map (es.modify i fun e=>{ e with key:=k,val:=v }) c)
     exact⟨w',by rw[Sem.run_bind,akM];exact h1,h2,h3⟩
 · cases h
def P7(P:Program)(kt:TypeId):Bool:=(match P.underlying kt with | some (.array _ _) | some (.struct _)=>true | _=>false) && P.keyTypeAt 100 kt
def Rw(P:Program)(T:TypeId):Option TypeId:=
 match P.underlying T with
 | some (.map kt _)=>(match P7 P kt with | true=>some kt | false=>none)
 | _=>none
def af6(P:Program)(kt:TypeId)(k:Value):Bool:=k.formed P kt && (P.keyLits 100 kt k.cells.toList).isSome
def IU(P:Program)(kt:TypeId)(k:Value):List MapEntry->Nat->Option (Option (Nat × Value))
 | [],_=>some none
 | e :: es,i=>(match DF P 10000 kt k e.key with
  | some true=>some (some (i,e.key))
  | some false=>IU P kt k es (i+1)
  | none=>none)
def F6(P:Program)(kt:TypeId)(x k v:Value)(H:Hp):Option Hp:=
 match x with
 | .map (some r)=>(wq H r).bind fun(es,c)=>(match af6 P kt k with
  | true=>(IU P kt k es.toList 0).bind fun f=>(match f with
   | some (i,old)=>(match Instr.sameBits 10000 old k with
    | true=>some (H.setIfInBounds r (.map (es.modify i fun e=>{ e with key:=k,val:=v }) c))
    | false=>none)
   | none=>some (H.setIfInBounds r (.map (es.push { key:=k,val:=v,born:=c }) (c+1))))
  | false=>none)
 | _=>none
theorem N1{T kt:TypeId}(h:Rw P T=some kt):∃ et,P.underlying T=some (.map kt et)/\P7 P kt=true:=by
 unfold Rw at h;split at h
 ·rename_i kt' et hu;split at h
  ·rename_i hw;injection h with h;subst h;exact⟨et,hu,hw⟩
  ·cases h
 ·cases h
theorem IT{kt:TypeId}{k:Value}:∀ {l:List MapEntry} {i:Nat} {r:Option (Nat × Value)},IU P kt k l i=some r ->
   ∃ r',(Instr.findAsking kt k l i).run P w=.ok r' w/\(match r,r' with
     | some (j,old),some (j',_)=>j=j'/\i<=j/\∃ e,l[j - i]?=some e/\e.key=old
     | none,none=>True
     | _,_=>False)
 | [],i,r,h=>by
   simp only[IU,iH]at h;subst h
   exact⟨none,by simp[Instr.findAsking],trivial⟩
 | e :: l,i,r,h=>by
   unfold IU at h
   split at h
   · rename_i hq
     injection h with h;subst h
     have he:(Op.equal kt k e.key).run P w=.ok true w:=vz (d:=10000) hq
     exact⟨some (i,e.val),by simp[Instr.findAsking,he],rfl,iU _,e,by simp,rfl⟩
   · rename_i hq
     have he:(Op.equal kt k e.key).run P w=.ok false w:=vz (d:=10000) hq
     obtain⟨r',h1,h2⟩:=IT h
     refine⟨r',by simp[Instr.findAsking,he,h1],?_⟩
     match r,r',h2 with
     | some (j,old),some (j',u),h2=>
       obtain⟨h3,h4,e',h5,h6⟩:=h2
       exact⟨h3,by omega,e',by rw[show j - i=(j - (i+1))+1 by omega];simpa using h5,h6⟩
     | none,none,h2=>trivial
   · cases h
theorem Kq{T kt:TypeId}{x k v:Value}{H':Hp}(hw:Rw P T=some kt)(h:F6 P kt x k v w.heap=some H'):∃ w',(Instr.mapUpdate T x k v).run P w=.ok () w'/\Sm w w'/\w'.heap=H':=by
 obtain⟨et,hu,hwk⟩:=N1 hw;unfold P7 at hwk;simp only[jd]at hwk;unfold F6 at h;split at h
 ·rename_i r;simp only[j6]at h;obtain⟨⟨es,c⟩,hm,h⟩:=h;have hg:=qh (P:=P) (yj hm);simp only at h;split at h
  ·rename_i hkb;unfold af6 at hkb;simp only[jd,Option.isSome_iff_exists]at hkb;obtain⟨hfm,la,hla⟩:=hkb;have hck:(Instr.checkKey false 10000 kt k).run P w=.ok () w:=run_checkKey_deep false 9900 100 kt hwk.2 w 100 k la hfm hla;simp only[j6]at h;obtain⟨f,hf,h⟩:=h;obtain⟨r',KJ,wF⟩:=IT (w:=w) hf;have hfk:(Instr.findKey kt k es.toList).run P w=.ok r' w:=by rw[run_findKey_eq w hwk.1];exact KJ
   match f,r',wF,h,hfk with
   | some (j,old),some (j',u),wF,h,hfk=>
    obtain⟨rfl,_,e,he,rfl⟩:=wF;simp only at h;split at h
    ·rename_i hsb;injection h with h;subst h;obtain⟨w',h1,h2,h3⟩:=Y8 (P:=P) (yj hm) (o:=.map (es.modify j fun e=>{ e with key:=k,val:=v }) c);refine⟨w',?_,h2,h3⟩;have uA:((es[j]?).map fun(e:MapEntry)=>e.key)=some e.key:=by
      rw[<- nj];simp only[Nat.sub_zero]at he;rw[he];rfl
     simp[Instr.mapUpdate,underlying,hu,hg,hck,hfk,uA,Instr.keyThatStays,hsb,h1]
    ·cases h
   | none,none,wF,h,hfk=>
    injection h with h;subst h;obtain⟨w',h1,h2,h3⟩:=Y8 (P:=P) (yj hm) (o:=.map (es.push { key:=k,val:=v,born:=c }) (c+1));refine⟨w',?_,h2,h3⟩;simp[Instr.mapUpdate,underlying,hu,hg,hck,hfk,h1]
  ·cases h
 ·cases h
theorem Kt{T R:TypeId}{ats:Array TypeId}{x k:Value}{H':Hp}(sw:ats[0]?=some T)(h:rC (DT P T) x k w.heap=some H'):∃ w',(Builtin.delete_ ats R #[x,k]).run P w=.ok (.tuple #[]) w'/\Sm w w'/\w'.heap=H':=by
 unfold rC at h;split at h
 ·rename_i kt kd et r X7;obtain⟨hu,N8,hk⟩:=xC X7;simp only at hu N8 hk;simp only[j6,jf]at h;obtain⟨⟨es,c⟩,hm,f,hf,h⟩:=h;have hg:=qh (P:=P) (yj hm);obtain⟨w',h1,h2,h3⟩:=Y8 (P:=P) (yj hm) (o:=W6 es c f);refine⟨w',?_,h2,?_⟩
  ·unfold Builtin.delete_;simp only[sw,fR,dU,gH,Sem.run_bind,underlying,run_program,Result.andThen_ok,hu,Sem.run_pure,hg,qJ N8 hk,rN N8 hf];cases f with
   | none=>simp only[W6]at h1 ⊢;simp only[Sem.run_bind,h1];rfl
   | some iv=>simp only[W6]at h1 ⊢;simp only[Sem.run_bind,h1];rfl
  ·rw[h3,<- h]
 ·cases h
theorem Ku{T kt et R:TypeId}{ats:Array TypeId}{x:Value}{H':Hp}(sw:ats[0]?=some T)(hu:P.underlying T=some (.map kt et))(h:rD x w.heap=some H'):∃ w',(Builtin.clear_ ats R #[x]).run P w=.ok (.tuple #[]) w'/\Sm w w'/\w'.heap=H':=by
 unfold rD at h;split at h
 ·injection h with h;subst h;exact⟨w,by simp[Builtin.clear_,sw,underlying,hu],Sm.refl w,rfl⟩
 ·rename_i r;simp only[jf]at h;obtain⟨⟨es,c⟩,hm,h⟩:=h;obtain⟨w',h1,h2,h3⟩:=Y8 (P:=P) (yj hm) (o:=.map #[] c);refine⟨w',?_,h2,by rw[h3,<- h]⟩;simp[Builtin.clear_,sw,underlying,hu,qh (P:=P) (yj hm),h1]
 ·cases h
theorem Kr{T kt et R:TypeId}{ats:Array TypeId}{x v:Value}(sw:ats[0]?=some T)(hu:P.underlying T=some (.map kt et))(h:YI x w.heap=some v):(Builtin.len_ ats R #[x]).run P w=.ok v w:=by
 unfold YI AH at h;split at h
 ·simp only[iR,iH]at h;subst h;simp[Builtin.len_,sw,underlying,hu,goInt]
 ·rename_i r;cases hm:wq w.heap r with
  | none=>rw[hm]at h;simp at h
  | some ec=>
   obtain⟨es,c⟩:=ec;rw[hm]at h;simp only[iR,iH]at h;subst h;simp[Builtin.len_,sw,underlying,hu,qh (P:=P) (yj hm),goInt]
 ·simp at h
theorem Ry{H H':Hp}(hx:Ext H H'){r:Nat}{y:Array MapEntry × Nat}(h:wq H r=some y):wq H' r=some y:=by
 obtain⟨es,c⟩:=y;have:=hx.at (yj h);simp[wq,this]
theorem E5{H H':Hp}(hx:Ext H H'){x:Value}{es:Array MapEntry}(h:AH x H=some es):AH x H'=some es:=by
 unfold AH at h ⊢;split at h
 ·exact h
 ·simp only[jf]at h ⊢;obtain⟨y,h1,h2⟩:=h;exact⟨y,Ry hx h1,h2⟩
 ·cases h
theorem Ib{H H':Hp}(hx:Ext H H'){mi:Option (TypeId × TypeDesc × TypeId)}{ok:Bool}{x k v:Value}(h:yf P mi ok x k H=some v):yf P mi ok x k H'=some v:=by
 unfold yf at h ⊢;split at h
 ·simp only[j6]at h;obtain⟨es,AB,r,hr,h⟩:=h;simp only[E5 hx AB,jG,hr];exact h
 ·cases h
theorem HY{H H':Hp}(hx:Ext H H'){x v:Value}(h:YI x H=some v):YI x H'=some v:=by
 unfold YI at h ⊢;simp only[jf]at h ⊢;obtain⟨y,h1,h2⟩:=h;exact⟨y,E5 hx h1,h2⟩
def GG(es n:Nat)(x:Value)(H:Hp):Option (Array Value):=
 match x with
 | .slice (some a) _ _=>np H a (n*es)
 | .slice none _ _=>some #[]
 | .string s=>some ((s.extract 0 n).data.map fun b=>.int .u8 b.toNat)
 | _=>none
def ab8(x:Value):Option Nat:=match x with | .slice _ n _=>some n | .string s=>some s.size | _=>none
def Fe(e:Option ZX)(d s:Value)(H:Hp):Option (Value × Hp):=
 match e,d with
 | some e,.slice base OU _=>(ab8 s).bind fun sl=>(GG e.size (min sl OU) s H).bind fun cs=>match base with
  | some a=>(AO H a cs).map fun H'=>(.int .i64 (min sl OU:Nat),H')
  | none=>some (.int .i64 (min sl OU:Nat),H)
 | _,_=>none
theorem OX{es n:Nat}{x:Value}{cs:Array Value}(h:GG es n x w.heap=some cs):(Builtin.firstCells es n x).run P w=.ok cs w:=by
 unfold GG at h;split at h
 ·simp[Builtin.firstCells,YV h]
 ·injection h with h;subst h;simp[Builtin.firstCells]
 ·injection h with h;subst h;simp[Builtin.firstCells]
 ·cases h
theorem Tj{T R:TypeId}{ats:Array TypeId}{e:Option ZX}{d s v:Value}{H':Hp}(sw:ats[0]?=some T)(he:zQ P T=e)(h:Fe e d s w.heap=some (v,H')):∃ w',(Builtin.copy_ ats R #[d,s]).run P w=.ok v w'/\Sm w w'/\w'.heap=H':=by
 unfold Fe at h;split at h
 ·rename_i e' base OU cap;obtain⟨hu,i,z,hi,lH,_,_,_⟩:=YB he;simp only[j6]at h;obtain⟨sl,uy,cs,Gk,h⟩:=h;have hl:(Builtin.lenOf s).run P w=.ok sl w:=by
   unfold ab8 at uy;split at uy
   ·injection uy with uy;subst uy;simp[Builtin.lenOf]
   ·injection uy with uy;subst uy;simp[Builtin.lenOf]
   ·cases uy
  have hc:=OX (P:=P) Gk;cases base with
  | none=>
   simp only[iH,DJ]at h;obtain⟨rfl,rfl⟩:=h;refine⟨w,?_,Sm.refl w,rfl⟩;have Ot:(Builtin.firstCells e'.size (Nat.min sl OU) s).run P w=.ok cs w:=hc;simp[Builtin.copy_,sw,underlying,hu,hl,sizeOf,typeInfo,hi,lH,Ot,goInt]
  | some a=>
   simp only[jf,DJ]at h;obtain⟨H1,hp,rfl,rfl⟩:=h;obtain⟨w',h1,h2,h3⟩:=Bc (P:=P) hp;refine⟨w',?_,h2,h3⟩;have Ot:(Builtin.firstCells e'.size (Nat.min sl OU) s).run P w=.ok cs w:=hc;simp[Builtin.copy_,sw,underlying,hu,hl,sizeOf,typeInfo,hi,lH,Ot,h1,goInt]
 ·cases h
def adO(e:Option ZX)(x:Value)(H:Hp):Option Hp:=
 match e,x with
 | some e,.slice (some a) (n+1) _=>AO H a (Builtin.zeroCells e.zero (n+1))
 | some _,.slice none _ _=>some H
 | _,_=>none
theorem Xg{T R:TypeId}{ats:Array TypeId}{e:Option ZX}{x:Value}{H':Hp}(sw:ats[0]?=some T)(he:zQ P T=e)(h:adO e x w.heap=some H'):∃ w',(Builtin.clear_ ats R #[x]).run P w=.ok (.tuple #[]) w'/\Sm w w'/\w'.heap=H':=by
 unfold adO at h;split at h
 ·rename_i e' a n cap;obtain⟨hu,i,z,hi,lH,AE,hz,Wk⟩:=YB he;obtain⟨w',h1,h2,h3⟩:=Bc (P:=P) h;refine⟨w',?_,h2,h3⟩;simp[Builtin.clear_,sw,underlying,hu,zeroValue,typeInfo,hi,hz,Wk,h1]
 ·rename_i e' l c;obtain⟨hu,_⟩:=YB he;injection h with h;subst h;exact⟨w,by simp[Builtin.clear_,sw,underlying,hu],Sm.refl w,rfl⟩
 ·cases h
def oQ(e:Option ZX)(l c:Value)(H:Hp):Option (Value × Hp):=
 match e,l,c with
 | some e,.int _ l,.int _ c=>if 0<=l/\l<=c/\c<=2 ^ 48/\e.bytes*c<=2 ^ 47/\(c=0\/e.size≠0) then
  some (.slice (some ⟨H.size,0,none⟩) l.toNat c.toNat,H.push (.cells ((Array.range (c.toNat*e.size)).map (e.zero[· % e.zero.size]!)) e.type)) else none
 | _,_,_=>none
theorem Rz{T:TypeId}{e:Option ZX}{l c v:Value}{H':Hp}(he:zQ P T=e)(h:oQ e l c w.heap=some (v,H')):∃ w',(Instr.makeSlice T l c).run P w=.ok v w'/\Sm w w'/\w'.heap=H':=by
 unfold oQ at h;split at h
 ·rename_i e' k l k' c;obtain⟨hu,i,z,hi,lH,AE,hz,Wk⟩:=YB he;split at h
  ·rename_i hc;obtain⟨h0,h1,h2,h3,h4⟩:=hc;simp only[iH,DJ]at h;obtain⟨rfl,rfl⟩:=h;have wl:IntKind.i64.wrap l=l:=by unfold IntKind.wrap;simp[IntKind.bits,IntKind.signed];omega
   have wc:IntKind.i64.wrap c=c:=by unfold IntKind.wrap;simp[IntKind.bits,IntKind.signed];omega
   have hb:¬ (c<0):=by omega
   have qO:¬ ((2:Int) ^ 48<(i.bytes:Int)*c):=by rw[AE];omega
   have Oi:¬ l<0:=by omega
   have hl2:¬ c<l:=by omega
   refine⟨{ w with heap:=w.heap.push (.cells ((Array.range (c.toNat*e'.size)).map (e'.zero[· % e'.zero.size]!)) e'.type) },?_,⟨rfl,rfl,rfl⟩,rfl⟩;unfold Instr.makeSlice;simp only[Sem.run_bind,underlying,run_program,Result.andThen_ok,hu,Sem.run_pure,asInt,asIntOf,typeInfo,hi,wl,wc,sizeOf,lH];simp only[hb,qO,Oi,hl2,decide_false,Bool.or_self,gt_iff_lt,jl,jD];by_cases hn:c.toNat*e'.size=0
   ·rcases h4 with h4 | h4
    ·subst h4;simp[askRoom,newRow,hi,show Array.range 0=#[] from rfl]
    ·have h5:c.toNat=0:=by rcases Nat.mul_eq_zero.1 hn with h5 | h5<;>first | exact h5 | exact absurd h5 h4
     simp[askRoom,newRow,h5,hi,show Array.range 0=#[] from rfl]
   ·unfold askRoom;have hn':¬ c.toNat*i.size=0:=by rw[lH];exact hn
    split<;>(simp[newRow,zeroValue,typeInfo,hi,hz,Wk,lH];intro h0;exact absurd h0 hn)
  ·cases h
 ·cases h
end
def tA(P:Program)(s d:TypeId):Bool:=
 match P.underlying s,P.underlying d with
 | some (.slice e),some .string=>(match P.underlying e with | some (.int .u8)=>true | _=>false)
 | _,_=>false
def u8s:List Value->Option (List Int)
 | []=>some []
 | .int .u8 n :: l=>(u8s l).map (n :: ·)
 | _ :: _=>none
theorem Qf:∀ {l:List Value} {ns:List Int},u8s l=some ns->l=ns.map (Value.int .u8)
 | [],ns,h=>by simp only[u8s,iH]at h;subst h;rfl
 | v :: l,ns,h=>by
  unfold u8s at h;split at h
  ·rename_i heq;cases heq
  ·rename_i n l' heq;injection heq with h1 h2;subst h1 h2;simp only[jf]at h;obtain⟨ns',h1,rfl⟩:=h;rw[Qf h1];rfl
  ·cases h
def pG(x:Value)(H:Hp):Option Value:=
 match x with
 | .slice (some a) len _=>(np H a len).bind fun cs=>(u8s cs.toList).map fun ns=>.string (strOfNums ns)
 | .slice none _ _=>some (.string ByteArray.empty)
 | _=>none
theorem NI{P:Program}{w:World}{S D:TypeId}{x v:Value}(hb:tA P S D=true)(h:pG x w.heap=some v):(convert S D x).run P w=.ok v w:=by
 unfold tA at hb;split at hb
 ·rename_i e hs hd;split at hb
  ·rename_i he;unfold pG at h;split at h
   ·rename_i a len cap;simp only[j6,jf]at h;obtain⟨cs,h1,ns,h2,rfl⟩:=h;have hl:=YV (P:=P) h1;have Gk:cs=(ns.map (Value.int .u8)).toArray:=by rw[<- Qf h2]
    rw[Gk]at hl;rw[run_convert_bytes_string w S D e _ len cap hs he hd,run_bytesToString w _ len cap ns hl,foldl_push_bytes];simp[strOfNums,ByteArray.empty,ByteArray.emptyWithCapacity];rfl
   ·injection h with h;subst h;exact run_convert_bytes_nil w S e hs he _ _ D hd
   ·cases h
  ·cases hb
 ·cases hb
def Hk(P:Program)(s d:TypeId):Bool:=
 match P.underlying s,P.underlying d with
 | some .string,some (.slice e)=>(match P.underlying e with | some (.int .u8)=>true | _=>false)
 | some (.slice _),some (.slice e)=>Nat.beq s d && (match P.underlying e with | some (.int .u8)=>true | _=>false)
 | _,_=>false
def LI(P:Program)(s d:TypeId)(x:Value)(H:Hp)(K:Value->Hp->Prop):Prop:=
 match P.underlying s,P.underlying d,x with
 | some .string,some (.slice e),.string s=>∀ cap fz,s.size<=cap->K (.slice (some ⟨H.size,0,none⟩) s.size cap) (H.push (.cells (bytesRow s cap) e fz))
 | some (.slice _),some (.slice _),.slice (some a) len cap=>(match H[a.block]? with
  | some (.cells c T _)=>∀ fz,K (.slice (some a) len cap) (H.setIfInBounds a.block (.cells c T fz))
  | _=>False)
 | _,_,_=>False
theorem Km{H:Hp}{b:Nat}{o:Obj}(h:H[b]?=some o)(f:Obj->Obj):H.modify b f=H.setIfInBounds b (f o):=by
 apply Array.ext
 ·simp
 ·intro i h1 h2;have hi:i<H.size:=by simpa using h1
  rw[Array.getElem_modify,Array.getElem_setIfInBounds (by simpa using h2)];by_cases hb:b=i
  ·subst hb;rw[ka hi]at h;injection h with h;simp[h]
  ·simp[hb]
theorem V0{P:Program}{w:World}{S e:TypeId}{a:Addr}{len cap:Nat}{c:Array Value}{T:TypeId}{fz:Nat × Nat}(hs:P.underlying S=some (.slice e))(he:P.underlying e=some (.int .u8))(ho:w.heap[a.block]?=some (.cells c T fz)) :
   ∃ fz',(convert S S (.slice (some a) len cap)).run P w=.ok (.slice (some a) len cap) { w with heap:=w.heap.setIfInBounds a.block (.cells c T fz') }:=by
 have hsh:w.shape? a.block=some (T,c.size):=by
   unfold World.shape?
   rw[ho]
 obtain⟨lo,hi⟩:=fz
 refine⟨if lo == hi then(c.size,c.size+1) else(min lo c.size,max hi (c.size+1)),?_⟩
 simp[convert,underlying,hs,he,markStringish,hsh]
 show World.freeze w ⟨a.block,c.size,none⟩ 1=_
 unfold World.freeze
 rw[aH (by decide),Km ho]
 simp
theorem PE{P:Program}{w:World}{S D:TypeId}{x:Value}{K:Value->Hp->Prop}(hb:Hk P S D=true)(h:LI P S D x w.heap K):∃ v w',(convert S D x).run P w=.ok v w'/\Sm w w'/\K v w'.heap:=by
 unfold Hk at hb;unfold LI at h;split at h
 ·rename_i s hs hd;rw[hs,hd]at hb;simp only at hb;split at hb
  ·rename_i he;exact⟨_,_,run_bytes_of_string w S D _ _ hs hd he,⟨rfl,rfl,rfl⟩,h _ _ (grownCap_ge w _ 0 _)⟩
  ·cases hb
 ·rename_i a len cap hs hd;rw[hs,hd]at hb;simp only[jd]at hb;obtain⟨hsd,hb⟩:=hb;have hsd:=Nat.eq_of_beq_eq_true hsd;subst hsd;split at hb
  ·rename_i he;split at h
   ·rename_i c' T fz ho;obtain⟨fz',hm⟩:=V0 (len:=len) (cap:=cap) hd he ho;exact⟨_,_,hm,⟨rfl,rfl,rfl⟩,h fz'⟩
   ·exact h.elim
  ·cases hb
 ·exact h.elim
theorem HD{H H':Hp}{a:Addr}{n:Nat}{cs:Array Value}(hx:Ext H H')(h:np H a n=some cs):np H' a n=some cs:=by
 unfold np at h ⊢;split at h
 ·rename_i c _ _ hc;rw[hx.at hc];exact h
 ·cases h
theorem JX{H H':Hp}{x v:Value}(hx:Ext H H')(h:pG x H=some v):pG x H'=some v:=by
 unfold pG at h ⊢;split at h
 ·simp only[j6]at h;obtain⟨cs,h1,h2⟩:=h;rw[HD hx h1];exact h2
 ·exact h
 ·cases h
def YJ(td:Option TypeDesc):Bool:=match td with | some (.map _ _)=>true | _=>false
def Y7(P:Program)(q:Bool)(b:Builtin)(ts:List TypeId)(xs:List Value)(H:Hp)(K:Value->Hp->Prop):Prop:=
 match b,ts,xs with
 | .len,[T],[x]=>(match YJ (P.underlying T) with
  | true=>Pu (YI x H) fun v=>K v H
  | false=>Pu (j9 P T x) fun v=>K v H)
 | .min,_,[x,y]=>Pu (VU x y) fun v=>K v H
 | .max,_,[x,y]=>Pu (xB x y) fun v=>K v H
 | .append,[T,T2],[s,x]=>lC q H fun H=>match P.underlying T2 with
  | some (.slice _)=>mD (zQ P T) s x H K
  | _=>False
 | .delete,[T,_],[m,k]=>lC q H fun H=>Pu (rC (DT P T) m k H) fun H'=>K (.tuple #[]) H'
 | .clear,[T],[m]=>lC q H fun H=>(match YJ (P.underlying T) with
  | true=>Pu (rD m H) fun H'=>K (.tuple #[]) H'
  | false=>Pu (adO (zQ P T) m H) fun H'=>K (.tuple #[]) H')
 | .copy,[T,_],[d,s]=>lC q H fun H=>Pu (Fe (zQ P T) d s H) fun y=>K y.1 y.2
 | _,_,_=>False
def partsOf(ρ:Operand->Value)(parts:Array (Nat × Operand)):List (Nat × Value):=parts.toList.map fun(i,x)=>(i,ρ x)
def uv(ρ:Operand->Value)(xs:Array Operand):Array Value:=(xs.toList.map ρ).toArray
def pE(P:Program)(qf:FuncId->Bool)(dr q:Bool)(o:Oper)(ρ:Operand->Value)(H:Hp)(K:Value->Hp->Prop):Prop:=
 match o.op with
 | .move x | .assign x=>K (ρ x) H
 | .pick c a b=>hU (ρ c) (K (ρ a) H) (K (ρ b) H)
 | .binOp op T x y _=>(match EX (P.underlying T) with
  | true=>Pu (ya P T (YK x || YK y) op (ρ x) (ρ y) H) fun v=>K v H
  | false=>Pu (z8 (P.underlying T) op (ρ x) (ρ y)) fun v=>K v H)
 | .unOp op _ x=>Pu (unE op (ρ x)) fun v=>K v H
 | .convert s d x=>(match Hk P s d with
  | true=>lC q H fun H=>LI P s d (ρ x) H K
  | false=>(match tA P s d with
   | true=>Pu (pG (ρ x) H) fun v=>K v H
   | false=>Pu (Ze (P.underlying s) (P.underlying d) (ρ x)) fun v=>K v H))
 | .fieldAddr S x f=>Pu (Fo (KX P S f) (ρ x)) fun v=>K v H
 | .field S x f=>Pu (Ys P S (ρ x) f) fun v=>K v H
 | .indexAddr T x i=>Pu (zG (Wj P T) (ρ x) (ρ i)) fun v=>K v H
 | .index T x i=>Pu (xK P T (ρ x) (ρ i)) fun v=>K v H
 | .sliceToArrayPointer T x=>Pu (GL (adV P T) (ρ x)) fun v=>K v H
 | .extract t i=>Pu (zq (ρ t) i) fun v=>K v H
 | .nilCheck x=>Pu (zl (ρ x)) fun v=>K v H
 | .makeFunc fn first cap=>K (.func fn (uv ρ first) (uv ρ cap)) H
 | .build T parts=>Pu (zo P T (partsOf ρ parts)) fun v=>K v H
 | .slice T x lo hi mx=>Pu (yF P T (ρ x) (lo.map ρ) (hi.map ρ) (mx.map ρ)) fun v=>K v H
 | .load T a=>Pu (zX (r5 P T) (ρ a) H) fun v=>K v H
 | .store T a x=>lC q H fun H=>Pu (zY (abc P T) (ρ a) (ρ x) H) fun H'=>K undef H'
 | .box T x=>lC q H fun H=>K (.pointer (some ⟨H.size,0,none⟩)) (H.push (.cells (ρ x).cells T))
 | .alloc T=>lC q H fun H=>Pu (ZZ P T) fun z=>K (.pointer (some ⟨H.size,0,none⟩)) (H.push (.cells z.cells T))
 | .buildSlice T n parts=>lC q H fun H=>Pu (zQ P T) fun e=>Pu (zT (some e) n (partsOf ρ parts)) fun cs=>K (.slice (some ⟨H.size,0,none⟩) n n) (H.push (.cells cs e.type))
 | .lookup T x k ok=>Pu (yf P (DT P T) ok (ρ x) (ρ k) H) fun v=>K v H
 | .mapUpdate T m k x=>lC q H fun H=>(match Rw P T with
  | some kt=>Pu (F6 P kt (ρ m) (ρ k) (ρ x) H) fun H'=>K undef H'
  | none=>Pu (yM (DT P T) (ρ m) (ρ k) (ρ x) H) fun H'=>K undef H')
 | .insert T m k x=>lC q H fun H=>Pu (yM (DT P T) (ρ m) (ρ k) (ρ x) H) fun H'=>K undef H'
 | .makeMap _ none=>lC q H fun H=>K (.map (some H.size)) (H.push (.map #[] 0))
 | .makeSlice T l c=>lC q H fun H=>Pu (oQ (zQ P T) (ρ l) (ρ c) H) fun y=>K y.1 y.2
 | .call c=>
  match c.callee with
  | .builtin b=>Y7 P q b c.argTypes.toList (c.args.toList.map ρ) H K
  | .value (.func f)=>
   if pL P f then(if dr && qf f then ∃ v,QC q P f (uv ρ c.args) H v/\K v H else lC q H fun H=>Fc P f (uv ρ c.args) H K) else False
  | .value x=>lC q H fun H=>om P (ρ x) (uv ρ c.args) H K
  | .invoke _ _=>False
 | _=>False
def rG(P:Program)(ts:Array TypeId):Bool:=match ts.toList with | [T]=>YJ (P.underlying T) | _=>false
def oe(P:Program)(qf:FuncId->Bool)(o:Oper):GO:=
 match o.op with
 | .move _ | .assign _ | .pick _ _ _ | .unOp _ _ _ | .fieldAddr _ _ _ | .field _ _ _ | .indexAddr _ _ _ | .index _ _ _ | .extract _ _ | .nilCheck _ | .makeFunc _ _ _ | .build _ _ | .slice _ _ _ _ _ | .sliceToArrayPointer _ _=>.pure
 | .binOp _ T _ _ _=>match EX (P.underlying T) with | true=>.quiet | false=>.pure
 | .convert s d _=>match Hk P s d with | true=>.SZ | false=>(match tA P s d with | true=>.quiet | false=>.pure)
 | .load _ _ | .lookup _ _ _ _=>.quiet
 | .call c=>
  match c.callee with
  | .builtin .len=>match rG P c.argTypes with | true=>.quiet | false=>.pure
  | .builtin .min | .builtin .max=>.pure
  | .value (.func f)=>if qf f then .quiet else .SZ
  | _=>.SZ
 | _=>.SZ
section
variable{P:Program}{qf:FuncId->Bool}{dr q:Bool}{o:Oper}{ρ:Operand->Value}{H:Hp}{K:Value->Hp->Prop}
theorem oA{s:Sem Value}{v:Value}(h:∀ w,s.run P w=.ok v w):Pv P (do pure (.value (<- s))) v:=fun w=>by
 rw[Sem.run_bind,h w];rfl
theorem pv(ρ:Operand->Value)(xs:Array Operand):xs.map ρ=(xs.toList.map ρ).toArray:=by
 apply Array.ext';simp
theorem tQ(ρ:Operand->Value)(xs:Array Operand):uv ρ xs=xs.map ρ:=(pv ρ xs).symm
theorem tg{f:FuncId}(h:pL P f=true)(args:Array Value)(w:World):(callFunc f args).run P w=.ok (.enter f args) w:=by
 unfold pL at h;cases hf:P.funcs[f]? with
 | none=>rw[hf]at h;cases h
 | some fn=>
  rw[hf]at h;simp only[jd,Bool.not_eq_true']at h;have h1:¬ fn.name = "runtime.NumGoroutine" := by simpa using h.1
  have h2:¬ fn.body=none:=by cases hb:fn.body<;>simp_all
  simp[callFunc,hf,h1,h2]
theorem Pk{w:World}{T:TypeId}{parts:Array (Nat × Value)}{v:Value}(h:zo P T parts.toList=some v):(Instr.build T parts).run P w=.ok v w:=by
 unfold zo at h;simp only[jf]at h;obtain⟨cs,h1,rfl⟩:=h;exact run_build w T parts cs h1
theorem Zs{w:World}{x:Value}{y m:Nat}{code:BoundsCode}{d:Nat}(h:Z2 (some x) d y=some m):(Instr.sliceBound x y code).run P w=.ok m w:=by
 cases x<;>simp only[Z2]at h<;>try (cases h;done)
 split at h
 ·rename_i hc;injection h with h;subst h;simp[Instr.sliceBound,asIntOf,hc]
 ·cases h
theorem BT{w:World}{T:TypeId}{x v:Value}{lo hi mx:Option Value}(h:yF P T x lo hi mx=some v):(Instr.sliceAt T x lo hi mx).run P w=.ok v w:=by
 unfold yF at h;split at h
 ·rename_i e a n c hu;simp only[j6,jf]at h;obtain⟨m,hm,hh,DE,l,hl,i,DD,rfl⟩:=h;simp only[Wt]at DE;have hb:(Instr.sliceBounds true n c lo hi mx).run P w=.ok (l,hh,m) w:=by
   unfold Instr.sliceBounds;cases mx with
   | none=>
    simp only[Z2,iH]at hm;subst hm;cases hi with
    | none=>
     simp only[Z2,iH]at DE;subst DE;cases lo with
     | none=>simp only[Z2,iH]at hl;subst hl;simp
     | some lv=>simp[Zs hl]
    | some hv=>
     cases lo with
     | none=>simp only[Z2,iH]at hl;subst hl;simp[Zs DE]
     | some lv=>simp[Zs hl,Zs DE]
   | some mv=>
    cases hi with
    | none=>simp at DE
    | some hv=>
     cases lo with
     | none=>simp only[Z2,iH]at hl;subst hl;simp[Zs DE,Zs hm]
     | some lv=>simp[Zs hl,Zs DE,Zs hm]
  simp[Instr.sliceAt,Instr.slice,underlying,hu,hb,sizeOf,typeInfo,DD]
 ·rename_i n e a hu;simp only[j6,jf]at h;obtain⟨m,hm,hh,DE,l,hl,i,DD,rfl⟩:=h;simp only[Wt]at DE;have hb:(Instr.sliceBounds false n n lo hi mx).run P w=.ok (l,hh,m) w:=by
   unfold Instr.sliceBounds;cases mx with
   | none=>
    simp only[Z2,iH]at hm;subst hm;cases hi with
    | none=>
     simp only[Z2,iH]at DE;subst DE;cases lo with
     | none=>simp only[Z2,iH]at hl;subst hl;simp
     | some lv=>simp[Zs hl]
    | some hv=>
     cases lo with
     | none=>simp only[Z2,iH]at hl;subst hl;simp[Zs DE]
     | some lv=>simp[Zs hl,Zs DE]
   | some mv=>
    cases hi with
    | none=>simp at DE
    | some hv=>
     cases lo with
     | none=>simp only[Z2,iH]at hl;subst hl;simp[Zs DE,Zs hm]
     | some lv=>simp[Zs hl,Zs DE,Zs hm]
  simp[Instr.sliceAt,underlying,hu,hb,sizeOf,typeInfo,DD,Instr.sureAddr]
 ·rename_i s hu;split at h
  ·simp only[j6,jf]at h;obtain⟨hh,DE,l,hl,rfl⟩:=h;have hb:(Instr.sliceBounds false s.size s.size lo hi none).run P w=.ok (l,hh,s.size) w:=by
    unfold Instr.sliceBounds;cases hi with
    | none=>
     simp only[Z2,iH]at DE;subst DE;cases lo with
     | none=>simp only[Z2,iH]at hl;subst hl;simp
     | some lv=>simp[Zs hl]
    | some hv=>
     cases lo with
     | none=>simp only[Z2,iH]at hl;subst hl;simp[Zs DE]
     | some lv=>simp[Zs hl,Zs DE]
   simp[Instr.sliceAt,Instr.slice,underlying,hu,hb]
  ·cases h
 ·cases h
end
section
variable{P:Program}{qf:FuncId->Bool}{dr q:Bool}{o:Oper}{ρ:Operand->Value}{H:Hp}{K:Value->Hp->Prop}
theorem XR(hc:oe P qf o=.pure)(h:pE P qf dr q o ρ H K):∃ v,Pv P (execOp ρ o) v/\K v H:=by
 obtain⟨dst,op,type,pos,after,guard⟩:=o
 unfold oe at hc
 unfold pE at h
 cases op<;>simp only at hc h<;>(try (cases hc;done))
 case move x=>exact⟨_,fun w=>rfl,h⟩
 case assign x=>exact⟨_,fun w=>rfl,h⟩
 case pick c a b=>
   unfold hU at h
   split at h
   · rename_i hcv;exact⟨_,fun w=>by simp[execOp,hcv,asBool],h⟩
   · rename_i hcv;exact⟨_,fun w=>by simp[execOp,hcv,asBool],h⟩
   · exact h.elim
 case build T parts=>
   obtain⟨v,hv,hk⟩:=Pu.get h
   refine⟨v,oA fun w=>?_,hk⟩
   have:(parts.map fun(i,x)=>(i,ρ x)).toList=partsOf ρ parts:=by simp[partsOf]
   exact Pk (by rw[this];exact hv)
 case nilCheck x=>
   obtain⟨v,hv,hk⟩:=Pu.get h
   refine⟨v,fun w=>?_,hk⟩
   unfold zl at hv
   split at hv<;>first | (cases hv;done) | (rename_i hx;injection hv with hv;subst hv;simp[execOp,hx];done)
 case binOp op T x y T2=>
   cases hh:EX (P.underlying T) with
   | true=>rw[hh]at hc;cases hc
   | false=>
     rw[hh]at h
     obtain⟨v,hv,hk⟩:=Pu.get h
     exact⟨v,oA fun w=>Xs hv,hk⟩
 case unOp op T x=>
   obtain⟨v,hv,hk⟩:=Pu.get h
   exact⟨v,oA fun w=>aa7 hv,hk⟩
 case convert s d x=>
   cases kH:Hk P s d with
   | true=>rw[kH]at hc;cases hc
   | false=>
   rw[kH]at hc h
   simp only at hc h
   cases hb:tA P s d with
   | true=>rw[hb]at hc;cases hc
   | false=>
     rw[hb]at h
     obtain⟨v,hv,hk⟩:=Pu.get h
     exact⟨v,oA fun w=>Tl hv,hk⟩
 case makeFunc fn first cap=>
   refine⟨_,oA fun w=>?_,h⟩
   rw[tQ,tQ];rfl
 case slice T x lo hi mx=>
   obtain⟨v,hv,hk⟩:=Pu.get h
   exact⟨v,oA fun w=>BT hv,hk⟩
 case fieldAddr S x f=>
   obtain⟨v,hv,hk⟩:=Pu.get h
   exact⟨v,oA fun w=>KY hv,hk⟩
 case field S x f=>
   obtain⟨v,hv,hk⟩:=Pu.get h
   exact⟨v,oA fun w=>SQ hv,hk⟩
 case sliceToArrayPointer T x=>
   obtain⟨v,hv,hk⟩:=Pu.get h
   exact⟨v,oA fun w=>Lz hv,hk⟩
 case indexAddr T x i=>
   obtain⟨v,hv,hk⟩:=Pu.get h
   exact⟨v,oA fun w=>KD hv,hk⟩
 case index T x i=>
   obtain⟨v,hv,hk⟩:=Pu.get h
   exact⟨v,oA fun w=>RU hv,hk⟩
 case extract t i=>
   obtain⟨v,hv,hk⟩:=Pu.get h
   exact⟨v,oA fun w=>KZ hv,hk⟩
 case call c=>
   obtain⟨callee,args,ats⟩:=c
   cases callee<;>simp only at hc h
   case builtin b=>
     have od:args.map ρ=(args.toList.map ρ).toArray:=pv ρ args
     have hts:ats=ats.toList.toArray:=by simp
     have vo:∀ w v,(∀ w,(match b with | .len=>Builtin.len_ ats type (args.map ρ) | .min=>Builtin.min_ ats type (args.map ρ) | .max=>Builtin.max_ ats type (args.map ρ) | _=>stuck "").run P w=.ok v w) ->
         (b=.len\/b=.min\/b=.max)->(execOp ρ ⟨dst,.call ⟨.builtin b,args,ats⟩,type,pos,after,guard⟩).run P w=.ok (.value v) w:=by
       intro w v hv hb
       rcases hb with rfl | rfl | rfl<;>simp[execOp,resolve,invoke,builtin,hv w]
     unfold Y7 at h
     split at h
     · rename_i T x h1 h2
       have hm:rG P ats=YJ (P.underlying T):=by unfold rG;rw[h1]
       cases hh:YJ (P.underlying T) with
       | true=>simp only[hm,hh]at hc;cases hc
       | false=>
         rw[hh]at h
         obtain⟨v,hv,hk⟩:=Pu.get h
         exact⟨v,fun w=>vo w v (fun w=>by rw[od,h2,hts,h1];exact ab7 hv) (.inl rfl),hk⟩
     · obtain⟨v,hv,hk⟩:=Pu.get h
       rename_i x y h2
       exact⟨v,fun w=>vo w v (fun w=>by rw[od,h2];exact abW hv) (.inr (.inl rfl)),hk⟩
     · obtain⟨v,hv,hk⟩:=Pu.get h
       rename_i x y h2
       exact⟨v,fun w=>vo w v (fun w=>by rw[od,h2];exact ab0 hv) (.inr (.inr rfl)),hk⟩
     · cases hc
     · cases hc
     · cases hc
     · cases hc
     · exact h.elim
   case value x=>
     cases x<;>simp only at hc<;>(try (cases hc;done))
     split at hc<;>cases hc
theorem Jp{f:FuncId}{args:Array Operand}{ats:Array TypeId}(DX:o.op=.call ⟨.value (.func f),args,ats⟩)(hρ:ρ (.func f)=.func (.func f) #[] #[])(xM:pL P f=true)(w:World) :
   (execOp ρ o).run P w=.ok (.enter f (args.map ρ)) w:=by
 unfold execOp
 rw[DX]
 simp only[resolve,hρ,Deferred.ofValue,Sem.run_bind,Sem.run_pure,Result.andThen_ok,invoke]
 simpa using tg xM (args.map ρ) w
def Good(ρ:Operand->Value):Prop:=∀ f,ρ (.func f)=.func (.func f) #[] #[]
theorem AA{td:Option TypeDesc}(h:YJ td=true):∃ k e,td=some (.map k e):=by
 unfold YJ at h;split at h
 ·exact⟨_,_,rfl⟩
 ·cases h
theorem wa{s:Sem Next}{v:Value}(h:∀ w,Ex q H w.heap->s.run P w=.ok (.value v) w):Qw q P s H v:=fun H' hx w hw=>by
 rw[h w (by rw[hw];exact hx)];exact⟨Sm.refl w,rfl,by rw[hw];exact Ex.refl q H'⟩
theorem xw(hg:Good ρ)(hc:oe P qf o=.quiet)(h:pE P qf true q o ρ H K):∃ v,Qw q P (execOp ρ o) H v/\K v H:=by
 obtain⟨dst,op,type,pos,after,guard⟩:=o;unfold oe at hc;unfold pE at h;cases op<;>simp only at hc h<;>(try (cases hc;done))
 case convert s d x=>
  cases kH:Hk P s d with
  | true=>rw[kH]at hc;cases hc
  | false=>
  rw[kH]at hc h;simp only at hc h;cases hb:tA P s d with
  | false=>rw[hb]at hc;cases hc
  | true=>
   rw[hb]at h;obtain⟨v,hv,hk⟩:=Pu.get h;refine⟨v,wa fun w hx=>?_,hk⟩;have xL:pG (ρ x) w.heap=some v:=by
    cases q
    ·rw[show w.heap=H from hx];exact hv
    ·exact JX hx hv
   show(do pure (.value (<- convert s d (ρ x))):Sem Next).run P w=_;rw[Sem.run_bind,NI hb xL];rfl
 case load T a=>
  obtain⟨v,hv,hk⟩:=Pu.get h;refine⟨v,fun H' hx w hw=>?_,hk⟩;have xL:zX (r5 P T) (ρ a) H'=some v:=by
   cases q
   ·cases hx;exact hv
   ·exact EE hx hv
  have hp:∃ b,ρ a=.pointer (some b):=by
   unfold zX at xL;split at xL
   ·rename_i b _ hb;exact⟨b,hb⟩
   ·rename_i b _ hb;exact⟨b,hb⟩
   ·cases xL
  obtain⟨b,hb⟩:=hp;rw[hb,<- hw]at xL;have:(execOp ρ ⟨dst,.load T a,type,pos,after,guard⟩).run P w=.ok (.value v) w:=by
   simp[execOp,Instr.loadAt,hb,Instr.sureAddr,Cq xL]
  rw[this];exact⟨Sm.refl w,rfl,by rw[hw];exact Ex.refl q H'⟩
 case binOp op T x y T2=>
  cases hh:EX (P.underlying T) with
  | false=>rw[hh]at hc;cases hc
  | true=>
   rw[hh]at h;obtain⟨v,hv,hk⟩:=Pu.get h;refine⟨v,wa fun w hx=>?_,hk⟩;have xL:ya P T (YK x || YK y) op (ρ x) (ρ y) w.heap=some v:=by
    cases q
    ·rw[show w.heap=H from hx];exact hv
    ·exact SW hx hv
   have h2:=WR (P:=P) (xo:=x) (yo:=y) (fun h=>h) xL;show(do pure (.value (<- (do eqGuard op T x y (ρ x) (ρ y);binOp op T (ρ x) (ρ y):Sem Value))):Sem Next).run P w=_;rw[Sem.run_bind,h2];rfl
 case lookup T x k ok=>
  obtain⟨v,hv,hk⟩:=Pu.get h;refine⟨v,wa fun w hx=>?_,hk⟩;have xL:yf P (DT P T) ok (ρ x) (ρ k) w.heap=some v:=by
   cases q
   ·rw[show w.heap=H from hx];exact hv
   ·exact Ib hx hv
  show(do pure (.value (<- Instr.lookup T (ρ x) (ρ k) ok)):Sem Next).run P w=_;rw[Sem.run_bind,Kw xL];rfl
 case call c=>
  obtain⟨callee,args,ats⟩:=c;cases callee<;>simp only at hc h<;>(try (cases hc;done))
  case builtin b=>
   unfold Y7 at h;split at h<;>try (cases hc;done)
   ·rename_i T x h1 h2;have hm:rG P ats=YJ (P.underlying T):=by unfold rG;rw[h1]
    cases hh:YJ (P.underlying T) with
    | false=>simp only[hm,hh]at hc;cases hc
    | true=>
     rw[hh]at h;obtain⟨v,hv,hk⟩:=Pu.get h;refine⟨v,wa fun w hx=>?_,hk⟩;have xL:YI x w.heap=some v:=by
      cases q
      ·rw[show w.heap=H from hx];exact hv
      ·exact HY hx hv
     obtain⟨kt,et,hu⟩:=AA hh;have sw:ats[0]?=some T:=by rw[<- nO (xs:=ats),h1];rfl
     have hr:=Kr (P:=P) (R:=type) sw hu xL;have od:args.map ρ=#[x]:=by rw[pv,h2]
     simp only[execOp,resolve,invoke,builtin,Sem.run_bind,Sem.run_pure,Result.andThen_ok,od,hr]
   ·exact h.elim
  case value x=>
   cases x<;>simp only at hc h<;>(try (cases hc;done));rename_i f;split at h
   ·rename_i xM;split at hc
    ·rename_i hqf;simp only[hqf,Bool.and_self,jO,tQ]at h;obtain⟨v,hv,hk⟩:=h;refine⟨v,fun H' hx w hw=>?_,hk⟩;rw[Jp (ats:=ats) rfl (hg f) xM w];exact⟨Sm.refl w,by rw[hw];exact hv H' hx⟩
    ·cases hc
   ·exact h.elim
theorem Tt{y:Value}{args:Array Value}{w:World}(h:om P y args w.heap K):Up P w K ((do let d <- Deferred.ofValue y args;invoke d.target d.args:Sem Next).run P w):=by
 unfold om at h;split at h
 ·rename_i f first cap
  simp only[Deferred.ofValue,Sem.run_bind,Sem.run_pure,Result.andThen_ok,invoke];rw[tg h.1];refine⟨Sm.refl w,?_⟩;have e:((first.toList++args.toList)++cap.toList).toArray=(first++args)++cap:=by simp
  rw[<- e];exact h.2
 ·rename_i l first cap
  simp only[Deferred.ofValue,Sem.run_bind,Sem.run_pure,Result.andThen_ok,invoke];have e:(first.toList++args.toList).toArray=first++args:=by simp
  rw[e]at h;unfold Yld at h;split at h
  ·rename_i r hr;have:(Instr.yield l (first++args)).run P w=.ok (.round l r.fn ((r.params.zip (first++args)).foldl (fun tmps (t,a)=>tmps.setIfInBounds t a) r.tmps) r.assign r.body) w:=by
    have h1:(Instr.getLoop l).run P w=.ok r w:=by
     simp[Instr.getLoop,getObj,Sem.run,hr,bind,Sem.bind]
    unfold Instr.yield;rw[Sem.run_bind,h1];simp only[Result.andThen_ok];rw[aH (by simpa using h.1)];rfl
   rw[this];exact⟨Sm.refl w,h.2⟩
  ·exact h.elim
 ·exact h.elim
theorem adF(hg:Good ρ)(hc:oe P qf o=.SZ\/dr=false)(h:pE P qf dr false o ρ H K):Eff P (execOp ρ o) H K:=by
 by_cases hp:oe P qf o=.pure
 ·obtain⟨v,hv,hk⟩:=XR hp h;intro w hw;rw[hv w];exact⟨Sm.refl w,by rw[hw];exact hk⟩
 ·obtain⟨dst,op,type,pos,after,guard⟩:=o;unfold oe at hp hc;unfold pE at h;cases op<;>simp only[lC]at hp hc h<;>(try (exact absurd rfl hp))<;>(try (exact absurd trivial hp))<;>(try (exact h.elim))
  case alloc T=>
   intro w hw;obtain⟨z,hz,hk⟩:=Pu.get h;unfold ZZ at hz;simp only[j6]at hz;obtain⟨i,hi,hz⟩:=hz;have:(execOp ρ ⟨dst,.alloc T,type,pos,after,guard⟩).run P w=.ok (.value (.pointer (some ⟨w.heap.size,0,none⟩))) { w with heap:=w.heap.push (.cells z.cells T) }:=by
    simp[execOp,Instr.alloc,zeroValue,typeInfo,hi,hz,newVar,newRow]
   rw[this];subst hw;exact⟨⟨rfl,rfl,rfl⟩,hk⟩
  case box T x=>
   intro w hw;have:(execOp ρ ⟨dst,.box T x,type,pos,after,guard⟩).run P w=.ok (.value (.pointer (some ⟨w.heap.size,0,none⟩))) { w with heap:=w.heap.push (.cells (ρ x).cells T) }:=by
    simp[execOp,Instr.box,newVar,newRow]
   rw[this];subst hw;exact⟨⟨rfl,rfl,rfl⟩,h⟩
  case buildSlice T n parts=>
   intro w hw;obtain⟨e,he,h⟩:=Pu.get h;obtain⟨cs,Gk,hk⟩:=Pu.get h;obtain⟨hu,i,z,hi,lH,AE,hz,Wk⟩:=YB he;simp only[zT]at Gk;split at Gk
   ·cases Gk
   ·rename_i nu;have acH:(parts.map fun(i,x)=>(i,ρ x)).toList=partsOf ρ parts:=by simp[partsOf]
    have:(execOp ρ ⟨dst,.buildSlice T n parts,type,pos,after,guard⟩).run P w=.ok (.value (.slice (some ⟨w.heap.size,0,none⟩) n n)) { w with heap:=w.heap.push (.cells cs e.type) }:=by
     have hb:(Instr.buildSlice T n (parts.map fun(i,x)=>(i,ρ x))).run P w=.ok (.slice (some ⟨w.heap.size,0,none⟩) n n) { w with heap:=w.heap.push (.cells cs e.type) }:=by
      unfold Instr.buildSlice;rw[acH];simp only[Sem.run_bind,underlying,run_program,Result.andThen_ok,hu,Sem.run_pure,sizeOf,typeInfo,hi,lH];have Oi:¬ n*e.size > 2 ^ 24:=fun hh=>nu (.inl hh);have h0:¬ n*e.size=0:=fun hh=>nu (.inr hh);simp only[Oi,jD,Sem.run_pure,h0,Sem.run_bind,zeroValue,typeInfo,run_program,Result.andThen_ok,hi,hz,Wk,Gk];simp[newRow]
     simp only[execOp,Sem.run_bind,hb,Result.andThen_ok,Sem.run_pure]
    rw[this];subst hw;exact⟨⟨rfl,rfl,rfl⟩,hk⟩
  case load T a=>
   have hq:=xw (qf:=qf) (q:=false) (o:=⟨dst,.load T a,type,pos,after,guard⟩) hg rfl h;obtain⟨v,hv,hk⟩:=hq;exact(hv H rfl).mono fun u oZ hu=>by obtain⟨rfl,rfl⟩:=hu;exact hk
  case lookup T x k ok=>
   have hq:=xw (qf:=qf) (q:=false) (o:=⟨dst,.lookup T x k ok,type,pos,after,guard⟩) hg rfl h;obtain⟨v,hv,hk⟩:=hq;exact(hv H rfl).mono fun u oZ hu=>by obtain⟨rfl,rfl⟩:=hu;exact hk
  case convert s d x=>
   cases kH:Hk P s d with
   | true=>
    rw[kH]at h;intro w hw;subst hw;obtain⟨v,w',h1,h2,h3⟩:=PE (P:=P) kH h;have:(execOp ρ ⟨dst,.convert s d x,type,pos,after,guard⟩).run P w=.ok (.value v) w':=by
     show(do pure (.value (<- convert s d (ρ x))):Sem Next).run P w=_;rw[Sem.run_bind,h1];rfl
    rw[this];exact⟨h2,h3⟩
   | false=>
   rw[kH]at hp h;simp only at hp h;have hh:tA P s d=true:=by
    cases hh:tA P s d with
    | true=>rfl
    | false=>rw[hh]at hp;exact absurd rfl hp
   have hq:=xw (P:=P) (H:=H) (K:=K) (qf:=qf) (q:=false) (o:=⟨dst,.convert s d x,type,pos,after,guard⟩) hg (by unfold oe;simp only[kH,hh]) (by unfold pE;simp only[kH];exact h);obtain⟨v,hv,hk⟩:=hq;exact(hv H rfl).mono fun u oZ hu=>by obtain⟨rfl,rfl⟩:=hu;exact hk
  case binOp op T x y T2=>
   have hh:EX (P.underlying T)=true:=by
    cases hh:EX (P.underlying T) with
    | true=>rfl
    | false=>rw[hh]at hp;exact absurd rfl hp
   have hq:=xw (qf:=qf) (q:=false) (o:=⟨dst,.binOp op T x y T2,type,pos,after,guard⟩) hg (by unfold oe;simp only[hh]) h;obtain⟨v,hv,hk⟩:=hq;exact(hv H rfl).mono fun u oZ hu=>by obtain⟨rfl,rfl⟩:=hu;exact hk
  case makeMap t r=>
   cases r with
   | some r=>exact h.elim
   | none=>
    intro w hw;have:(execOp ρ ⟨dst,.makeMap t none,type,pos,after,guard⟩).run P w=.ok (.value (.map (some w.heap.size))) { w with heap:=w.heap.push (.map #[] 0) }:=by
     simp[execOp,Instr.makeMap,newObj,Sem.run]
    rw[this];subst hw;exact⟨⟨rfl,rfl,rfl⟩,h⟩
  case makeSlice T l c=>
   intro w hw;obtain⟨⟨v,H'⟩,hs,hk⟩:=Pu.get h;subst hw;obtain⟨w',h1,h2,h3⟩:=Rz (P:=P) rfl hs;have:(execOp ρ ⟨dst,.makeSlice T l c,type,pos,after,guard⟩).run P w=.ok (.value v) w':=by
    simp only[execOp,Sem.run_bind,h1,Result.andThen_ok,Sem.run_pure]
   rw[this];exact⟨h2,by rw[h3];exact hk⟩
  case mapUpdate T m k x=>
   intro w hw;have fin:∀ {H':Hp},(∃ w',(Instr.mapUpdate T (ρ m) (ρ k) (ρ x)).run P w=.ok () w'/\Sm w w'/\w'.heap=H')->K undef H'->Up P w K ((execOp ρ ⟨dst,.mapUpdate T m k x,type,pos,after,guard⟩).run P w):=fun {H'} ⟨w',h1,h2,h3⟩ hk=>by
    have:(execOp ρ ⟨dst,.mapUpdate T m k x,type,pos,after,guard⟩).run P w=.ok .skip w':=by
     simp only[execOp,Sem.run_bind,h1,Result.andThen_ok,Sem.run_pure]
    rw[this];exact⟨h2,by rw[h3];exact hk⟩
   subst hw;cases X6:Rw P T with
   | some kt=>
    rw[X6]at h;obtain⟨H',hs,hk⟩:=Pu.get h;exact fin (Kq X6 hs) hk
   | none=>
    rw[X6]at h;obtain⟨H',hs,hk⟩:=Pu.get h;exact fin (Cm (P:=P) hs) hk
  case insert T m k x=>
   intro w hw;obtain⟨H',hs,hk⟩:=Pu.get h;subst hw;obtain⟨w',h1,h2,h3⟩:=Cm (P:=P) hs;have:(execOp ρ ⟨dst,.insert T m k x,type,pos,after,guard⟩).run P w=.ok .skip w':=by
    simp only[execOp,Sem.run_bind,h1,Result.andThen_ok,Sem.run_pure]
   rw[this];exact⟨h2,by rw[h3];exact hk⟩
  case store T a x=>
   intro w hw;obtain⟨H',hs,hk⟩:=Pu.get h;have hp:∃ b,ρ a=.pointer (some b):=by
    unfold zY at hs;split at hs
    ·rename_i b hb;exact⟨b,hb⟩
    ·cases hs
   obtain⟨b,hb⟩:=hp;rw[hb,<- hw]at hs;obtain⟨w',h1,h2,h3⟩:=Hl hs;have:(execOp ρ ⟨dst,.store T a x,type,pos,after,guard⟩).run P w=.ok .skip w':=by
    simp[execOp,Instr.storeAt,hb,Instr.sureAddr,h1]
   rw[this];exact⟨h2,by rw[h3];exact hk⟩
  case call c=>
   obtain⟨callee,args,ats⟩:=c;cases callee<;>simp only at hp hc h<;>(try (exact h.elim))
   case builtin b=>
    unfold Y7 at h;split at h
    ·rename_i T x h1 h2;have hm:rG P ats=YJ (P.underlying T):=by unfold rG;rw[h1]
     have hh:YJ (P.underlying T)=true:=by
      cases hh:YJ (P.underlying T) with
      | true=>rfl
      | false=>simp only[hm,hh]at hp;exact absurd trivial hp
     have hq:=xw (P:=P) (qf:=qf) (q:=false) (o:=⟨dst,.call ⟨.builtin .len,args,ats⟩,type,pos,after,guard⟩) hg (by unfold oe;simp only[hm,hh]) (by unfold pE Y7;simp only[h1,h2];exact h);obtain⟨v,hv,hk⟩:=hq;exact(hv H rfl).mono fun u oZ hu=>by obtain⟨rfl,rfl⟩:=hu;exact hk
    ·exact absurd rfl hp
    ·exact absurd rfl hp
    ·rename_i T T2 s x h1 h2;simp only[lC]at h;intro w hw;split at h
     ·rename_i e2 hu2;have h':=h;unfold mD at h';obtain⟨e,he,_⟩:=h';rw[he]at h;obtain⟨v,w',hr,mL,hk⟩:=Ps (R:=type) he ⟨e2,hu2⟩ h hw;have od:args.map ρ=#[s,x]:=by rw[pv,h2]
      have hts:ats=#[T,T2]:=by rw[<- nO (xs:=ats),h1]
      have:(execOp ρ ⟨dst,.call ⟨.builtin .append,args,ats⟩,type,pos,after,guard⟩).run P w=.ok (.value v) w':=by
       simp only[execOp,resolve,invoke,builtin,Sem.run_bind,Sem.run_pure,Result.andThen_ok,od,hts,hr]
      rw[this];exact⟨mL,hk⟩
     ·exact h.elim
    ·rename_i T T2 m k h1 h2;simp only[lC]at h;intro w hw;obtain⟨H',hs,hk⟩:=Pu.get h;subst hw;have od:args.map ρ=#[m,k]:=by rw[pv,h2]
     have sw:ats[0]?=some T:=by rw[<- nO (xs:=ats),h1];rfl
     obtain⟨w',h3,h4,h5⟩:=Kt (P:=P) (R:=type) sw hs;have:(execOp ρ ⟨dst,.call ⟨.builtin .delete,args,ats⟩,type,pos,after,guard⟩).run P w=.ok (.value (.tuple #[])) w':=by
      simp only[execOp,resolve,invoke,builtin,Sem.run_bind,Sem.run_pure,Result.andThen_ok,od,h3]
     rw[this];exact⟨h4,by rw[h5];exact hk⟩
    ·rename_i T m h1 h2;simp only[lC]at h;intro w hw;cases hh:YJ (P.underlying T) with
     | false=>
      rw[hh]at h;obtain⟨H',hs,hk⟩:=Pu.get h;subst hw;have od:args.map ρ=#[m]:=by rw[pv,h2]
      have sw:ats[0]?=some T:=by rw[<- nO (xs:=ats),h1];rfl
      obtain⟨w',h3,h4,h5⟩:=Xg (P:=P) (R:=type) sw rfl hs;have:(execOp ρ ⟨dst,.call ⟨.builtin .clear,args,ats⟩,type,pos,after,guard⟩).run P w=.ok (.value (.tuple #[])) w':=by
       simp only[execOp,resolve,invoke,builtin,Sem.run_bind,Sem.run_pure,Result.andThen_ok,od,h3]
      rw[this];exact⟨h4,by rw[h5];exact hk⟩
     | true=>
      rw[hh]at h;obtain⟨kt,et,hu⟩:=AA hh;obtain⟨H',hs,hk⟩:=Pu.get h;subst hw;have od:args.map ρ=#[m]:=by rw[pv,h2]
      have sw:ats[0]?=some T:=by rw[<- nO (xs:=ats),h1];rfl
      obtain⟨w',h3,h4,h5⟩:=Ku (P:=P) (R:=type) sw hu hs;have:(execOp ρ ⟨dst,.call ⟨.builtin .clear,args,ats⟩,type,pos,after,guard⟩).run P w=.ok (.value (.tuple #[])) w':=by
       simp only[execOp,resolve,invoke,builtin,Sem.run_bind,Sem.run_pure,Result.andThen_ok,od,h3]
      rw[this];exact⟨h4,by rw[h5];exact hk⟩
    ·rename_i T T2 d s h1 h2;simp only[lC]at h;intro w hw;obtain⟨⟨v,H'⟩,hs,hk⟩:=Pu.get h;subst hw;have od:args.map ρ=#[d,s]:=by rw[pv,h2]
     have sw:ats[0]?=some T:=by rw[<- nO (xs:=ats),h1];rfl
     obtain⟨w',h3,h4,h5⟩:=Tj (P:=P) (R:=type) sw rfl hs;have:(execOp ρ ⟨dst,.call ⟨.builtin .copy,args,ats⟩,type,pos,after,guard⟩).run P w=.ok (.value v) w':=by
      simp only[execOp,resolve,invoke,builtin,Sem.run_bind,Sem.run_pure,Result.andThen_ok,od,h3]
     rw[this];exact⟨h4,by rw[h5];exact hk⟩
    ·exact h.elim
   case value x=>
    by_cases hx:∃ f,x=.func f
    ·obtain⟨f,rfl⟩:=hx;simp only[lC]at h;split at h
     ·rename_i xM;intro w hw;rw[Jp (ats:=ats) rfl (hg f) xM w];refine⟨Sm.refl w,?_⟩;rw[hw];split at h
      ·rename_i hdq;simp only[jd]at hdq;rcases hc with hc | hc
       ·simp[hdq.2]at hc
       ·rw[hc]at hdq;cases hdq.1
      ·rw[<- tQ];exact h
     ·exact h.elim
    ·have h':om P (ρ x) (args.map ρ) H K:=by
      rw[<- tQ];cases x<;>first | exact h | exact absurd ⟨_,rfl⟩ hx
     intro w hw;subst hw;have:=Tt h';simpa only[execOp,resolve,Sem.run_bind]using this
theorem M3(hc:oe P qf o=.SZ)(h:pE P qf dr q o ρ H K){H':Hp}(hx:Ex q H H'):pE P qf dr false o ρ H' K:=by
 cases q
 ·cases hx;exact h
 ·obtain⟨dst,op,type,pos,after,guard⟩:=o;unfold oe at hc;unfold pE at h ⊢;cases op<;>simp only[lC]at hc h ⊢<;>(try (cases hc;done))<;>(try (exact h H' hx))<;>(try (exact h.elim))
  case makeMap t r=>
   cases r with
   | some r=>exact h.elim
   | none=>exact h H' hx
  case convert s d x=>
   cases kH:Hk P s d with
   | true=>rw[kH]at h;simp only[kH];exact h H' hx
   | false=>
    rw[kH]at hc;simp only at hc;split at hc<;>cases hc
  case binOp op T x y T2=>
   split at hc<;>cases hc
  case call c=>
   obtain⟨callee,args,ats⟩:=c;cases callee<;>simp only at hc h ⊢<;>(try (exact h.elim))
   case builtin b=>
    unfold Y7 at h ⊢;split at h
    ·rename_i T x h1 h2;have hm:rG P ats=YJ (P.underlying T):=by unfold rG;rw[h1]
     cases hh:YJ (P.underlying T) with
     | true=>simp only[hm,hh]at hc;cases hc
     | false=>simp only[hm,hh]at hc;cases hc
    ·cases hc
    ·cases hc
    ·exact h H' hx
    ·exact h H' hx
    ·exact h H' hx
    ·exact h H' hx
    ·exact h.elim
   case value x=>
    cases x<;>simp only at hc h ⊢<;>(try (exact h H' hx));split at h
    ·rename_i xM;simp only[xM,jO];split at hc
     ·cases hc
     ·rename_i hqf;simp only[hqf,Bool.and_false,jl,jD]at h ⊢;exact h H' hx
    ·exact h.elim
end
abbrev Fr:=List Value
def slot(fr:Fr)(k:Nat):Value:=fr.getD k undef
def ev(fr:Fr):Operand->Value
 | .tmp t=>slot fr t
 | .const v=>v
 | .global g=>.pointer (some ⟨g,0,none⟩)
 | .func f=>.func (.func f) #[] #[]
def pI(fr:Fr)(d:Option Tmp)(v:Value):Fr:=
 match d with
 | some d=>fr.set d v
 | none=>fr
def Fp(sk:List Nat)(d:Option Tmp):List Nat:=
 match d with
 | some d=>d :: sk
 | none=>sk
def qq(P:Program)(qf:FuncId->Bool)(dr q:Bool)(all:Array Oper):List Oper->List Nat->Fr->Hp->(Fr->Hp->Prop)->Prop
 | [],_,fr,H,K=>lC q H (K fr)
 | o :: rest,sk,fr,H,K=>
  match o.guard with
  | none=>pE P qf dr q o (ev fr) H fun v H'=>qq P qf dr q all rest sk (pI fr o.dst v) H' K
  | some (j,want)=>
   match (all[j]?).bind (·.dst) with
   | none=>False
   | some d=>
    if sk.contains d then
     (match slot fr d with
      | .tuple _=>qq P qf dr q all rest (Fp sk o.dst) (pI fr o.dst undef) H K
      | _=>False)
    else
     hU (slot fr d)
      (if want then pE P qf dr q o (ev (fr.set d (.bool true))) H fun v H'=>qq P qf dr q all rest sk (pI (fr.set d (.bool true)) o.dst v) H' K
       else qq P qf dr q all rest (Fp sk o.dst) (pI (fr.set d (.bool true)) o.dst undef) H K)
      (if want then qq P qf dr q all rest (Fp sk o.dst) (pI (fr.set d (.bool false)) o.dst undef) H K
       else pE P qf dr q o (ev (fr.set d (.bool false))) H fun v H'=>qq P qf dr q all rest sk (pI (fr.set d (.bool false)) o.dst v) H' K)
def At(a:Act)(fr:Fr):Prop:=a.tmps=fr.toArray
theorem At.slot{a:Act}{fr:Fr}(h:At a fr)(k:Nat):a.tmps.getD k undef=slot fr k:=by
 rw[h];simp[Vc.slot]
theorem At.ev{a:Act}{fr:Fr}(h:At a fr):a.eval=ev fr:=by
 funext x;cases x<;>first | rfl | exact h.slot _
theorem At.put{a:Act}{fr:Fr}(h:At a fr)(d:Option Tmp)(v:Value):At (a.put d v) (pI fr d v):=by
 cases d with
 | none=>exact h
 | some d=>
  have h1:a.tmps=fr.toArray:=h;simp[At,Act.put,pI,h1]
theorem Bz(fr:Fr):Good (ev fr):=fun _=>rfl
theorem vV{fr:Fr}{d:Nat}{v:Value}(h:slot fr d=v)(hv:v≠undef):fr.set d v=fr:=by
 unfold slot at h;apply ku;intro j;rw[lU];by_cases hj:d=j
 ·subst hj;by_cases hl:d<fr.length
  ·simp[hl]at h ⊢;exact h.symm
  ·simp[hl]at h;exact absurd h.symm hv
 ·simp[hj]
theorem vR{a:Act}{fr:Fr}(h:At a fr){all:Array Oper}{j d:Nat}(hj:(all[j]?).bind (·.dst)=some d) :
   (∀ b,slot fr d=.bool b->yielded all a.tmps j=some b)/\(∀ vs,slot fr d=.tuple vs->yielded all a.tmps j=none):=by
 have h1:a.tmps=fr.toArray:=h
 constructor
 · intro b hb
   unfold yielded
   rw[hj,h1]
   unfold slot at hb
   by_cases hl:d<fr.length
   · simp[hl]at hb ⊢;rw[hb]
   · simp[hl,undef]at hb
 · intro vs hb
   unfold yielded
   rw[hj,h1]
   unfold slot at hb
   by_cases hl:d<fr.length
   · simp[hl]at hb ⊢;rw[hb]
   · simp[hl]
section
variable{P:Program}{qf:FuncId->Bool}{dr q:Bool}{all:Array Oper}
def tZ(o:Oper):Bool:=match o.op with | .alloc _ | .box _ _ | .buildSlice _ _ _ | .makeMap _ none | .makeSlice _ _ _=>true | _=>false
theorem N2{e:Option ZX}{l c:Value}{H:Hp}{y:Value × Hp}(h:oQ e l c H=some y):Ext H y.2:=by
 unfold oQ at h;split at h
 ·split at h
  ·injection h with h;subst h;exact Ext.push _ _
  ·cases h
 ·cases h
theorem SL{o:Oper}{ρ:Operand->Value}{H:Hp}{K:Value->Hp->Prop}(hf:tZ o=true)(h:pE P qf dr false o ρ H K):pE P qf dr false o ρ H fun v H'=>Ext H H'/\K v H':=by
 obtain⟨dst,op,type,pos,after,guard⟩:=o;unfold tZ at hf;unfold pE at h ⊢;cases op<;>simp only[lC]at hf h ⊢<;>(try (cases hf;done))
 case alloc T=>
  obtain⟨z,hz,hk⟩:=Pu.get h;rw[hz,za];exact⟨Ext.push _ _,hk⟩
 case box T x=>exact⟨Ext.push _ _,h⟩
 case buildSlice T n parts=>
  obtain⟨e,he,h⟩:=Pu.get h;obtain⟨cs,Gk,hk⟩:=Pu.get h;rw[he,za,Gk,za];exact⟨Ext.push _ _,hk⟩
 case makeMap t r=>
  cases r with
  | some r=>cases hf
  | none=>exact⟨Ext.push _ _,h⟩
 case makeSlice T l c=>
  obtain⟨y,hy,hk⟩:=Pu.get h;rw[hy,za];exact⟨N2 hy,hk⟩
def uC(P:Program)(qf:FuncId->Bool)(dr fz:Bool)(all:Array Oper)(i:Nat):GO:=
 match dr with
 | true=>match all[i]? with
  | some o=>(match fz && tZ o with | true=>.fresh | false=>oe P qf o)
  | none=>.SZ
 | false=>.SZ
theorem Ox{o:Oper}(hf:tZ o=true):oe P qf o=.SZ:=by
 obtain⟨dst,op,type,pos,after,guard⟩:=o;unfold tZ at hf;unfold oe;cases op<;>simp only at hf ⊢<;>(try (cases hf;done))
theorem yE{fz:Bool}(hq:dr=false->q=false)(hz:fz=true->q=true){i:Nat}{o:Oper}(ho:all[i]?=some o){a:Act}{fr:Fr}(ha:At a fr){H:Hp}{K:Value->Hp->Prop}{K':Act->Hp->Prop}
   (hw:Region.wanted o (yielded all a.tmps)=true) (h:pE P qf dr q o (ev fr) H K) (hk:∀ v H',K v H'->K' (a.put o.dst v) H'):yW q P all (uC P qf dr fz all) i K' a H:=by
 unfold yW
 simp only[ho,hw,jO]
 rw[ha.ev]
 cases dr with
 | false=>
   have:=hq rfl
   subst this
   simp only[uC]
   intro H' hx
   cases hx
   exact(adF (Bz fr) (.inr rfl) h).mono hk
 | true=>
   simp only[uC,ho]
   cases MT:(fz && tZ o) with
   | false=>
     simp only
     cases hc:oe P qf o with
     | pure=>obtain⟨v,hv,hK⟩:=XR hc h;exact⟨v,hv,hk _ _ hK⟩
     | quiet=>obtain⟨v,hv,hK⟩:=xw (Bz fr) hc h;exact⟨v,hv,hk _ _ hK⟩
     | SZ=>exact fun H' hx=>(adF (Bz fr) (.inl hc) (M3 hc h hx)).mono hk
     | fresh=>
       exact absurd hc (by
         unfold oe
         split<;>(try (intro h;cases h;done))
         · split<;>(intro h;cases h)
         · split<;>(try (intro h;cases h;done))
           · split<;>(intro h;cases h)
         · split<;>(try (intro h;cases h;done))
           · split<;>(intro h;cases h)
           · split<;>(intro h;cases h))
   | true=>
     simp only[jd]at MT
     simp only
     have hc:=Ox (P:=P) (qf:=qf) MT.2
     have hqt:=hz MT.1
     subst hqt
     exact fun H' hx=>(adF (Bz fr) (.inl hc) (SL MT.2 (M3 hc h hx))).mono fun v oZ hv=>⟨hv.1,hk _ _ hv.2⟩
theorem tJ{fz:Bool}{i:Nat}{o:Oper}(ho:all[i]?=some o){a:Act}{H:Hp}{K':Act->Hp->Prop}
   (hw:Region.wanted o (yielded all a.tmps)=false) (h:K' (a.put o.dst undef) H):yW q P all (uC P qf dr fz all) i K' a H:=by
 unfold yW
 simp only[ho,hw,jl,jD]
 exact h
def ZU(ops:List Oper):List Nat:=ops.filterMap (·.dst)
def ky(W:List Nat)(fr kR:Fr):Prop:=kR.length=fr.length/\∀ k,k ∉ W->kR[k]?=fr[k]?
theorem ky.refl(W:List Nat)(fr:Fr):ky W fr fr:=⟨rfl,fun _ _=>rfl⟩
theorem ky.trans{W:List Nat}{a b c:Fr}(h:ky W a b)(h':ky W b c):ky W a c:=⟨h'.1.trans h.1,fun k hk=>(h'.2 k hk).trans (h.2 k hk)⟩
theorem ky.mono{W W':List Nat}{a b:Fr}(h:ky W a b)(hs:∀ k∈W,k∈W'):ky W' a b:=⟨h.1,fun k hk=>h.2 k fun hm=>hk (hs k hm)⟩
theorem ky.put{W:List Nat}{fr:Fr}{d:Option Tmp}{v:Value}(h:∀ k,d=some k->k∈W):ky W fr (pI fr d v):=by
 cases d with
 | none=>exact ky.refl W fr
 | some d=>exact⟨by simp[pI],fun k hk=>by
  have:d≠k:=fun e=>hk (e ▸ h d rfl);simp[pI,lU,this]⟩
theorem YQ{fz:Bool}(hq:dr=false->q=false)(hz:fz=true->q=true){W:List Nat}{ds:List Deferred}{fr₀:Fr}:∀ (l:List Oper) (k:Nat) (sk:List Nat) (fr:Fr) (a:Act) (H:Hp) (K:Fr->Hp->Prop),
   (∀ j,l[j]?=all[k+j]?)->(∀ d∈ZU l,d∈W)->At a fr->a.defers=ds->ky W fr₀ fr->qq P qf dr q all l sk fr H K ->
   uq q P all (uC P qf dr fz all) (fun a' H'=>∃ kR,At a' kR/\a'.defers=ds/\ky W fr₀ kR/\K kR H') (List.range' k l.length) a H
 | [],k,sk,fr,a,H,K,_,_,ha,hd,hA,h=>fun H' hx=>⟨fr,ha,hd,hA,h.ex hx⟩
 | o :: rest,k,sk,fr,a,H,K,hl,hW,ha,hd,hA,h=>by
   have ho:all[k]?=some o:=by simpa using (hl 0).symm
   have hl':∀ j,rest[j]?=all[k+1+j]?:=fun j=>by have:=hl (j+1);simpa[Nat.add_assoc,ad7 1 j]using this
   have hW':∀ d∈ZU rest,d∈W:=fun d hd=>hW d (by
     unfold ZU at *;rw[ot];split
     · exact hd
     · exact dH _ hd)
   have hWo:∀ d,o.dst=some d->d∈W:=fun d hdd=>hW d (by unfold ZU;rw[ot,hdd];exact eH)
   have hdp:∀ v,(a.put o.dst v).defers=ds:=fun v=>by rw[<- hd];cases o.dst<;>rfl
   simp only[gR,List.range'_succ,uq]
   have next:∀ (sk:List Nat) (v:Value) (H':Hp),qq P qf dr q all rest sk (pI fr o.dst v) H' K->uq q P all (uC P qf dr fz all) (fun a' H'=>∃ kR,At a' kR/\a'.defers=ds/\ky W fr₀ kR/\K kR H') (List.range' (k+1) rest.length) (a.put o.dst v) H':=
     fun sk v H' h'=>YQ hq hz rest (k+1) sk (pI fr o.dst v) (a.put o.dst v) H' K hl' hW' (ha.put o.dst v) (hdp v) (hA.trans (ky.put hWo)) h'
   simp only[qq]at h
   cases hg:o.guard with
   | none=>
     simp only[hg]at h
     exact yE hq hz ho ha (by simp[Region.wanted,hg]) h fun v H' h'=>next sk v H' h'
   | some g=>
     obtain⟨j,want⟩:=g
     simp only[hg]at h
     cases hjd:(all[j]?).bind (·.dst) with
     | none=>simp only[hjd]at h
     | some d=>
       simp only[hjd]at h
       obtain⟨hy1,T3⟩:=vR ha hjd
       split at h
       · split at h
         · rename_i vs hv
           exact tJ ho (by simp[Region.wanted,hg,T3 _ hv]) (next _ undef H h)
         · exact h.elim
       · unfold hU at h
         split at h
         · rename_i hv
           rw[vV hv (by simp[undef])]at h
           have R0:=hy1 true hv
           cases want
           · simp only[jl,jD]at h
             exact tJ ho (by simp[Region.wanted,hg,R0]) (next _ undef H h)
           · simp only[jO]at h
             exact yE hq hz ho ha (by simp[Region.wanted,hg,R0]) h fun v H' h'=>next sk v H' h'
         · rename_i hv
           rw[vV hv (by simp[undef])]at h
           have R0:=hy1 false hv
           cases want
           · simp only[jl,jD]at h
             exact yE hq hz ho ha (by simp[Region.wanted,hg,R0]) h fun v H' h'=>next sk v H' h'
           · simp only[jO]at h
             exact tJ ho (by simp[Region.wanted,hg,R0]) (next _ undef H h)
         · exact h.elim
end
def Bw:Nat->Type
 | 0=>Unit
 | n+1=>Value × Bw n
def qP(fr:Fr):(L:List Nat)->Bw L.length
 | []=>()
 | k :: L=>(slot fr k,qP fr L)
def lay:(L:List Nat)->Bw L.length->Fr->Fr
 | [],_,fr=>fr
 | k :: L,s,fr=>(lay L s.2 fr).set k s.1
def oU(J:List Nat)(j:Nat->Value)(fr:Fr):Fr:=
 match J with
 | []=>fr
 | k :: J=>(oU J j fr).set k (j k)
inductive Zg {n:Nat} (rest:Bw n->Hp->Prop) (first:(Bw n->Hp->Prop)->Prop):Prop
 | mk (K:Bw n->Hp->Prop) (hr:∀ s H,K s H->rest s H) (hf:first K)
inductive zF {n:Nat} (s:Bw n) (H:Hp) (body:(Bw n->Hp->Prop)->Bw n->Hp->Prop):Prop
 | mk (I:Bw n->Hp->Prop) (μ:Bw n->Hp->Nat) (h0:I s H) (hb:∀ s H,I s H->body (fun s' H'=>I s' H'/\μ s' H'<μ s H) s H)
def Any(X:(Nat->Value)->Prop):Prop:=∀ j,X j
inductive BC where
 | nil
 | seq (l r:BC)
 | join (L J:List Nat) (l r:BC)
 | cond (l r:BC)
 | loop (L J:List Nat) (b:BC)
def Z7:Code->List Nat
 | .region _ ops _=>ZU ops.toList
 | .seq a b=>Z7 a++Z7 b
 | .cond _ a b=>Z7 a++Z7 b
 | .block _ c=>Z7 c
 | .loop c=>Z7 c
 | .scope c=>Z7 c
 | _=>[]
def DM(xs ys:List Nat):Bool:=xs.all fun x=>ys.contains x
abbrev Ks:=Fr->List Deferred->Hp->Prop
def FH(K:Ks)(Q:Exit->Ks):Exit->Ks
 | .normal,fr,ds,H=>K fr ds H
 | e,fr,ds,H=>Q e fr ds H
def isX(k id:Nat)(A B:Prop):Prop:=if k=id then A else B
def kC(id:Nat)(Q:Exit->Ks):Exit->Ks
 | .exit k,fr,ds,H=>isX k id (Q .normal fr ds H) (Q (.exit k) fr ds H)
 | e,fr,ds,H=>Q e fr ds H
def scp(Q:Exit->Ks):Exit->Ks
 | .goto _,_,_,_=>False
 | e,fr,ds,H=>Q e fr ds H
def ZP:Code->Bool
 | .rangeFunc _ _ _ _=>false
 | .seq a b=>ZP a && ZP b
 | .cond _ a b=>ZP a && ZP b
 | .block _ c=>ZP c
 | .loop c=>ZP c
 | .scope c=>ZP c
 | _=>true
def DK:(n:Nat)->Bw n->List Value
 | 0,_=>[]
 | n+1,s=>s.1 :: DK n s.2
abbrev PC:=Option (Option Nat)
def Y2:PC->Option Code
 | none=>none
 | some none=>some .ret
 | some (some id)=>some (.exit id)
def xc(rec:Loop)(l:Nat)(st:LoopState)(j:PC)(H:Hp):Prop:=H[l]?=some (.loop { rec with state:=st,pending:=Y2 j })
def rZ(rec:Loop)(l:Nat)(st:LoopState)(j:PC)(H:Hp):Hp:=H.setIfInBounds l (.loop { rec with state:=st,pending:=Y2 j })
inductive LG (P:Program) (g:Value) (n:Nat) (H:Hp) (round:Bw n->Hp->(Hp->(Hp->Prop)->Prop)->(PC->Hp->Prop)->Prop) (after:PC->Nat->Hp->Prop):Prop
 | mk (hg:∃ f first cap,g=.func (.func f) first cap) (h:∀ (rec:Loop) (l D:Nat) (y:Value) (H1:Hp),Ext H H1->H.size<=D->D<l->l<H1.size->H1[D]?=some (.deferred (some []))->xc rec l .ready none H1 ->
  (∀ (s:Bw n) (H2:Hp) (K:Value->Hp->Prop),xc rec l .ready none H2 ->
   round s H2 (fun H3 X=>xc rec l .ready none H3/\X (rZ rec l .busy none H3))
    (fun j H4=>xc rec l .busy none H4/\K (.bool j.isNone) (rZ rec l (if j.isNone then .ready else .done) j H4))->om P y (DK n s).toArray H2 K) ->
  om P g #[y] H1 fun _ H5=>∃ st j,st≠.busy/\xc rec l st j H5/\after j D (rZ rec l .exhausted j H5)):LG P g n H round after
def onJ(j:PC)(A B:Prop)(C:Nat->Prop):Prop:=
 match j with
 | none=>A
 | some none=>B
 | some (some id)=>C id
def Vu(K:PC->Hp->Prop):Exit->Ks
 | .normal,_,_,H=>K none H
 | .ret,_,_,H=>K (some none) H
 | .exit id,_,_,H=>K (some (some id)) H
 | _,_,_,_=>False
def Xw(B:Hp->(Hp->Prop)->Prop)(body:Ks):Exit->Ks
 | .normal,fr,ds,H=>B H fun H3=>body fr ds H3
 | _,_,_,_=>False
def ny(fr:Fr):List (Nat × Value)->Fr
 | []=>fr
 | (t,v) :: l=>ny (fr.set t v) l
def uI(D:Nat):Deferred:={ target:=.collected D,args:=#[] }
def ahY(qf:FuncId->Bool)(ops:Array Oper):Bool:=
 ops.toList.any fun o=>match o.op with
  | .call c=>match c.callee with
   | .value (.func f)=>qf f
   | _=>false
  | _=>false
def Hb(P:Program)(qf:FuncId->Bool)(ops:Array Oper)(dr:Bool)(fr:Fr)(H:Hp)(K:Fr->Hp->Prop):Prop:=
 match dr with
 | false=>if oB ops then qq P qf false false ops ops.toList [] fr H K else False
 | true=>if P.follows .mixedOrders && wM ops (uC P qf true false ops) then qq P qf true (ahY qf ops) ops ops.toList [] fr H K
  else if P.follows .mixedOrders && wM ops (uC P qf true true ops) then qq P qf true true ops ops.toList [] fr H K else False
def vc(P:Program)(qf:FuncId->Bool):(top:Bool)->Code->BC->(Exit->Ks)->Ks
 | _,.skip,_,Q,fr,ds,H=>Q .normal fr ds H
 | _,.label _,_,Q,fr,ds,H=>Q .normal fr ds H
 | _,.ret,_,Q,fr,ds,H=>Q .ret fr ds H
 | _,.exit id,_,Q,fr,ds,H=>Q (.exit id) fr ds H
 | _,.region _ ops dr,_,Q,fr,ds,H=>Hb P qf ops dr fr H fun kR H'=>Q .normal kR ds H'
 | top,.seq a b,lW,Q,fr,ds,H=>
  match lW with
  | .join L J l r=>
   if DM (Z7 a) (L++J) && ZP a then
    Zg (fun s H=>Any fun j=>vc P qf top b r Q (lay L s (oU J j fr)) ds H) fun K=>vc P qf top a l (FH (fun kR _ H'=>K (qP kR L) H') Q) fr ds H
   else False
  | .seq l r=>vc P qf top a l (FH (vc P qf top b r Q) Q) fr ds H
  | _=>vc P qf top a .nil (FH (vc P qf top b .nil Q) Q) fr ds H
 | top,.cond c a b,lW,Q,fr,ds,H=>
  match lW with
  | .cond l r=>hU (ev fr c) (vc P qf top a l Q fr ds H) (vc P qf top b r Q fr ds H)
  | _=>hU (ev fr c) (vc P qf top a .nil Q fr ds H) (vc P qf top b .nil Q fr ds H)
 | top,.block id c,lW,Q,fr,ds,H=>vc P qf top c lW (kC id Q) fr ds H
 | top,.scope c,lW,Q,fr,ds,H=>vc P qf top c lW (scp Q) fr ds H
 | top,.loop c,lW,Q,fr,ds,H=>
  match lW with
  | .loop L J b=>
   if DM (Z7 c) (L++J) && ZP c then
    zF (qP fr L) H fun K s H=>Any fun j=>vc P qf top c b (FH (fun kR _ H'=>K (qP kR L) H') Q) (lay L s (oU J j fr)) ds H
   else False
  | _=>False
 | true,.rangeFunc g ps x y,lW,Q,fr,ds,H=>
  match lW with
  | .seq l r=>LG P (ev fr g) ps.size H
   (fun s H2 B K=>vc P qf false x l (Xw B (vc P qf false y r (Vu K))) (ny fr (ps.toList.zip (DK ps.size s))) [] H2)
   (fun j D H'=>onJ j (Q .normal fr (uI D :: ds) H') (Q .ret fr (uI D :: ds) H') fun id=>Q (.exit id) fr (uI D :: ds) H')
  | _=>False
 | _,_,_,_,_,_,_=>False
end Go.Vc
