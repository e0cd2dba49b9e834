/- Parts of a proof, joined in build order: a calculus of contracts, contracts of functions. -/
import Derived.Test.YtfegkmmifpgpfaaGreatRQB
import Derived.DeepKeys
import Derived.LaidEqlPtr
set_option linter.unusedVariables false
set_option linter.unusedSimpArgs false
set_option maxHeartbeats 8000000
set_option maxRecDepth 100000
namespace Go.Vc
def YK:Operand->Bool
 | .const _=>true
 | _=>false
def Y5{α:Type}(f:α->Option Bool):List α->Option Bool
 | []=>some true
 | a :: l=>match f a with
  | some true=>Y5 f l
  | r=>r
def DF(P:Program):Nat->TypeId->Value->Value->Option Bool
 | 0,_,_,_=>none
 | d+1,T,x,y=>
  match P.underlying T,x,y with
  | some .bool,.bool a,.bool b=>some (a == b)
  | some (.int _),.int k a,.int k' b=>if k=k' then some (a == b) else none
  | some .string,.string a,.string b=>some (a.toList == b.toList)
  | some (.struct fs),.agg xs,.agg ys=>if P.stoodInHeld T then none else
   Y5 (fun f=>if f.name = "_" then some true else(Yl (r5 P f.type) xs f.offset).bind fun a=>(Yl (r5 P f.type) ys f.offset).bind fun b=>DF P d f.type a b) fs.toList
  | some (.array n e),.agg xs,.agg ys=>(P.info? e).bind fun _=>
   Y5 (fun j=>(Yl (r5 P e) xs (j*P.cellsOf e)).bind fun a=>(Yl (r5 P e) ys (j*P.cellsOf e)).bind fun b=>DF P d e a b) (List.range n)
  | _,_,_=>none
section
variable{P:Program}{w:World}
theorem tf{d:Nat}(ih:∀ {T x y b},DF P d T x y=some b->(Op.equalIn d T x y).run P w=.ok b w){xs ys:Array Value}:∀ {fs:List Field} {b:Bool},
   Y5 (fun f:Field=>if f.name = "_" then some true else(Yl (r5 P f.type) xs f.offset).bind fun a=>(Yl (r5 P f.type) ys f.offset).bind fun b=>DF P d f.type a b) fs=some b ->
   (Op.eqFields d xs ys fs).run P w=.ok b w
 | [],b,h=>by injection h with h;subst h;rfl
 | f :: fs,b,h=>by
   unfold Y5 at h
   by_cases hn:f.name = "_"
   · simp only[hn,jO]at h
     unfold Op.eqFields
     rw[aH (by simp[hn])]
     exact tf ih h
   · simp only[hn,jD]at h
     unfold Op.eqFields
     rw[aU hn]
     cases h1:Yl (r5 P f.type) xs f.offset with
     | none=>rw[h1]at h;simp at h
     | some a=>
       cases h2:Yl (r5 P f.type) ys f.offset with
       | none=>rw[h1,h2]at h;simp at h
       | some c=>
         rw[h1,h2]at h
         simp only[jG]at h
         cases h3:DF P d f.type a c with
         | none=>rw[h3]at h;simp at h
         | some r=>
           rw[h3]at h
           simp only[Sem.run_bind,tM h1,tM h2,ih h3,Result.andThen_ok]
           cases r
           · simp only at h;injection h with h;subst h;rfl
           · simp only at h;simpa using tf ih h
theorem CY{d:Nat}{e:TypeId}(ih:∀ {T x y b},DF P d T x y=some b->(Op.equalIn d T x y).run P w=.ok b w){xs ys:Array Value}:∀ {l:List Nat} {b:Bool},
   Y5 (fun j=>(Yl (r5 P e) xs (j*P.cellsOf e)).bind fun a=>(Yl (r5 P e) ys (j*P.cellsOf e)).bind fun b=>DF P d e a b) l=some b ->
   (Op.eqItems d e (P.cellsOf e) xs ys l).run P w=.ok b w
 | [],b,h=>by injection h with h;subst h;rfl
 | j :: l,b,h=>by
   unfold Y5 at h
   unfold Op.eqItems
   cases h1:Yl (r5 P e) xs (j*P.cellsOf e) with
   | none=>rw[h1]at h;simp at h
   | some a=>
     cases h2:Yl (r5 P e) ys (j*P.cellsOf e) with
     | none=>rw[h1,h2]at h;simp at h
     | some c=>
       rw[h1,h2]at h
       simp only[jG]at h
       cases h3:DF P d e a c with
       | none=>rw[h3]at h;simp at h
       | some r=>
         rw[h3]at h
         simp only[Sem.run_bind,tM h1,tM h2,ih h3,Result.andThen_ok]
         cases r
         · simp only at h;injection h with h;subst h;rfl
         · simp only at h;simpa using CY ih h
theorem vz:∀ {d:Nat} {T:TypeId} {x y:Value} {b:Bool},DF P d T x y=some b->(Op.equalIn d T x y).run P w=.ok b w
 | 0,_,_,_,_,h=>by simp[DF]at h
 | d+1,T,x,y,b,h=>by
  unfold DF at h;split at h
  ·rename_i a c hu;injection h with h;subst h;simp[Op.equalIn,underlying,hu]
  ·rename_i k' k a k2 c hu;split at h
   ·rename_i hk;injection h with h;subst h;simp[Op.equalIn,underlying,hu,hk]
   ·cases h
  ·rename_i a c hu;injection h with h;subst h;exact run_equalIn_string w d T a c hu
  ·rename_i fs xs ys hu;split at h
   ·cases h
   ·rename_i hs;have hf:P.fieldsOf T=fs:=by simp[Program.fieldsOf,hu]
    rw[run_equalIn_struct w d T xs ys (by rw[hf];exact hu) (by simpa using hs),hf];exact tf (fun h=>vz h) h
  ·rename_i n e xs ys hu;cases hi:P.info? e with
   | none=>rw[hi]at h;simp at h
   | some i=>
    rw[hi]at h;rw[run_equalIn_array w d xs ys hu hi];exact CY (fun h=>vz h) h
  ·cases h
def rp(H:Hp)(a:Addr):Bool:=match H[a.block]? with | some (.cells _ _ (0,0))=>true | _=>false
def ptrEq(P:Program)(e:TypeId)(a b:Addr)(H:Hp):Option Bool:=
 match P.info? e with
 | some i=>if a=b then some true else if i.size≠0 && rp H a && rp H b then some false else none
 | none=>none
theorem sR{H:Hp}{a:Addr}(h:rp H a=true):∃ c t,H[a.block]?=some (.cells c t (0,0)):=by
 unfold rp at h;split at h
 ·rename_i c t hh;exact⟨c,t,hh⟩
 ·cases h
theorem HH{d:Nat}{T e:TypeId}{a b:Addr}{r:Bool}(hu:P.underlying T=some (.pointer e))(h:ptrEq P e a b w.heap=some r):(Op.equalIn (d+1) T (.pointer (some a)) (.pointer (some b))).run P w=.ok r w:=by
 unfold ptrEq at h;split at h
 ·rename_i i hi;split at h
  ·rename_i II;injection h with h;subst h;subst II;simp[Op.equalIn,run_underlying hu,sizeOf,typeInfo,hi,run_sameAddr_same]
  ·rename_i II;split at h
   ·rename_i hc;injection h with h;subst h;simp only[jd,iS]at hc;obtain⟨ca,ta,ha⟩:=sR hc.1.2;obtain⟨cb,tb,hb⟩:=sR hc.2;simp[Op.equalIn,run_underlying hu,sizeOf,typeInfo,hi,hc.1.1,run_sameAddr_other w II ha hb]
   ·cases h
 ·cases h
def K0(P:Program)(d:Nat)(T:TypeId)(lit:Bool)(x y:Value)(H:Hp):Option Bool:=
 match P.underlying T,x,y with
 | some (.pointer _),.pointer none,.pointer b=>some b.isNone
 | some (.pointer _),.pointer (some _),.pointer none=>some false
 | some (.pointer e),.pointer (some a),.pointer (some b)=>ptrEq P e a b H
 | some (.interface _),.nilIface,.nilIface=>if lit then some true else none
 | some (.interface _),.nilIface,.iface _ _=>some false
 | some (.interface _),.iface _ _,.nilIface=>some false
 | some (.interface _),.iface t u,.iface t' u'=>if t≠t' then some false else
  match P.info? t with
  | some i=>if i.comparable then
   (match P.underlying t,u,u' with
    | some (.pointer e),.pointer (some a),.pointer (some b)=>ptrEq P e a b H
    | _,_,_=>DF P (d+1) t u u') else none
  | none=>none
 | some (.struct _),.agg _,.agg _=>if P.eqGuardType P.depth T then none else DF P (d+2) T x y
 | some (.array _ _),.agg _,.agg _=>if P.eqGuardType P.depth T then none else DF P (d+2) T x y
 | _,_,_=>none
def CZ(P:Program)(T:TypeId)(lit:Bool)(x y:Value)(H:Hp):Option Bool:=K0 P 9998 T lit x y H
theorem adz{d:Nat}{T:TypeId}{lit:Bool}{x y:Value}{b:Bool}(h:K0 P d T lit x y w.heap=some b):(Op.equalIn (d+2) T x y).run P w=.ok b w:=by
 unfold K0 at h;split at h
 ·rename_i hu;injection h with h;subst h;rw[Op.equalIn];simp[underlying,hu]
 ·rename_i hu;injection h with h;subst h;rw[Op.equalIn];simp[underlying,hu]
 ·rename_i hu;exact HH (d:=d+1) hu h
 ·rename_i hu;split at h
  ·injection h with h;subst h;rw[Op.equalIn];simp[underlying,hu]
  ·cases h
 ·rename_i hu;injection h with h;subst h;rw[Op.equalIn];simp[underlying,hu]
 ·rename_i hu;injection h with h;subst h;rw[Op.equalIn];simp[underlying,hu]
 ·rename_i t u t' u' hu;split at h
  ·rename_i jZ;injection h with h;subst h;rw[Op.equalIn];simp[underlying,hu,jZ]
  ·rename_i heq;have heq:t=t':=jh.1 heq;subst heq;split at h
   ·rename_i i hi;split at h
    ·rename_i ada;have key:∀ {r},(Op.equalIn (d+1) t u u').run P w=.ok r w->(Op.equalIn (d+2) T (.iface t u) (.iface t u')).run P w=.ok r w:=by
      intro r hr;rw[Op.equalIn];simp[underlying,hu,typeInfo,hi,ada,hr]
     split at h
     ·rename_i hu2;exact key (HH (d:=d) hu2 h)
     ·exact key (vz h)
    ·cases h
   ·cases h
 ·split at h
  ·cases h
  ·exact vz h
 ·split at h
  ·cases h
  ·exact vz h
 ·cases h
theorem Dh{x:Operand}(h:YK x=true):∃ v,x=.const v:=by
 cases x<;>first | exact⟨_,rfl⟩ | cases h
theorem I0{op:BinOp}{T:TypeId}{xo yo:Operand}(hl:(YK xo || YK yo)=true):(eqGuard op T xo yo .nilIface .nilIface).run P w=.ok () w:=by
 rw[GQ]at hl;rcases hl with h | h
 ·obtain⟨v,rfl⟩:=Dh h;cases op<;>rfl
 ·obtain⟨v,rfl⟩:=Dh h;unfold eqGuard;cases op<;>first | rfl | (simp;done)
theorem OG{d:Nat}{op:BinOp}{T:TypeId}{lit:Bool}{xo yo:Operand}{x y:Value}{b:Bool}(hl:lit=true->(YK xo || YK yo)=true)(h:K0 P d T lit x y w.heap=some b):(eqGuard op T xo yo x y).run P w=.ok () w:=by
 unfold K0 at h;split at h
 ·exact Zz (by simp) (by simp)
 ·exact Zz (by simp) (by simp)
 ·exact Zz (by simp) (by simp)
 ·split at h
  ·rename_i akI;exact I0 (hl akI)
  ·cases h
 ·exact Zz (by simp) (by simp)
 ·exact Zz (by simp) (by simp)
 ·exact Zz (by simp) (by simp)
 ·split at h
  ·cases h
  ·rename_i hg;exact run_eqGuard_agg w op T xo yo _ _ (by simpa using hg)
 ·split at h
  ·cases h
  ·rename_i hg;exact run_eqGuard_agg w op T xo yo _ _ (by simpa using hg)
 ·cases h
theorem BM{H H':Hp}(hx:Ext H H'){a:Addr}(h:rp H a=true):rp H' a=true:=by
 obtain⟨c,t,hh⟩:=sR h;unfold rp;have:=hx.at hh;simp[this]
theorem Ev{H H':Hp}(hx:Ext H H'){e:TypeId}{a b:Addr}{r:Bool}(h:ptrEq P e a b H=some r):ptrEq P e a b H'=some r:=by
 unfold ptrEq at h ⊢;split at h
 ·split at h
  ·rename_i II;rw[aU II];exact h
  ·rename_i II;rw[aH II];split at h
   ·rename_i hc;simp only[jd]at hc;rw[aU (by simp only[jd];exact⟨⟨hc.1.1,BM hx hc.1.2⟩,BM hx hc.2⟩)];exact h
   ·cases h
 ·cases h
theorem WT{H H':Hp}(hx:Ext H H'){d:Nat}{T:TypeId}{lit:Bool}{x y:Value}{b:Bool}(h:K0 P d T lit x y H=some b):K0 P d T lit x y H'=some b:=by
 unfold K0 at h ⊢;split at h<;>try exact h
 ·exact Ev hx h
 ·split at h
  ·rename_i jZ;rw[aU jZ];exact h
  ·rename_i jZ;rw[aH jZ];split at h
   ·split at h
    ·rename_i ada;rw[aU ada];split at h
     ·exact Ev hx h
     ·exact h
    ·cases h
   ·cases h
def ya(P:Program)(T:TypeId)(lit:Bool)(op:BinOp)(x y:Value)(H:Hp):Option Value:=
 match op with
 | .eql=>(CZ P T lit x y H).map .bool
 | .neq=>(CZ P T lit x y H).map fun b=>.bool (!b)
 | _=>none
theorem SW{H H':Hp}(hx:Ext H H'){T:TypeId}{lit:Bool}{op:BinOp}{x y v:Value}(h:ya P T lit op x y H=some v):ya P T lit op x y H'=some v:=by
 unfold ya at h ⊢
 cases op<;>simp only at h ⊢<;>first
   | (cases h;done)
   | (simp only[jf]at h
      obtain⟨b,hb,rfl⟩:=h
      unfold CZ at hb ⊢;rw[WT hx hb];rfl)
theorem NY{d:Nat}{T:TypeId}{lit:Bool}{x y:Value}{b:Bool}{H:Hp}(h:K0 P d T lit x y H=some b):binOp .eql T x y=(do pure (.bool (<- Op.equal T x y)):Sem Value)/\binOp .neq T x y=(do pure (.bool (!(<- Op.equal T x y))):Sem Value):=by
 unfold K0 at h;split at h<;>first | exact⟨rfl,rfl⟩ | cases h
theorem ady{T:TypeId}{lit:Bool}{x y:Value}{b:Bool}(h:CZ P T lit x y w.heap=some b):(Op.equal T x y).run P w=.ok b w:=adz (d:=9998) h
theorem WR{op:BinOp}{T:TypeId}{lit:Bool}{xo yo:Operand}{x y v:Value}(hl:lit=true->(YK xo || YK yo)=true)(h:ya P T lit op x y w.heap=some v) :
   (do eqGuard op T xo yo x y;binOp op T x y:Sem Value).run P w=.ok v w:=by
 unfold ya at h
 cases op<;>simp only at h<;>first
   | (cases h;done)
   | (simp only[jf]at h
      obtain⟨b,hb,rfl⟩:=h
      have h1:=ady hb
      have h2:=NY hb
      simp only[Sem.run_bind]
      rw[OG hl hb]
      simp only[Result.andThen_ok]
      first | rw[h2.1] | rw[h2.2]
      simp[h1])
def EX(td:Option TypeDesc):Bool:=match td with | some (.pointer _) | some (.interface _) | some (.struct _) | some (.array _ _)=>true | _=>false
end
end Go.Vc
