/- Parts of a proof, joined in build order: a calculus of contracts, contracts of functions. -/
import Derived.Test.YtgkadmojokfohaaGreatFSB
import Derived.DeepKeys
import Derived.LaidEqlPtr
set_option linter.unusedVariables false
set_option linter.unusedSimpArgs false
namespace Go.Vc
def y7:Operand→Bool
 | .const _=>true
 | _=>false
def YE {α:Type} (f:α→Option Bool):List α→Option Bool
 | []=>some true
 | a :: l=>match f a with
   | some true=>YE f l
   | r=>r
def eqT (P:Program):Nat→TypeId→Value→Value→Option Bool
 | 0,_,_,_=>none
 | d+1,T,x,y=>
   match P.underlying T,x,y with
   | some .bool,.bool a,.bool b=>some (a == b)
   | some (.int _),.int k a,.int k' b=>if k=k' then some (a == b) else none
   | some .string,.string a,.string b=>some (a.toList == b.toList)
   | some (.struct fs),.agg xs,.agg ys=>if P.stoodInHeld T then none else
       YE (fun f=>if f.name = "_" then some true else (yK (ldK P f.type) xs f.offset).bind fun a=>(yK (ldK P f.type) ys f.offset).bind fun b=>eqT P d f.type a b) fs.toList
   | some (.array n e),.agg xs,.agg ys=>(P.info? e).bind fun _=>
       YE (fun j=>(yK (ldK P e) xs (j*P.cellsOf e)).bind fun a=>(yK (ldK P e) ys (j*P.cellsOf e)).bind fun b=>eqT P d e a b) (List.range n)
   | _,_,_=>none
section
variable {P:Program} {w:World}
theorem eqFields_ok {d:Nat} (ih:∀ {T x y b},eqT P d T x y=some b→(Op.equalIn d T x y).run P w=.ok b w) {xs ys:Array Value}:∀ {fs:List Field} {b:Bool},
   YE (fun f:Field=>if f.name = "_" then some true else (yK (ldK P f.type) xs f.offset).bind fun a=>(yK (ldK P f.type) ys f.offset).bind fun b=>eqT P d f.type a b) fs=some b →
   (Op.eqFields d xs ys fs).run P w=.ok b w
 | [],b,h=>by injection h with h; subst h; rfl
 | f :: fs,b,h=>by
   unfold YE at h
   by_cases hn:f.name = "_"
   · simp only [hn,if_true] at h
     unfold Op.eqFields
     rw [if_neg (by simp [hn])]
     exact eqFields_ok ih h
   · simp only [hn,if_false] at h
     unfold Op.eqFields
     rw [if_pos hn]
     cases h1:yK (ldK P f.type) xs f.offset with
     | none=>rw [h1] at h; simp at h
     | some a=>
       cases h2:yK (ldK P f.type) ys f.offset with
       | none=>rw [h1,h2] at h; simp at h
       | some c=>
         rw [h1,h2] at h
         simp only [Option.bind_some] at h
         cases h3:eqT P d f.type a c with
         | none=>rw [h3] at h; simp at h
         | some r=>
           rw [h3] at h
           simp only [Sem.run_bind,part_ok h1,part_ok h2,ih h3,Result.andThen_ok]
           cases r
           · simp only at h; injection h with h; subst h; rfl
           · simp only at h; simpa using eqFields_ok ih h
theorem eqItems_ok {d:Nat} {e:TypeId} (ih:∀ {T x y b},eqT P d T x y=some b→(Op.equalIn d T x y).run P w=.ok b w) {xs ys:Array Value}:∀ {l:List Nat} {b:Bool},
   YE (fun j=>(yK (ldK P e) xs (j*P.cellsOf e)).bind fun a=>(yK (ldK P e) ys (j*P.cellsOf e)).bind fun b=>eqT P d e a b) l=some b →
   (Op.eqItems d e (P.cellsOf e) xs ys l).run P w=.ok b w
 | [],b,h=>by injection h with h; subst h; rfl
 | j :: l,b,h=>by
   unfold YE at h
   unfold Op.eqItems
   cases h1:yK (ldK P e) xs (j*P.cellsOf e) with
   | none=>rw [h1] at h; simp at h
   | some a=>
     cases h2:yK (ldK P e) ys (j*P.cellsOf e) with
     | none=>rw [h1,h2] at h; simp at h
     | some c=>
       rw [h1,h2] at h
       simp only [Option.bind_some] at h
       cases h3:eqT P d e a c with
       | none=>rw [h3] at h; simp at h
       | some r=>
         rw [h3] at h
         simp only [Sem.run_bind,part_ok h1,part_ok h2,ih h3,Result.andThen_ok]
         cases r
         · simp only at h; injection h with h; subst h; rfl
         · simp only at h; simpa using eqItems_ok ih h
theorem eqT_ok:∀ {d:Nat} {T:TypeId} {x y:Value} {b:Bool},eqT P d T x y=some b→(Op.equalIn d T x y).run P w=.ok b w
 | 0,_,_,_,_,h=>by simp [eqT] at h
 | d+1,T,x,y,b,h=>by
   unfold eqT at h
   split at h
   · rename_i a c hu; injection h with h; subst h; simp [Op.equalIn,underlying,hu]
   · rename_i k' k a k2 c hu
     split at h
     · rename_i hk; injection h with h; subst h; simp [Op.equalIn,underlying,hu,hk]
     · cases h
   · rename_i a c hu; injection h with h; subst h; exact run_equalIn_string w d T a c hu
   · rename_i fs xs ys hu
     split at h
     · cases h
     · rename_i hs
       have hf:P.fieldsOf T=fs:=by simp [Program.fieldsOf,hu]
       rw [run_equalIn_struct w d T xs ys (by rw [hf]; exact hu) (by simpa using hs),hf]
       exact eqFields_ok (fun h=>eqT_ok h) h
   · rename_i n e xs ys hu
     cases hi:P.info? e with
     | none=>rw [hi] at h; simp at h
     | some i=>
       rw [hi] at h
       rw [run_equalIn_array w d xs ys hu hi]
       exact eqItems_ok (fun h=>eqT_ok h) h
   · cases h
def standsH (H:Hp) (a:Addr):Bool:=match H[a.block]? with | some (.cells _ _ (0,0))=>true | _=>false
def ptrEq (P:Program) (e:TypeId) (a b:Addr) (H:Hp):Option Bool:=
 match P.info? e with
 | some i=>if a=b then some true else if i.size≠0 && standsH H a && standsH H b then some false else none
 | none=>none
theorem stands_spec {H:Hp} {a:Addr} (h:standsH H a=true):∃ c t,H[a.block]?=some (.cells c t (0,0)):=by
 unfold standsH at h
 split at h
 · rename_i c t hh; exact ⟨c,t,hh⟩
 · cases h
theorem ptrEq_ok {d:Nat} {T e:TypeId} {a b:Addr} {r:Bool} (hu:P.underlying T=some (.pointer e)) (h:ptrEq P e a b w.heap=some r):(Op.equalIn (d+1) T (.pointer (some a)) (.pointer (some b))).run P w=.ok r w:=by
 unfold ptrEq at h
 split at h
 · rename_i i hi
   split at h
   · rename_i hab; injection h with h; subst h; subst hab
     simp [Op.equalIn,run_underlying hu,sizeOf,typeInfo,hi,run_sameAddr_same]
   · rename_i hab
     split at h
     · rename_i hc
       injection h with h; subst h
       simp only [Bool.and_eq_true,decide_eq_true_eq] at hc
       obtain ⟨ca,ta,ha⟩:=stands_spec hc.1.2
       obtain ⟨cb,tb,hb⟩:=stands_spec hc.2
       simp [Op.equalIn,run_underlying hu,sizeOf,typeInfo,hi,hc.1.1,run_sameAddr_other w hab ha hb]
     · cases h
 · cases h
def eqD (P:Program) (d:Nat) (T:TypeId) (lit:Bool) (x y:Value) (H:Hp):Option Bool:=
 match P.underlying T,x,y with
 | some (.pointer _),.pointer none,.pointer b=>some b.isNone
 | some (.pointer _),.pointer (some _),.pointer none=>some false
 | some (.pointer e),.pointer (some a),.pointer (some b)=>ptrEq P e a b H
 | some (.interface _),.nilIface,.nilIface=>if lit then some true else none
 | some (.interface _),.nilIface,.iface _ _=>some false
 | some (.interface _),.iface _ _,.nilIface=>some false
 | some (.interface _),.iface t u,.iface t' u'=>if t≠t' then some false else
     match P.info? t with
     | some i=>if i.comparable then
         (match P.underlying t,u,u' with
          | some (.pointer e),.pointer (some a),.pointer (some b)=>ptrEq P e a b H
          | _,_,_=>eqT P (d+1) t u u') else none
     | none=>none
 | some (.struct _),.agg _,.agg _=>if P.eqGuardType P.depth T then none else eqT P (d+2) T x y
 | some (.array _ _),.agg _,.agg _=>if P.eqGuardType P.depth T then none else eqT P (d+2) T x y
 | _,_,_=>none
def eqE (P:Program) (T:TypeId) (lit:Bool) (x y:Value) (H:Hp):Option Bool:=eqD P 9998 T lit x y H
theorem eqD_in {d:Nat} {T:TypeId} {lit:Bool} {x y:Value} {b:Bool} (h:eqD P d T lit x y w.heap=some b):(Op.equalIn (d+2) T x y).run P w=.ok b w:=by
 unfold eqD at h
 split at h
 · rename_i hu; injection h with h; subst h; rw [Op.equalIn]; simp [underlying,hu]
 · rename_i hu; injection h with h; subst h; rw [Op.equalIn]; simp [underlying,hu]
 · rename_i hu; exact ptrEq_ok (d:=d+1) hu h
 · rename_i hu
   split at h
   · injection h with h; subst h; rw [Op.equalIn]; simp [underlying,hu]
   · cases h
 · rename_i hu; injection h with h; subst h; rw [Op.equalIn]; simp [underlying,hu]
 · rename_i hu; injection h with h; subst h; rw [Op.equalIn]; simp [underlying,hu]
 · rename_i t u t' u' hu
   split at h
   · rename_i hne; injection h with h; subst h; rw [Op.equalIn]; simp [underlying,hu,hne]
   · rename_i heq
     have heq:t=t':=Classical.not_not.1 heq
     subst heq
     split at h
     · rename_i i hi
       split at h
       · rename_i hcmp
         have key:∀ {r},(Op.equalIn (d+1) t u u').run P w=.ok r w→(Op.equalIn (d+2) T (.iface t u) (.iface t u')).run P w=.ok r w:=by
           intro r hr
           rw [Op.equalIn]
           simp [underlying,hu,typeInfo,hi,hcmp,hr]
         split at h
         · rename_i hu2; exact key (ptrEq_ok (d:=d) hu2 h)
         · exact key (eqT_ok h)
       · cases h
     · cases h
 · split at h
   · cases h
   · exact eqT_ok h
 · split at h
   · cases h
   · exact eqT_ok h
 · cases h
theorem const_spec {x:Operand} (h:y7 x=true):∃ v,x=.const v:=by
 cases x <;> first | exact ⟨_,rfl⟩ | cases h
theorem eqGuard_lit {op:BinOp} {T:TypeId} {xo yo:Operand} (hl:(y7 xo || y7 yo)=true):(eqGuard op T xo yo .nilIface .nilIface).run P w=.ok () w:=by
 rw [Bool.or_eq_true] at hl
 rcases hl with h | h
 · obtain ⟨v,rfl⟩:=const_spec h
   cases op <;> rfl
 · obtain ⟨v,rfl⟩:=const_spec h
   unfold eqGuard
   cases op <;> first | rfl | (simp; done)
theorem eqD_guard {d:Nat} {op:BinOp} {T:TypeId} {lit:Bool} {xo yo:Operand} {x y:Value} {b:Bool} (hl:lit=true→(y7 xo || y7 yo)=true) (h:eqD P d T lit x y w.heap=some b):(eqGuard op T xo yo x y).run P w=.ok () w:=by
 unfold eqD at h
 split at h
 · exact Zi (by simp) (by simp)
 · exact Zi (by simp) (by simp)
 · exact Zi (by simp) (by simp)
 · split at h
   · rename_i hlit
     exact eqGuard_lit (hl hlit)
   · cases h
 · exact Zi (by simp) (by simp)
 · exact Zi (by simp) (by simp)
 · exact Zi (by simp) (by simp)
 · split at h
   · cases h
   · rename_i hg; exact run_eqGuard_agg w op T xo yo _ _ (by simpa using hg)
 · split at h
   · cases h
   · rename_i hg; exact run_eqGuard_agg w op T xo yo _ _ (by simpa using hg)
 · cases h
theorem stands_ext {H H':Hp} (hx:Ext H H') {a:Addr} (h:standsH H a=true):standsH H' a=true:=by
 obtain ⟨c,t,hh⟩:=stands_spec h
 unfold standsH
 have:=hx.at hh
 simp [this]
theorem ptrEq_ext {H H':Hp} (hx:Ext H H') {e:TypeId} {a b:Addr} {r:Bool} (h:ptrEq P e a b H=some r):ptrEq P e a b H'=some r:=by
 unfold ptrEq at h ⊢
 split at h
 · split at h
   · rename_i hab; rw [if_pos hab]; exact h
   · rename_i hab
     rw [if_neg hab]
     split at h
     · rename_i hc
       simp only [Bool.and_eq_true] at hc
       rw [if_pos (by simp only [Bool.and_eq_true]; exact ⟨⟨hc.1.1,stands_ext hx hc.1.2⟩,stands_ext hx hc.2⟩)]; exact h
     · cases h
 · cases h
theorem eqD_ext {H H':Hp} (hx:Ext H H') {d:Nat} {T:TypeId} {lit:Bool} {x y:Value} {b:Bool} (h:eqD P d T lit x y H=some b):eqD P d T lit x y H'=some b:=by
 unfold eqD at h ⊢
 split at h <;> try exact h
 · exact ptrEq_ext hx h
 · split at h
   · rename_i hne; rw [if_pos hne]; exact h
   · rename_i hne
     rw [if_neg hne]
     split at h
     · split at h
       · rename_i hcmp
         rw [if_pos hcmp]
         split at h
         · exact ptrEq_ext hx h
         · exact h
       · cases h
     · cases h
def yH (P:Program) (T:TypeId) (lit:Bool) (op:BinOp) (x y:Value) (H:Hp):Option Value:=
 match op with
 | .eql=>(eqE P T lit x y H).map .bool
 | .neq=>(eqE P T lit x y H).map fun b=>.bool (!b)
 | _=>none
theorem eqXE_ext {H H':Hp} (hx:Ext H H') {T:TypeId} {lit:Bool} {op:BinOp} {x y v:Value} (h:yH P T lit op x y H=some v):yH P T lit op x y H'=some v:=by
 unfold yH at h ⊢
 cases op <;> simp only at h ⊢ <;> first
   | (cases h; done)
   | (simp only [Option.map_eq_some_iff] at h
      obtain ⟨b,hb,rfl⟩:=h
      unfold eqE at hb ⊢; rw [eqD_ext hx hb]; rfl)
theorem not_plain {d:Nat} {T:TypeId} {lit:Bool} {x y:Value} {b:Bool} {H:Hp} (h:eqD P d T lit x y H=some b):binOp .eql T x y=(do pure (.bool (← Op.equal T x y)):Sem Value)∧binOp .neq T x y=(do pure (.bool (!(← Op.equal T x y))):Sem Value):=by
 unfold eqD at h
 split at h <;> first | exact ⟨rfl,rfl⟩ | cases h
theorem eqE_in {T:TypeId} {lit:Bool} {x y:Value} {b:Bool} (h:eqE P T lit x y w.heap=some b):(Op.equal T x y).run P w=.ok b w:=eqD_in (d:=9998) h
theorem eqXE_ok {op:BinOp} {T:TypeId} {lit:Bool} {xo yo:Operand} {x y v:Value} (hl:lit=true→(y7 xo || y7 yo)=true) (h:yH P T lit op x y w.heap=some v) :
   (do eqGuard op T xo yo x y; binOp op T x y:Sem Value).run P w=.ok v w:=by
 unfold yH at h
 cases op <;> simp only at h <;> first
   | (cases h; done)
   | (simp only [Option.map_eq_some_iff] at h
      obtain ⟨b,hb,rfl⟩:=h
      have h1:=eqE_in hb
      have h2:=not_plain hb
      simp only [Sem.run_bind]
      rw [eqD_guard hl hb]
      simp only [Result.andThen_ok]
      first | rw [h2.1] | rw [h2.2]
      simp [h1])
def hardT (td:Option TypeDesc):Bool:=match td with | some (.pointer _) | some (.interface _) | some (.struct _) | some (.array _ _)=>true | _=>false
end
end Go.Vc
