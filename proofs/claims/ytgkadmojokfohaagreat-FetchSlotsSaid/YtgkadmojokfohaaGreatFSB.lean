/- Parts of a proof, joined in build order: a calculus of contracts, contracts of functions. -/
import Derived.Test.YtgkadmojokfohaaGreatFSA
import Derived.Laws.Tables
import Derived.Laws.StructEq
set_option linter.unusedVariables false
set_option linter.unusedSimpArgs false
namespace Go.Vc
def YZ (H:Hp) (a:Addr):Option Value:=
 match H[a.block]? with
 | some (.cells c _ _)=>if a.spot.isSome then none else c[a.off]?
 | _=>none
def rowH (H:Hp) (a:Addr) (n:Nat):Option (Array Value):=
 match H[a.block]? with
 | some (.cells c _ _)=>if a.spot=none∧a.off+n≤c.size then some (c.extract a.off (a.off+n)) else none
 | _=>none
def zZ (c:Array Value) (off:Nat) (vs:Array Value):Array Value:=(c.toList.take off++(vs.toList++c.toList.drop (off+vs.size))).toArray
theorem zU {c:Array Value} {off:Nat} {vs:Array Value} (h:off+vs.size≤c.size) (j:Nat) :
   (zZ c off vs)[j]?=if j<off then c[j]? else if j<off+vs.size then vs[j - off]? else c[j]?:=by
 simp only [zZ,List.getElem?_toArray,List.getElem?_append,List.length_take,Array.length_toList,List.getElem?_take,List.getElem?_drop,Array.getElem?_toList]
 have hm:min off c.size=off:=by omega
 rw [hm]
 by_cases h1:j<off
 · simp [h1]
 · by_cases h2:j<off+vs.size
   · have h3:j - off<vs.size:=by omega
     simp [h1,h2,h3]
   · have h3:¬ j - off<vs.size:=by omega
     have h4:off+vs.size+(j - off - vs.size)=j:=by omega
     simp [h1,h2,h3,h4]
theorem z7 {c:Array Value} {off:Nat} {vs:Array Value} (h:off+vs.size≤c.size):(zZ c off vs).size=c.size:=by
 simp [zZ]; omega
def putH (H:Hp) (a:Addr) (vs:Array Value):Option Hp:=
 match H[a.block]? with
 | some (.cells c T (0,0))=>if a.spot=none∧a.off+vs.size≤c.size∧(vs.all fun v=>v.oneCell')=true then some (H.setIfInBounds a.block (.cells (zZ c a.off vs) T (0,0))) else none
 | _=>none
theorem ZH {H:Hp} {b:Nat} {o:Obj} (hb:H[b]?=some o):b<H.size:=by
 rcases Nat.lt_or_ge b H.size with h | h
 · exact h
 · rw [Array.getElem?_eq_none h] at hb; cases hb
theorem setIf_self {H:Hp} {b:Nat} {o:Obj} (hb:H[b]?=some o):H.setIfInBounds b o=H:=by
 have hlt:=ZH hb
 apply Array.ext_getElem?
 intro j
 rw [Array.getElem?_setIfInBounds]
 split
 · rename_i h; subst h; rw [hb]; try simp [hlt]
 · rfl
theorem setIf_twice (H:Hp) (b:Nat) (o o':Obj):(H.setIfInBounds b o).setIfInBounds b o'=H.setIfInBounds b o':=by
 apply Array.ext_getElem?
 intro j
 simp only [Array.getElem?_setIfInBounds,Array.size_setIfInBounds]
 split <;> rfl
theorem cell?_eq (w:World) (a:Addr):w.cell? a=YZ w.heap a:=rfl
theorem Addr.add_block (a:Addr) (n:Nat):(a.add n).block=a.block:=by unfold Addr.add; split <;> rfl
theorem Addr.add_off (a:Addr) (n:Nat):(a.add n).off=a.off+n:=by unfold Addr.add; split <;> simp_all
theorem Addr.add_spot (a:Addr) (n:Nat) (h:a.spot=none):(a.add n).spot=none:=by unfold Addr.add; split <;> simp_all
theorem Addr.add_mk (b o n:Nat):Addr.add ⟨b,o,none⟩ n=⟨b,o+n,none⟩:=by unfold Addr.add; split <;> simp_all
theorem cellH_row {H:Hp} {a:Addr} {n:Nat} {cs:Array Value} (h:rowH H a n=some cs):cs.size=n∧∀ j,j<n→YZ H (a.add j)=cs[j]?:=by
 unfold rowH at h
 split at h
 · rename_i c T fr hb
   split at h
   · rename_i hc
     injection h with h; subst h
     refine ⟨by simp; omega,fun j hj=>?_⟩
     unfold YZ
     rw [Addr.add_block,hb]
     simp only [Addr.add_off,Addr.add_spot a j hc.1]
     simp [Array.getElem?_extract]
     omega
   · cases h
 · cases h
theorem loadCellsFrom_ok {P:Program} {w:World} {a:Addr} (cs:Array Value) (n:Nat):∀ (k i:Nat) (acc:Array Value),i+k=n→(∀ j,j<n→w.cell? (a.add j)=cs[j]?)→cs.size=n →
   (loadCellsFrom a i k acc).run P w=.ok (acc++cs.extract i n) w
 | 0,i,acc,hi,_,hs=>by
   have:cs.extract i n=#[]:=by apply Array.eq_empty_of_size_eq_zero; simp; omega
   simp [loadCellsFrom,this]
 | k+1,i,acc,hi,hc,hs=>by
   have hlt:i<cs.size:=by omega
   have h1:=hc i (by omega)
   rw [Array.getElem?_eq_getElem hlt] at h1
   have ih:=loadCellsFrom_ok (P:=P) cs n k (i+1) (acc.push cs[i]) (by omega) hc hs
   simp only [loadCellsFrom,Sem.run_bind,run_load,h1,Result.andThen_ok]
   rw [ih]
   congr 1
   apply Array.ext'
   simp [List.extract_eq_take_drop]
   have hd:=List.drop_eq_getElem_cons (l:=cs.toList) (i:=i) (by simpa using hlt)
   rw [hd,show n - i=(n - (i+1))+1 by omega,List.take_succ_cons]
   simp
theorem Yk {P:Program} {w:World} {a:Addr} {n:Nat} {cs:Array Value} (h:rowH w.heap a n=some cs):(loadCells a n).run P w=.ok cs w:=by
 obtain ⟨hs,hc⟩:=cellH_row h
 unfold loadCells
 rw [loadCellsFrom_ok cs n n 0 #[] (by omega) hc hs]
 simp [← hs]
def ldK (P:Program) (T:TypeId):Option (Option Nat):=
 match P.underlying T with
 | some (.struct _) | some (.array ..)=>(P.info? T).map fun i=>some i.size
 | some _=>some none
 | none=>none
def zb (k:Option (Option Nat)) (p:Value) (H:Hp):Option Value:=
 match k,p with
 | some none,.pointer (some a)=>YZ H a
 | some (some n),.pointer (some a)=>(rowH H a n).map .agg
 | _,_=>none
theorem loadVar_ok {P:Program} {T:TypeId} {a:Addr} {w:World} {v:Value} (h:zb (ldK P T) (.pointer (some a)) w.heap=some v):(loadVar T a).run P w=.ok v w:=by
 unfold loadVar isAgg underlying
 unfold ldK at h
 cases hu:P.underlying T with
 | none=>rw [hu] at h; simp [zb] at h
 | some d=>
   rw [hu] at h
   have one:∀ {x:Option Value},x=some v→w.cell? a=x→(load a).run P w=.ok v w:=fun h1 h2=>by simp [h2,h1]
   cases d <;> simp only [zb] at h <;> first
     | (simp only [Sem.run_bind,run_program,Result.andThen_ok,hu,Sem.run_pure]; simp; rw [cell?_eq,h]; done)
     | (cases hi:P.info? T with
       | none=>rw [hi] at h; simp at h
       | some i=>
         rw [hi] at h
         simp only [Option.map_some,Option.map_eq_some_iff] at h
         obtain ⟨cs,h1,rfl⟩:=h
         simp only [Sem.run_bind,run_program,Result.andThen_ok,hu,Sem.run_pure]
         simp [sizeOf,typeInfo,hi,Yk h1])
theorem setCell_heap (w:World) (a:Addr) (v:Value) (c:Array Value) (T:TypeId) (fr:Nat × Nat) (hb:w.heap[a.block]?=some (.cells c T fr)) (hs:a.spot=none) :
   (w.setCell a v).heap=w.heap.setIfInBounds a.block (.cells (c.setIfInBounds a.off v) T fr):=by
 have hlt:=ZH hb
 apply Array.ext_getElem?
 intro j
 simp only [World.setCell,Array.getElem?_modify,Array.getElem?_setIfInBounds]
 by_cases hi:a.block=j
 · subst hi; rw [hb]; simp [hs,hlt]
 · simp [hi]
theorem storeCells_ok {P:Program} (a:Addr) (T:TypeId) (hsp:a.spot=none):∀ (vs:List Value) (i:Nat) (c:Array Value) (w:World),w.heap[a.block]?=some (.cells c T (0,0))→a.off+i+vs.length≤c.size →
   (∀ v∈vs,v.oneCell'=true)→∃ w',(storeCells a vs i).run P w=.ok () w'∧Sm w w'∧w'.heap=w.heap.setIfInBounds a.block (.cells (zZ c (a.off+i) vs.toArray) T (0,0))
 | [],i,c,w,hb,hl,_=>by
   refine ⟨w,by simp [storeCells],Sm.refl w,?_⟩
   have hsp2:zZ c (a.off+i) (List.toArray [])=c:=by
     apply Array.ext_getElem?; intro j
     rw [zU (by simpa using hl)]
     simp
     intro h1 h2; omega
   rw [hsp2,setIf_self hb]
 | v :: vs,i,c,w,hb,hl,hv=>by
   have hc:w.cell? (a.add i)=c[a.off+i]?:=by
     simp only [World.cell?,Addr.add_block,hb,Addr.add_spot a i hsp,Addr.add_off]; simp
   simp only [List.length_cons] at hl
   have hlt:a.off+i<c.size:=by omega
   rw [Array.getElem?_eq_getElem hlt] at hc
   have hf:w.frozen? (a.add i)=false:=by simp [World.frozen?,Addr.add_block,hb]
   have hheap:=setCell_heap w (a.add i) v c T (0,0) (by rw [Addr.add_block]; exact hb) (Addr.add_spot a i hsp)
   rw [Addr.add_block,Addr.add_off] at hheap
   have hblt:=ZH hb
   have hb':(w.setCell (a.add i) v).heap[a.block]?=some (.cells (c.setIfInBounds (a.off+i) v) T (0,0)):=by
     rw [hheap,Array.getElem?_setIfInBounds]; simp [hblt]
   obtain ⟨w',h1,h2,h3⟩:=storeCells_ok (P:=P) a T hsp vs (i+1) (c.setIfInBounds (a.off+i) v) (w.setCell (a.add i) v) hb' (by simp; omega) (fun u hu=>hv u (List.mem_cons_of_mem _ hu))
   refine ⟨w',?_,⟨h2.os,h2.out,h2.tape⟩,?_⟩
   · rw [storeCells,Sem.run_bind]
     have:=run_store P w (a.add i) v .plain (hv v List.mem_cons_self)
     rw [this]
     simp [hc,hf,h1]
   · rw [h3,hheap,setIf_twice]
     congr 2
     apply Array.ext_getElem?; intro j
     rw [zU (by simp; omega),zU (by simp; omega)]
     simp only [Array.getElem?_setIfInBounds,List.size_toArray,List.length_cons,List.getElem?_toArray]
     by_cases h1:j<a.off+i
     · have:j<a.off+(i+1):=by omega
       have h3:a.off+i≠j:=by omega
       simp [h1,this,h3]
     · by_cases h2:j=a.off+i
       · subst h2
         have h4:a.off+i<a.off+(i+1):=by omega
         simp [h4,hlt]
       · have h3:¬ j<a.off+(i+1):=by omega
         have h4:a.off+i≠j:=by omega
         by_cases h5:j<a.off+(i+1)+vs.length
         · have h6:j<a.off+i+(vs.length+1):=by omega
           have h7:j - (a.off+i)=(j - (a.off+(i+1)))+1:=by omega
           simp [h1,h3,h5,h6,h7]
         · have h6:¬ j<a.off+i+(vs.length+1):=by omega
           simp [h1,h3,h4,h5,h6]
def bitsE (op:BinOp) (k:IntKind) (a b:Int):Int:=
 let x:=BitVec.ofInt k.bits a
 let y:=BitVec.ofInt k.bits b
 k.wrap ((match op with | .and=>x &&& y | .or=>x ||| y | .xor=>x ^^^ y | _=>x &&& ~~~y).toNat)
def binI (op:BinOp) (k:IntKind) (a b:Int):Option Value:=
 match op with
 | .add=>some (.int k (k.wrap (a+b)))
 | .sub=>some (.int k (k.wrap (a - b)))
 | .mul=>some (.int k (k.wrap (a*b)))
 | .quo=>if b=0 then none else some (.int k (k.wrap (a.tdiv b)))
 | .rem=>if b=0 then none else some (.int k (a.tmod b))
 | .and=>some (.int k (bitsE .and k a b))
 | .or=>some (.int k (bitsE .or k a b))
 | .xor=>some (.int k (bitsE .xor k a b))
 | .andNot=>some (.int k (bitsE .andNot k a b))
 | .eql=>some (.bool (a == b))
 | .neq=>some (.bool (a != b))
 | .lss=>some (.bool (a<b))
 | .leq=>some (.bool (a≤b))
 | .gtr=>some (.bool (a > b))
 | .geq=>some (.bool (a ≥ b))
 | .shl=>if b<0 then none else some (.int k (k.wrap (a*2 ^ (min b.toNat k.bits))))
 | .shr=>if b<0 then none else some (.int k (a.fdiv (2 ^ (min b.toNat k.bits))))
def isShift:BinOp→Bool
 | .shl | .shr=>true
 | _=>false
def strE (op:BinOp) (x y:ByteArray):Option Value:=
 match op with
 | .add=>if ((x.size+y.size:Nat):Int) > IntKind.i64.max then none else some (.string (x++y))
 | .eql=>some (.bool (x.toList == y.toList))
 | .neq=>some (.bool !(x.toList == y.toList))
 | .lss=>some (.bool (Op.bytesLess x.toList y.toList))
 | .leq=>some (.bool (Op.bytesLess x.toList y.toList || x.toList == y.toList))
 | .gtr=>some (.bool !(Op.bytesLess x.toList y.toList || x.toList == y.toList))
 | .geq=>some (.bool !(Op.bytesLess x.toList y.toList))
 | _=>none
def nilE (td:Option TypeDesc) (x y:Value):Option Bool:=
 match td,x,y with
 | some (.pointer _),.pointer none,.pointer b=>some b.isNone
 | some (.pointer _),.pointer (some _),.pointer none=>some false
 | some (.slice _),.slice none _ _,.slice b _ _=>some b.isNone
 | some (.slice _),.slice (some _) _ _,.slice none _ _=>some false
 | some (.map _ _),.map none,.map b=>some b.isNone
 | some (.map _ _),.map (some _),.map none=>some false
 | some (.func _ _ _),.nilFunc,.nilFunc=>some true
 | some (.func _ _ _),.nilFunc,.func _ _ _=>some false
 | some (.func _ _ _),.func _ _ _,.nilFunc=>some false
 | some .bool,.bool a,.bool b=>some (a == b)
 | _,_,_=>none
def zo (td:Option TypeDesc) (op:BinOp) (x y:Value):Option Value:=
 match x,y with
 | .int k a,.int k' b=>if isShift op || k == k' then binI op k a b else none
 | .string a,.string b=>strE op a b
 | _,_=>
   match op with
   | .eql=>(nilE td x y).map .bool
   | .neq=>(nilE td x y).map fun b=>.bool (!b)
   | _=>none
section
variable {P:Program} {w:World}
theorem Zi {op:BinOp} {t:TypeId} {x y:Operand} {a b:Value} (h:∀ xs ys,¬ (a=.agg xs∧b=.agg ys)) (h':¬ (a=.nilIface∧b=.nilIface)):(eqGuard op t x y a b).run P w=.ok () w:=by
 unfold eqGuard
 cases op <;> simp <;> (split <;> simp_all)
theorem binI_ok {op:BinOp} {T:TypeId} {k k':IntKind} {a b:Int} {v:Value} (hk:(isShift op || k == k')=true) (h:binI op k a b=some v):(binOp op T (.int k a) (.int k' b)).run P w=.ok v w:=by
 cases op <;> simp only [binI,isShift,Bool.false_or,beq_iff_eq,Option.some.injEq,Bool.true_or] at h hk <;> (try subst hk) <;>
   first
     | (subst h; simp [binOp,Op.intArith,Op.intBits,Op.intCmp,bitsE]; done)
     | (split at h
        · cases h
        · injection h with h; subst h; rename_i hb; simp [binOp,Op.intDiv,Op.shift,hb])
theorem strE_ok {op:BinOp} {T:TypeId} {a b:ByteArray} {v:Value} (h:strE op a b=some v):(binOp op T (.string a) (.string b)).run P w=.ok v w:=by
 cases op <;> simp only [strE,Option.some.injEq] at h <;>
   first
     | (cases h; done)
     | (subst h; simp [binOp,Op.stringOp]; done)
     | (split at h
        · cases h
        · injection h with h; subst h; rename_i hb; simp only [binOp,Op.stringOp]; rw [if_neg hb]; rfl)
theorem nilE_in {d:Nat} {T:TypeId} {x y:Value} {b:Bool} (h:nilE (P.underlying T) x y=some b):(Op.equalIn (d+1) T x y).run P w=.ok b w:=by
 unfold nilE at h
 split at h <;> first
   | (cases h; done)
   | (rename_i hu; injection h with h; subst h; simp [Op.equalIn,underlying,hu]; done)
theorem nilE_ok {T:TypeId} {x y:Value} {b:Bool} (h:nilE (P.underlying T) x y=some b):(Op.equal T x y).run P w=.ok b w:=nilE_in (d:=9999) h
theorem nilE_plain {td:Option TypeDesc} {x y:Value} {b:Bool} (h:nilE td x y=some b):(∀ xs ys,¬ (x=.agg xs∧y=.agg ys))∧¬ (x=.nilIface∧y=.nilIface):=by
 unfold nilE at h
 split at h <;> first | (cases h; done) | exact ⟨by simp,by simp⟩
theorem binE_ok {op:BinOp} {T:TypeId} {xo yo:Operand} {x y v:Value} (h:zo (P.underlying T) op x y=some v) :
   (do eqGuard op T xo yo x y; binOp op T x y:Sem Value).run P w=.ok v w:=by
 unfold zo at h
 split at h
 · rename_i k a k' b
   split at h
   · rename_i hk
     simp only [Sem.run_bind]; rw [Zi (by simp) (by simp)]; simp only [Result.andThen_ok]; exact binI_ok hk h
   · cases h
 · simp only [Sem.run_bind]; rw [Zi (by simp) (by simp)]; simp only [Result.andThen_ok]; exact strE_ok h
 · split at h
   · simp only [Option.map_eq_some_iff] at h
     obtain ⟨b,hb,rfl⟩:=h
     have hn:=nilE_ok (w:=w) hb
     have hp:=nilE_plain hb
     simp only [Sem.run_bind]; rw [Zi hp.1 hp.2]; simp only [Result.andThen_ok]
     have:binOp .eql T x y=(do pure (.bool (← Op.equal T x y)):Sem Value):=by
       unfold nilE at hb
       split at hb <;> first | rfl | (cases hb; done)
     rw [this]; simp [hn]
   · simp only [Option.map_eq_some_iff] at h
     obtain ⟨b,hb,rfl⟩:=h
     have hn:=nilE_ok (w:=w) hb
     have hp:=nilE_plain hb
     simp only [Sem.run_bind]; rw [Zi hp.1 hp.2]; simp only [Result.andThen_ok]
     have:binOp .neq T x y=(do pure (.bool (!(← Op.equal T x y))):Sem Value):=by
       unfold nilE at hb
       split at hb <;> first | rfl | (cases hb; done)
     rw [this]; simp [hn]
   · cases h
end
def unE (op:UnOp) (x:Value):Option Value:=
 match op,x with
 | .not,.bool b=>some (.bool !b)
 | .neg,.int k n=>some (.int k (k.wrap (0 - n)))
 | .xor,.int k n=>some (.int k (bitsE .xor k (if k.signed then -1 else k.max) n))
 | _,_=>none
theorem unE_ok {P:Program} {w:World} {op:UnOp} {x v:Value} (h:unE op x=some v):(Op.unary op x).run P w=.ok v w:=by
 unfold unE at h
 split at h <;> first | (cases h; done) | (injection h with h; subst h; simp [Op.unary,Op.intArith,Op.intBits,bitsE]; done)
def z9 (s d:Option TypeDesc) (x:Value):Option Value:=
 match s,d,x with
 | some (.int _),some (.int k),.int _ n=>some (.int k (k.wrap n))
 | some .string,some .string,.string b=>some (.string b)
 | _,_,_=>none
theorem convE_ok {P:Program} {w:World} {S D:TypeId} {x v:Value} (h:z9 (P.underlying S) (P.underlying D) x=some v):(convert S D x).run P w=.ok v w:=by
 unfold z9 at h
 split at h <;> first | (cases h; done) | (rename_i h1 h2; injection h with h; subst h; simp [convert,underlying,h1,h2,Conv.intToInt]; done)
def fieldO (P:Program) (S:TypeId) (f:Nat):Option Nat:=
 match P.underlying S with
 | some (.struct fields)=>
   match fields[f]? with
   | some fd=>match P.info? fd.type with
     | some i=>if i.size=0 then none else some fd.offset
     | none=>none
   | none=>none
 | _=>none
def zd (off:Option Nat) (x:Value):Option Value:=
 match off,x with
 | some o,.pointer (some a)=>some (.pointer (some (a.add o)))
 | _,_=>none
theorem fieldAt_ok {P:Program} {w:World} {S:TypeId} {x v:Value} {f:Nat} (h:zd (fieldO P S f) x=some v):(Instr.fieldAt S x f).run P w=.ok v w:=by
 unfold zd at h
 split at h
 · rename_i o a ho
   injection h with h; subst h
   unfold fieldO at ho
   split at ho
   · rename_i fields hu
     split at ho
     · rename_i fd hf
       split at ho
       · rename_i i hi
         split at ho
         · cases ho
         · rename_i hz
           injection ho with ho; subst ho
           simp [Instr.fieldAt,underlying,hu,hf,Instr.sureAddr,fieldPlace,sizeOf,typeInfo,hi,hz]
       · cases ho
     · cases ho
   · cases ho
 · cases h
def idxK (P:Program) (T:TypeId):Option (Option Nat × Nat):=
 match P.underlying T with
 | some (.array n e)=>(P.info? e).map fun i=>(some n,i.size)
 | some (.slice e)=>(P.info? e).map fun i=>(none,i.size)
 | _=>none
def zh (k:Option (Option Nat × Nat)) (x i:Value):Option Value:=
 match k,x,i with
 | some (some n,s),.pointer (some a),.int _ j=>if 0≤j∧j<n then some (.pointer (some (a.add (j.toNat*s)))) else none
 | some (none,s),.slice (some a) n _,.int _ j=>if 0≤j∧j<n then some (.pointer (some (a.add (j.toNat*s)))) else none
 | _,_,_=>none
def arrK (P:Program) (T:TypeId):Option Nat:=
 match P.underlying T with
 | some (.array n _)=>some n
 | _=>none
def arrE (n:Option Nat) (x:Value):Option Value:=
 match n,x with
 | some n,.slice (some a) l _=>if n≤l then some (.pointer (some a)) else none
 | _,_=>none
theorem arrayAt_ok {P:Program} {w:World} {T:TypeId} {x v:Value} (h:arrE (arrK P T) x=some v):(Instr.arrayAt T x).run P w=.ok v w:=by
 unfold arrE at h
 split at h
 · rename_i n a l c hk
   split at h
   · rename_i hl
     injection h with h; subst h
     unfold arrK at hk
     split at hk
     · rename_i m e hu
       injection hk with hk; subst hk
       have:¬ l<m:=by omega
       simp [Instr.arrayAt,underlying,hu,this]
     · cases hk
   · cases h
 · cases h
theorem indexAt_ok {P:Program} {w:World} {T:TypeId} {x i v:Value} (h:zh (idxK P T) x i=some v):(Instr.indexAt T x i).run P w=.ok v w:=by
 unfold zh at h
 split at h
 · rename_i n s a k j hk
   split at h
   · rename_i hj
     injection h with h; subst h
     unfold idxK at hk
     split at hk
     · rename_i m e hu
       simp only [Option.map_eq_some_iff,Prod.mk.injEq,Option.some.injEq] at hk
       obtain ⟨i,hi,rfl,rfl⟩:=hk
       simp [Instr.indexAt,asIntOf,underlying,hu,Instr.sureAddr,sizeOf,typeInfo,hi,hj]
     · simp at hk
     · cases hk
   · cases h
 · rename_i s a n c k j hk
   split at h
   · rename_i hj
     injection h with h; subst h
     unfold idxK at hk
     split at hk
     · simp at hk
     · rename_i e hu
       simp only [Option.map_eq_some_iff,Prod.mk.injEq,true_and] at hk
       obtain ⟨i,hi,rfl⟩:=hk
       simp [Instr.indexAt,asIntOf,underlying,hu,sizeOf,typeInfo,hi,hj]
     · cases hk
   · cases h
 · cases h
def idxE (P:Program) (T:TypeId) (x i:Value):Option Value:=
 match P.underlying T,x,i with
 | some .string,.string s,.int _ j=>if 0≤j then (s[j.toNat]?).map fun b=>.int .u8 b.toNat else none
 | some (.array n e),.agg cs,.int _ j=>if 0≤j∧j<n then
     (match ldK P e with
      | some none=>match P.info? e with | some i=>cs[j.toNat*i.size]? | none=>none
      | some (some s)=>some (.agg (cs.extract (j.toNat*s) (j.toNat*s+s)))
      | none=>none) else none
 | _,_,_=>none
def yK (k:Option (Option Nat)) (cs:Array Value) (off:Nat):Option Value:=
 match k with
 | some none=>cs[off]?
 | some (some s)=>some (.agg (cs.extract off (off+s)))
 | none=>none
theorem part_ok {P:Program} {w:World} {T:TypeId} {cs:Array Value} {off:Nat} {v:Value} (h:yK (ldK P T) cs off=some v):(part T cs off).run P w=.ok v w:=by
 unfold part isAgg underlying
 unfold ldK at h
 cases hu:P.underlying T with
 | none=>rw [hu] at h; simp [yK] at h
 | some d=>
   rw [hu] at h
   cases d <;> simp only [yK] at h <;> first
     | (simp only [Sem.run_bind,run_program,Result.andThen_ok,hu,Sem.run_pure]; simp [h]; done)
     | (cases hi:P.info? T with
       | none=>rw [hi] at h; simp at h
       | some i=>
         rw [hi] at h
         simp only [Option.map_some,Option.some.injEq] at h
         subst h
         simp only [Sem.run_bind,run_program,Result.andThen_ok,hu,Sem.run_pure]
         simp [sizeOf,typeInfo,hi])
theorem index_ok {P:Program} {w:World} {T:TypeId} {x i v:Value} (h:idxE P T x i=some v):(Instr.index T x i).run P w=.ok v w:=by
 unfold idxE at h
 split at h
 · rename_i s k j hu
   split at h
   · rename_i hj
     simp only [Option.map_eq_some_iff] at h
     obtain ⟨b,hb,rfl⟩:=h
     simp [Instr.index,asIntOf,underlying,hu,hj,hb]
   · cases h
 · rename_i n e cs k j hu
   split at h
   · rename_i hj
     have key:∃ i,P.info? e=some i∧yK (ldK P e) cs (j.toNat*i.size)=some v:=by
       cases hi:P.info? e with
       | none=>
         exfalso
         have:P.underlying e=none:=by simp [Program.underlying,hi]
         simp [ldK,this] at h
       | some i=>
         refine ⟨i,rfl,?_⟩
         cases hl:ldK P e with
         | none=>simp [hl] at h
         | some o=>
           cases o with
           | none=>simpa [hl,hi,yK] using h
           | some s=>
             have:s=i.size:=by
               unfold ldK at hl
               split at hl <;> simp_all
             subst this
             simpa [hl,yK] using h
     obtain ⟨i,hi,hp⟩:=key
     simp [Instr.index,asIntOf,underlying,hu,hj,sizeOf,typeInfo,hi,part_ok hp]
   · cases h
 · cases h
def fieldE (P:Program) (S:TypeId) (x:Value) (f:Nat):Option Value:=
 match P.underlying S,x with
 | some (.struct fields),.agg cs=>match fields[f]? with
   | some fd=>yK (ldK P fd.type) cs fd.offset
   | none=>none
 | _,_=>none
theorem field_ok {P:Program} {w:World} {S:TypeId} {x v:Value} {f:Nat} (h:fieldE P S x f=some v):(Instr.field S x f).run P w=.ok v w:=by
 unfold fieldE at h
 split at h
 · rename_i fields cs hu
   split at h
   · rename_i fd hf
     simp [Instr.field,underlying,hu,hf,asAgg,part_ok h]
   · cases h
 · cases h
def ze (t:Value) (i:Nat):Option Value:=
 match t with
 | .tuple vs=>vs[i]?
 | _=>none
theorem extract_ok {P:Program} {w:World} {t v:Value} {i:Nat} (h:ze t i=some v):(Instr.extract t i).run P w=.ok v w:=by
 unfold ze at h
 split at h
 · simp [Instr.extract,h]
 · cases h
def zc (x:Value):Option Value:=
 match x with
 | .pointer (some a)=>some (.pointer (some a))
 | .slice a n c=>some (.slice a n c)
 | .map r=>some (.map r)
 | .func (.func f) a b=>some (.func (.func f) a b)
 | .func (.yield f) a b=>some (.func (.yield f) a b)
 | _=>none
def lenE (P:Program) (T:TypeId) (x:Value):Option Value:=
 match P.underlying T,x with
 | some .string,.string s=>some (goInt s.size)
 | some (.array n _),_=>some (goInt n)
 | some (.slice _),.slice _ n _=>some (goInt n)
 | some (.pointer a),_=>match P.underlying a with | some (.array n _)=>some (goInt n) | _=>none
 | _,_=>none
theorem len_ok {P:Program} {w:World} {T R:TypeId} {x v:Value} (h:lenE P T x=some v):(Builtin.len_ #[T] R #[x]).run P w=.ok v w:=by
 unfold lenE at h
 split at h <;> (try (cases h; done)) <;> (try (rename_i hu; injection h with h; subst h; simp [Builtin.len_,underlying,hu]; done))
 rename_i hu
 split at h
 · rename_i h2; injection h with h; subst h; simp [Builtin.len_,underlying,hu,h2]
 · cases h
def minE (x y:Value):Option Value:=match x,y with | .int k a,.int _ b=>some (.int k (if b<a then b else a)) | _,_=>none
def maxE (x y:Value):Option Value:=match x,y with | .int k a,.int _ b=>some (.int k (if b > a then b else a)) | _,_=>none
theorem min_ok {P:Program} {w:World} {ts:Array TypeId} {T:TypeId} {x y v:Value} (h:minE x y=some v):(Builtin.min_ ts T #[x,y]).run P w=.ok v w:=by
 unfold minE at h
 split at h
 · injection h with h; subst h; simp [Builtin.min_,Builtin.min2]
 · cases h
theorem max_ok {P:Program} {w:World} {ts:Array TypeId} {T:TypeId} {x y v:Value} (h:maxE x y=some v):(Builtin.max_ ts T #[x,y]).run P w=.ok v w:=by
 unfold maxE at h
 split at h
 · injection h with h; subst h; simp [Builtin.max_,Builtin.max2]
 · cases h
def zu (P:Program) (T:TypeId) (parts:List (Nat × Value)):Option Value:=(P.built T parts).map .agg
def Zf (x:Option Value) (d y:Nat):Option Nat:=
 match x with
 | none=>some d
 | some (.int _ i)=>if 0≤i∧i≤y then some i.toNat else none
 | _=>none
def hiE (mx hi:Option Value) (n m:Nat):Option Nat:=
 match mx,hi with
 | some _,none=>none
 | _,_=>Zf hi n m
def ZO (P:Program) (T:TypeId) (x:Value) (lo hi mx:Option Value):Option Value:=
 match P.underlying T,x with
 | some (.slice e),.slice a n c=>
   (Zf mx c c).bind fun m=>(hiE mx hi n m).bind fun h=>(Zf lo 0 h).bind fun l=>(P.info? e).map fun i=>
     .slice (if m=l then a else a.map (·.add (l*i.size))) (h - l) (m - l)
 | some (.array n e),.pointer (some a)=>
   (Zf mx n n).bind fun m=>(hiE mx hi n m).bind fun h=>(Zf lo 0 h).bind fun l=>(P.info? e).map fun i=>
     .slice (some (if m=l then a else a.add (l*i.size))) (h - l) (m - l)
 | some .string,.string s=>match mx with
   | none=>(Zf hi s.size s.size).bind fun h=>(Zf lo 0 h).map fun l=>.string (s.extract l h)
   | _=>none
 | _,_=>none
inductive Pu {α:Type} (e:Option α) (K:α→Prop):Prop
 | mk (v:α) (he:e=some v) (hk:K v)
def Ite (c:Value) (A B:Prop):Prop:=
 match c with
 | .bool true=>A
 | .bool false=>B
 | _=>False
def ForX (q:Bool) (H:Hp) (K:Hp→Prop):Prop:=
 match q with
 | true=>∀ H',Ext H H'→K H'
 | false=>K H
def QC (q:Bool) (P:Program) (f:FuncId) (args:Array Value) (H:Hp) (v:Value):Prop:=
 ∀ H',Ex q H H'→Fc P f args H' fun u H''=>u=v∧Ex q H' H''
def Yld (P:Program) (l:Nat) (args:Array Value) (H:Hp) (K:Value→Hp→Prop):Prop:=
 match H[l]? with
 | some (.loop r)=>args.size=r.params.size∧Rnd P l r.fn ((r.params.zip args).foldl (fun tmps (t,a)=>tmps.setIfInBounds t a) r.tmps) r.assign r.body H K
 | _=>False
def enterB (P:Program) (f:FuncId):Bool:=
 match P.funcs[f]? with
 | some fn=>!(fn.name == "runtime.NumGoroutine") && fn.body.isSome
 | none=>false
def CallV (P:Program) (y:Value) (args:Array Value) (H:Hp) (K:Value→Hp→Prop):Prop:=
 match y with
 | .func (.func f) first cap=>enterB P f=true∧Fc P f (((first.toList++args.toList)++cap.toList).toArray) H K
 | .func (.yield l) first _=>Yld P l ((first.toList++args.toList).toArray) H K
 | _=>False
theorem za {α:Type} {v:α} {K:α→Prop}:Pu (some v) K=K v:=by
 apply propext
 exact ⟨fun h=>(by obtain ⟨u,hu,hk⟩:=h; injection hu with hu; subst hu; exact hk),fun h=>⟨v,rfl,h⟩⟩
theorem Pu.get {α:Type} {e:Option α} {K:α→Prop} (h:Pu e K):∃ v,e=some v∧K v:=by
 obtain ⟨v,he,h⟩:=h; exact ⟨v,he,h⟩
theorem ForX.ex {q:Bool} {H H':Hp} {K:Hp→Prop} (h:ForX q H K) (hx:Ex q H H'):K H':=by
 cases q
 · cases hx; exact h
 · exact h H' hx
theorem loadE_ext {k:Option (Option Nat)} {p v:Value} {H H':Hp} (hx:Ext H H') (h:zb k p H=some v):zb k p H'=some v:=by
 unfold zb at *
 split at h
 · rename_i a
   unfold YZ at *
   split at h
   · rename_i c T fr hb; simp only [hx.at hb]; exact h
   · cases h
 · rename_i n a
   simp only [Option.map_eq_some_iff] at *
   obtain ⟨cs,h1,h2⟩:=h
   refine ⟨cs,?_,h2⟩
   unfold rowH at *
   split at h1
   · rename_i c T fr hb; simp only [hx.at hb]; exact h1
   · cases h1
 · cases h
def szOf (P:Program) (T:TypeId):Option Nat:=(P.info? T).map fun i=>i.size
def zj (n:Option Nat) (p v:Value) (H:Hp):Option Hp:=
 match p with
 | .pointer (some a)=>if n=some v.cells.size then putH H a v.cells else none
 | _=>none
def zD (P:Program) (T:TypeId):Option Value:=(P.info? T).bind fun i=>i.zero
theorem putH_ok {P:Program} {a:Addr} {vs:Array Value} {w:World} {H':Hp} (h:putH w.heap a vs=some H'):∃ w',(storeCells a vs.toList).run P w=.ok () w'∧Sm w w'∧w'.heap=H':=by
 unfold putH at h
 split at h
 · rename_i c U hb
   split at h
   · rename_i hc
     injection h with h
     have hall:∀ u∈vs.toList,u.oneCell'=true:=fun u hu=>(Array.all_eq_true'.1 hc.2.2) u (by simpa using hu)
     obtain ⟨w',h1,h2,h3⟩:=storeCells_ok (P:=P) a U hc.1 vs.toList 0 c w hb (by simp; omega) hall
     exact ⟨w',h1,h2,by rw [h3,← h]; simp⟩
   · cases h
 · cases h
theorem storeVar_ok {P:Program} {T:TypeId} {a:Addr} {w:World} {v:Value} {H':Hp} (h:zj (szOf P T) (.pointer (some a)) v w.heap=some H'):∃ w',(storeVar T a v).run P w=.ok () w'∧Sm w w'∧w'.heap=H':=by
 unfold zj szOf at h
 simp only at h
 split at h
 · rename_i hs
   obtain ⟨w',h1,h2,h3⟩:=putH_ok (P:=P) h
   refine ⟨w',?_,h2,h3⟩
   simp only [Option.map_eq_some_iff] at hs
   obtain ⟨i,hi,hz⟩:=hs
   simp [storeVar,sizeOf,typeInfo,hi,← hz,h1]
 · cases h
def cellsS (es:Nat) (s:Value) (H:Hp):Option (Array Value):=
 match s with
 | .slice (some a) n _=>rowH H a (n*es)
 | .slice none 0 _=>some #[]
 | _=>none
def lenS (s:Value):Nat:=match s with | .slice _ n _=>n | _=>0
structure ZT where
 type:TypeId
 size:Nat
 bytes:Nat
 zero:Array Value
def zI (P:Program) (T:TypeId):Option ZT:=
 match P.underlying T with
 | some (.slice e)=>match P.info? e with
   | some i=>i.zero.map fun z=>⟨e,i.size,i.bytes,z.cells⟩
   | none=>none
 | _=>none
def App (e:ZT) (s:Value) (new:Array Value) (n:Nat) (H:Hp) (K:Value→Hp→Prop):Prop:=
 match s with
 | .slice base sLen sCap=>
   if sLen+n≤sCap then
     match base with
     | some a=>Pu (putH H (a.add (sLen*e.size)) new) fun H'=>K (.slice base (sLen+n) sCap) H'
     | none=>new=#[]∧K (.slice base (sLen+n) sCap) H
   else 0<e.bytes∧(sLen+n)*e.bytes≤2 ^ 47∧Pu (cellsS e.size s H) fun old=>
     ∀ cap,sLen+n≤cap→K (.slice (some ⟨H.size,0,none⟩) (sLen+n) cap) (H.push (.cells (old++new++Builtin.zeroCells e.zero (cap - (sLen+n))) e.type))
 | _=>False
def Y2 (e:Option ZT) (s x:Value) (H:Hp) (K:Value→Hp→Prop):Prop:=
 Pu e fun e=>Pu (cellsS e.size x H) fun new=>App e s new (lenS x) H K
def zH (e:Option ZT) (len:Nat) (parts:List (Nat × Value)):Option (Array Value):=
 match e with
 | some e=>if len*e.size > 2 ^ 24∨len*e.size=0 then none else Instr.fill (fun i=>some (i*e.size,e.size)) ((Array.range (len*e.size)).map (e.zero[· % e.zero.size]!)) parts
 | none=>none
theorem yV {P:Program} {T:TypeId} {e:ZT} (h:zI P T=some e):P.underlying T=some (.slice e.type)∧∃ i z,P.info? e.type=some i∧i.size=e.size∧i.bytes=e.bytes∧i.zero=some z∧z.cells=e.zero:=by
 unfold zI at h
 split at h
 · rename_i t hu
   split at h
   · rename_i i hi
     simp only [Option.map_eq_some_iff] at h
     obtain ⟨z,hz,rfl⟩:=h
     exact ⟨hu,i,z,hi,rfl,rfl,hz,rfl⟩
   · cases h
 · cases h
theorem yR {P:Program} {w:World} {es:Nat} {x:Value} {cs:Array Value} (h:cellsS es x w.heap=some cs):(Builtin.firstCells es (lenS x) x).run P w=.ok cs w∧∃ a c,x=.slice a (lenS x) c:=by
 unfold cellsS at h
 split at h
 · rename_i a n c
   exact ⟨by simp [Builtin.firstCells,lenS,Yk h],some a,c,rfl⟩
 · injection h with h; subst h; exact ⟨by simp [Builtin.firstCells,lenS],none,_,rfl⟩
 · cases h
theorem nextslicecap_small {need old:Nat} (h:old<need):Builtin.nextslicecap need old≤2*need:=by
 have step:∀ (r c:Nat),256≤c→c≤2*need→Builtin.growBy need r c≤2*need:=by
   intro r
   induction r with
   | zero=>intro c _ hc; simp only [Builtin.growBy]; omega
   | succ r ih=>
     intro c hc0 hc
     simp only [Builtin.growBy]
     split
     · omega
     · exact ih _ (by omega) (by omega)
 unfold Builtin.nextslicecap
 split
 · omega
 · split
   · omega
   · exact step 4 old (by omega) (by omega)
theorem append_ok {P:Program} {T T2 R:TypeId} {e:ZT} (he:zI P T=some e) (ht:∃ e2,P.underlying T2=some (.slice e2)) {s x:Value} {H:Hp} {K:Value→Hp→Prop}
   (h:Y2 (some e) s x H K) {w:World} (hw:w.heap=H):∃ v w',(Builtin.append_ #[T,T2] R #[s,x]).run P w=.ok v w'∧Sm w w'∧K v w'.heap:=by
 subst hw
 obtain ⟨hu,i,z,hi,hsz,hby,hz,hzc⟩:=yV he
 obtain ⟨e2,hu2⟩:=ht
 unfold Y2 at h
 rw [za] at h
 obtain ⟨new,hnew,h⟩:=h
 · skip
   obtain ⟨hf,ax,cx,hx⟩:=yR (P:=P) hnew
   generalize lenS x=n at hf hx h
   subst hx
   unfold App at h
   cases s <;> simp only at h <;> try exact h.elim
   rename_i base sLen sCap
   by_cases hle:sLen+n≤sCap
   · rw [if_pos hle] at h
     cases base with
     | none=>
       obtain ⟨rfl,hk⟩:=h
       refine ⟨_,w,?_,Sm.refl w,hk⟩
       simp [Builtin.append_,underlying,hu,hu2,sizeOf,typeInfo,hi,hsz,Builtin.lenOf,hle,hf]
     | some a=>
       obtain ⟨H',hp,h⟩:=h
       · skip
         obtain ⟨w',h1,h2,h3⟩:=putH_ok (P:=P) hp
         refine ⟨_,w',?_,h2,by rw [h3]; exact h⟩
         simp [Builtin.append_,underlying,hu,hu2,sizeOf,typeInfo,hi,hsz,Builtin.lenOf,hle,hf,h1]
   · rw [if_neg hle] at h
     obtain ⟨hb0,hb,h⟩:=h
     obtain ⟨old,hold,h⟩:=h
     · skip
       obtain ⟨ho,_⟩:=yR (P:=P) hold
       simp only [lenS] at ho
       have hn:=nextslicecap_small (need:=sLen+n) (old:=sCap) (by omega)
       have h2:¬ 2 ^ 48<Builtin.nextslicecap (sLen+n) sCap*i.bytes:=by
         have h3:Builtin.nextslicecap (sLen+n) sCap*i.bytes≤2*(sLen+n)*e.bytes:=by rw [hby]; exact Nat.mul_le_mul_right _ hn
         have h4:2*(sLen+n)*e.bytes=2*((sLen+n)*e.bytes):=Nat.mul_assoc _ _ _
         omega
       have h5:¬ i.bytes=0:=by omega
       have ho':(Builtin.firstCells e.size sLen (.slice base sLen sCap)).run P w.drew=.ok old w.drew:=by
         have:=(yR (P:=P) (w:=w.drew) (x:=.slice base sLen sCap) hold).1
         simpa only [lenS] using this
       have hf':(Builtin.firstCells e.size n (.slice ax n cx)).run P w.drew=.ok new w.drew:=by
         have:=(yR (P:=P) (w:=w.drew) (x:=.slice ax n cx) hnew).1
         simpa only [lenS] using this
       obtain ⟨cap,hcap⟩:∃ cap,cap=Question.cut (.appendCap (sLen+n) sCap e.type) (w.tape w.drawn (.appendCap (sLen+n) sCap e.type)):=⟨_,rfl⟩
       have hle2:sLen+n≤cap:=by rw [hcap]; simp [Question.cut]
       refine ⟨_,w.drew.alloc (.cells (old++new++Builtin.zeroCells e.zero (cap - (sLen+n))) e.type),?_,⟨rfl,rfl,rfl⟩,h cap hle2⟩
       simp [Builtin.append_,underlying,hu,hu2,sizeOf,typeInfo,hi,hsz,Builtin.lenOf,hle,h2,h5,Question.forced,ho',hf',zeroValue,hz,hzc,newRow,← hcap]
end Go.Vc
