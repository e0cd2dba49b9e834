/- Parts of a proof, joined in build order: a calculus of contracts, contracts of functions. -/
import Derived.Test.YtfegkmmifpgpfaaGreatRQA
import Derived.Laws.Tables
import Derived.Laws.StructEq
set_option linter.unusedVariables false
set_option linter.unusedSimpArgs false
set_option maxHeartbeats 8000000
set_option maxRecDepth 100000
namespace Go.Vc
def qK(H:Hp)(a:Addr):Option Value:=
 match H[a.block]? with
 | some (.cells c _ _)=>if a.spot.isSome then none else c[a.off]?
 | _=>none
def np(H:Hp)(a:Addr)(n:Nat):Option (Array Value):=
 match H[a.block]? with
 | some (.cells c _ _)=>if a.spot=none/\a.off+n<=c.size then some (c.extract a.off (a.off+n)) else none
 | _=>none
def zL(c:Array Value)(off:Nat)(vs:Array Value):Array Value:=(c.toList.take off++(vs.toList++c.toList.drop (off+vs.size))).toArray
theorem zH{c:Array Value}{off:Nat}{vs:Array Value}(h:off+vs.size<=c.size)(j:Nat) :
   (zL c off vs)[j]?=if j<off then c[j]? else if j<off+vs.size then vs[j - off]? else c[j]?:=by
 simp only[zL,fR,List.getElem?_append,mg,lG,List.getElem?_take,LL,nj]
 have hm:min off c.size=off:=by omega
 rw[hm]
 by_cases h1:j<off
 · simp[h1]
 · by_cases h2:j<off+vs.size
   · have h3:j - off<vs.size:=by omega
     simp[h1,h2,h3]
   · have h3:¬ j - off<vs.size:=by omega
     have h4:off+vs.size+(j - off - vs.size)=j:=by omega
     simp[h1,h2,h3,h4]
theorem zO{c:Array Value}{off:Nat}{vs:Array Value}(h:off+vs.size<=c.size):(zL c off vs).size=c.size:=by
 simp[zL];omega
def AO(H:Hp)(a:Addr)(vs:Array Value):Option Hp:=
 match H[a.block]? with
 | some (.cells c T (0,0))=>if a.spot=none/\a.off+vs.size<=c.size/\(vs.all fun v=>v.oneCell')=true then some (H.setIfInBounds a.block (.cells (zL c a.off vs) T (0,0))) else none
 | _=>none
theorem Zu{H:Hp}{b:Nat}{o:Obj}(hb:H[b]?=some o):b<H.size:=by
 rcases jx b H.size with h | h
 ·exact h
 ·rw[iQ h]at hb;cases hb
theorem J6{H:Hp}{b:Nat}{o:Obj}(hb:H[b]?=some o):H.setIfInBounds b o=H:=by
 have kc:=Zu hb;apply jm;intro j;rw[iY];split
 ·rename_i h;subst h;rw[hb];try simp[kc]
 ·rfl
theorem HA(H:Hp)(b:Nat)(o o':Obj):(H.setIfInBounds b o).setIfInBounds b o'=H.setIfInBounds b o':=by
 apply jm;intro j;simp only[iY,lL];split<;>rfl
theorem Tp(w:World)(a:Addr):w.cell? a=qK w.heap a:=rfl
theorem Addr.qZ(a:Addr)(n:Nat):(a.add n).block=a.block:=by unfold Addr.add;split<;>rfl
theorem Addr.GM(a:Addr)(n:Nat):(a.add n).off=a.off+n:=by unfold Addr.add;split<;>simp_all
theorem Addr.Dt(a:Addr)(n:Nat)(h:a.spot=none):(a.add n).spot=none:=by unfold Addr.add;split<;>simp_all
theorem Addr.oE(b o n:Nat):Addr.add ⟨b,o,none⟩ n=⟨b,o+n,none⟩:=by unfold Addr.add;split<;>simp_all
theorem Fh{H:Hp}{a:Addr}{n:Nat}{cs:Array Value}(h:np H a n=some cs):cs.size=n/\∀ j,j<n->qK H (a.add j)=cs[j]?:=by
 unfold np at h;split at h
 ·rename_i c T fr hb;split at h
  ·rename_i hc;injection h with h;subst h;refine⟨by simp;omega,fun j hj=>?_⟩;unfold qK;rw[Addr.qZ,hb];simp only[Addr.GM,Addr.Dt a j hc.1];simp[ji];omega
  ·cases h
 ·cases h
theorem pY{P:Program}{w:World}{a:Addr}(cs:Array Value)(n:Nat):∀ (k i:Nat) (acc:Array Value),i+k=n->(∀ j,j<n->w.cell? (a.add j)=cs[j]?)->cs.size=n ->
   (loadCellsFrom a i k acc).run P w=.ok (acc++cs.extract i n) w
 | 0,i,acc,hi,_,hs=>by
   have:cs.extract i n=#[]:=by apply Array.eq_empty_of_size_eq_zero;simp;omega
   simp[loadCellsFrom,this]
 | k+1,i,acc,hi,hc,hs=>by
   have kc:i<cs.size:=by omega
   have h1:=hc i (by omega)
   rw[ka kc]at h1
   have ih:=pY (P:=P) cs n k (i+1) (acc.push cs[i]) (by omega) hc hs
   simp only[loadCellsFrom,Sem.run_bind,run_load,h1,Result.andThen_ok]
   rw[ih]
   congr 1
   apply Array.ext'
   simp[List.extract_eq_take_drop]
   have hd:=jF (l:=cs.toList) (i:=i) (by simpa using kc)
   rw[hd,show n - i=(n - (i+1))+1 by omega,List.take_succ_cons]
   simp
theorem YV{P:Program}{w:World}{a:Addr}{n:Nat}{cs:Array Value}(h:np w.heap a n=some cs):(loadCells a n).run P w=.ok cs w:=by
 obtain⟨hs,hc⟩:=Fh h;unfold loadCells;rw[pY cs n n 0 #[] (by omega) hc hs];simp[<- hs]
def r5(P:Program)(T:TypeId):Option (Option Nat):=
 match P.underlying T with
 | some (.struct _) | some (.array ..)=>(P.info? T).map fun i=>some i.size
 | some _=>some none
 | none=>none
def zX(k:Option (Option Nat))(p:Value)(H:Hp):Option Value:=
 match k,p with
 | some none,.pointer (some a)=>qK H a
 | some (some n),.pointer (some a)=>(np H a n).map .agg
 | _,_=>none
theorem Cq{P:Program}{T:TypeId}{a:Addr}{w:World}{v:Value}(h:zX (r5 P T) (.pointer (some a)) w.heap=some v):(loadVar T a).run P w=.ok v w:=by
 unfold loadVar isAgg underlying
 unfold r5 at h
 cases hu:P.underlying T with
 | none=>rw[hu]at h;simp[zX]at h
 | some d=>
   rw[hu]at h
   have one:∀ {x:Option Value},x=some v->w.cell? a=x->(load a).run P w=.ok v w:=fun h1 h2=>by simp[h2,h1]
   cases d<;>simp only[zX]at h<;>first
     | (simp only[Sem.run_bind,run_program,Result.andThen_ok,hu,Sem.run_pure];simp;rw[Tp,h];done)
     | (cases hi:P.info? T with
       | none=>rw[hi]at h;simp at h
       | some i=>
         rw[hi]at h
         simp only[iR,jf]at h
         obtain⟨cs,h1,rfl⟩:=h
         simp only[Sem.run_bind,run_program,Result.andThen_ok,hu,Sem.run_pure]
         simp[sizeOf,typeInfo,hi,YV h1])
theorem FQ(w:World)(a:Addr)(v:Value)(c:Array Value)(T:TypeId)(fr:Nat × Nat)(hb:w.heap[a.block]?=some (.cells c T fr))(hs:a.spot=none) :
   (w.setCell a v).heap=w.heap.setIfInBounds a.block (.cells (c.setIfInBounds a.off v) T fr):=by
 have kc:=Zu hb
 apply jm
 intro j
 simp only[World.setCell,Array.getElem?_modify,iY]
 by_cases hi:a.block=j
 · subst hi;rw[hb];simp[hs,kc]
 · simp[hi]
theorem uG{P:Program}(a:Addr)(T:TypeId)(oI:a.spot=none):∀ (vs:List Value) (i:Nat) (c:Array Value) (w:World),w.heap[a.block]?=some (.cells c T (0,0))->a.off+i+vs.length<=c.size ->
   (∀ v∈vs,v.oneCell'=true)->∃ w',(storeCells a vs i).run P w=.ok () w'/\Sm w w'/\w'.heap=w.heap.setIfInBounds a.block (.cells (zL c (a.off+i) vs.toArray) T (0,0))
 | [],i,c,w,hb,hl,_=>by
   refine⟨w,by simp[storeCells],Sm.refl w,?_⟩
   have akh:zL c (a.off+i) (List.toArray [])=c:=by
     apply jm;intro j
     rw[zH (by simpa using hl)]
     simp
     intro h1 h2;omega
   rw[akh,J6 hb]
 | v :: vs,i,c,w,hb,hl,hv=>by
   have hc:w.cell? (a.add i)=c[a.off+i]?:=by
     simp only[World.cell?,Addr.qZ,hb,Addr.Dt a i oI,Addr.GM];simp
   simp only[gR]at hl
   have kc:a.off+i<c.size:=by omega
   rw[ka kc]at hc
   have hf:w.frozen? (a.add i)=false:=by simp[World.frozen?,Addr.qZ,hb]
   have Sf:=FQ w (a.add i) v c T (0,0) (by rw[Addr.qZ];exact hb) (Addr.Dt a i oI)
   rw[Addr.qZ,Addr.GM]at Sf
   have alg:=Zu hb
   have WE:(w.setCell (a.add i) v).heap[a.block]?=some (.cells (c.setIfInBounds (a.off+i) v) T (0,0)):=by
     rw[Sf,iY];simp[alg]
   obtain⟨w',h1,h2,h3⟩:=uG (P:=P) a T oI vs (i+1) (c.setIfInBounds (a.off+i) v) (w.setCell (a.add i) v) WE (by simp;omega) (fun u hu=>hv u (dH _ hu))
   refine⟨w',?_,⟨h2.os,h2.out,h2.tape⟩,?_⟩
   · rw[storeCells,Sem.run_bind]
     have:=run_store P w (a.add i) v .plain (hv v eH)
     rw[this]
     simp[hc,hf,h1]
   · rw[h3,Sf,HA]
     congr 2
     apply jm;intro j
     rw[zH (by simp;omega),zH (by simp;omega)]
     simp only[iY,nN,gR,fR]
     by_cases h1:j<a.off+i
     · have:j<a.off+(i+1):=by omega
       have h3:a.off+i≠j:=by omega
       simp[h1,this,h3]
     · by_cases h2:j=a.off+i
       · subst h2
         have h4:a.off+i<a.off+(i+1):=by omega
         simp[h4,kc]
       · have h3:¬ j<a.off+(i+1):=by omega
         have h4:a.off+i≠j:=by omega
         by_cases h5:j<a.off+(i+1)+vs.length
         · have h6:j<a.off+i+(vs.length+1):=by omega
           have h7:j - (a.off+i)=(j - (a.off+(i+1)))+1:=by omega
           simp[h1,h3,h5,h6,h7]
         · have h6:¬ j<a.off+i+(vs.length+1):=by omega
           simp[h1,h3,h4,h5,h6]
def tD(op:BinOp)(k:IntKind)(a b:Int):Int:=
 let x:=BitVec.ofInt k.bits a
 let y:=BitVec.ofInt k.bits b
 k.wrap ((match op with | .and=>x &&& y | .or=>x ||| y | .xor=>x ^^^ y | _=>x &&& ~~~y).toNat)
def Ec(op:BinOp)(k:IntKind)(a b:Int):Option Value:=
 match op with
 | .add=>some (.int k (k.wrap (a+b)))
 | .sub=>some (.int k (k.wrap (a - b)))
 | .mul=>some (.int k (k.wrap (a*b)))
 | .quo=>if b=0 then none else some (.int k (k.wrap (a.tdiv b)))
 | .rem=>if b=0 then none else some (.int k (a.tmod b))
 | .and=>some (.int k (tD .and k a b))
 | .or=>some (.int k (tD .or k a b))
 | .xor=>some (.int k (tD .xor k a b))
 | .andNot=>some (.int k (tD .andNot k a b))
 | .eql=>some (.bool (a == b))
 | .neq=>some (.bool (a != b))
 | .lss=>some (.bool (a<b))
 | .leq=>some (.bool (a<=b))
 | .gtr=>some (.bool (a > b))
 | .geq=>some (.bool (a ≥ b))
 | .shl=>if b<0 then none else some (.int k (k.wrap (a*2 ^ (min b.toNat k.bits))))
 | .shr=>if b<0 then none else some (.int k (a.fdiv (2 ^ (min b.toNat k.bits))))
def wA:BinOp->Bool
 | .shl | .shr=>true
 | _=>false
def Qn(op:BinOp)(x y:ByteArray):Option Value:=
 match op with
 | .add=>if ((x.size+y.size:Nat):Int) > IntKind.i64.max then none else some (.string (x++y))
 | .eql=>some (.bool (x.toList == y.toList))
 | .neq=>some (.bool !(x.toList == y.toList))
 | .lss=>some (.bool (Op.bytesLess x.toList y.toList))
 | .leq=>some (.bool (Op.bytesLess x.toList y.toList || x.toList == y.toList))
 | .gtr=>some (.bool !(Op.bytesLess x.toList y.toList || x.toList == y.toList))
 | .geq=>some (.bool !(Op.bytesLess x.toList y.toList))
 | _=>none
def F4(td:Option TypeDesc)(x y:Value):Option Bool:=
 match td,x,y with
 | some (.pointer _),.pointer none,.pointer b=>some b.isNone
 | some (.pointer _),.pointer (some _),.pointer none=>some false
 | some (.slice _),.slice none _ _,.slice b _ _=>some b.isNone
 | some (.slice _),.slice (some _) _ _,.slice none _ _=>some false
 | some (.map _ _),.map none,.map b=>some b.isNone
 | some (.map _ _),.map (some _),.map none=>some false
 | some (.func _ _ _),.nilFunc,.nilFunc=>some true
 | some (.func _ _ _),.nilFunc,.func _ _ _=>some false
 | some (.func _ _ _),.func _ _ _,.nilFunc=>some false
 | some .bool,.bool a,.bool b=>some (a == b)
 | _,_,_=>none
def z8(td:Option TypeDesc)(op:BinOp)(x y:Value):Option Value:=
 match x,y with
 | .int k a,.int k' b=>if wA op || k == k' then Ec op k a b else none
 | .string a,.string b=>Qn op a b
 | _,_=>
  match op with
  | .eql=>(F4 td x y).map .bool
  | .neq=>(F4 td x y).map fun b=>.bool (!b)
  | _=>none
section
variable{P:Program}{w:World}
theorem Zz{op:BinOp}{t:TypeId}{x y:Operand}{a b:Value}(h:∀ xs ys,¬ (a=.agg xs/\b=.agg ys))(h':¬ (a=.nilIface/\b=.nilIface)):(eqGuard op t x y a b).run P w=.ok () w:=by
 unfold eqGuard;cases op<;>simp<;>(split<;>simp_all)
theorem Xr{op:BinOp}{T:TypeId}{k k':IntKind}{a b:Int}{v:Value}(hk:(wA op || k == k')=true)(h:Ec op k a b=some v):(binOp op T (.int k a) (.int k' b)).run P w=.ok v w:=by
 cases op<;>simp only[Ec,wA,Bool.false_or,beq_iff_eq,iH,Bool.true_or]at h hk<;>(try subst hk) <;>
   first
     | (subst h;simp[binOp,Op.intArith,Op.intBits,Op.intCmp,tD];done)
     | (split at h
        · cases h
        · injection h with h;subst h;rename_i hb;simp[binOp,Op.intDiv,Op.shift,hb])
theorem U7{op:BinOp}{T:TypeId}{a b:ByteArray}{v:Value}(h:Qn op a b=some v):(binOp op T (.string a) (.string b)).run P w=.ok v w:=by
 cases op<;>simp only[Qn,iH]at h <;>
   first
     | (cases h;done)
     | (subst h;simp[binOp,Op.stringOp];done)
     | (split at h
        · cases h
        · injection h with h;subst h;rename_i hb;simp only[binOp,Op.stringOp];rw[aH hb];rfl)
theorem VP{d:Nat}{T:TypeId}{x y:Value}{b:Bool}(h:F4 (P.underlying T) x y=some b):(Op.equalIn (d+1) T x y).run P w=.ok b w:=by
 unfold F4 at h;split at h<;>first
  | (cases h;done)
  | (rename_i hu;injection h with h;subst h;simp[Op.equalIn,underlying,hu];done)
theorem MC{T:TypeId}{x y:Value}{b:Bool}(h:F4 (P.underlying T) x y=some b):(Op.equal T x y).run P w=.ok b w:=VP (d:=9999) h
theorem Ch{td:Option TypeDesc}{x y:Value}{b:Bool}(h:F4 td x y=some b):(∀ xs ys,¬ (x=.agg xs/\y=.agg ys))/\¬ (x=.nilIface/\y=.nilIface):=by
 unfold F4 at h;split at h<;>first | (cases h;done) | exact⟨by simp,by simp⟩
theorem Xs{op:BinOp}{T:TypeId}{xo yo:Operand}{x y v:Value}(h:z8 (P.underlying T) op x y=some v) :
   (do eqGuard op T xo yo x y;binOp op T x y:Sem Value).run P w=.ok v w:=by
 unfold z8 at h
 split at h
 · rename_i k a k' b
   split at h
   · rename_i hk
     simp only[Sem.run_bind];rw[Zz (by simp) (by simp)];simp only[Result.andThen_ok];exact Xr hk h
   · cases h
 · simp only[Sem.run_bind];rw[Zz (by simp) (by simp)];simp only[Result.andThen_ok];exact U7 h
 · split at h
   · simp only[jf]at h
     obtain⟨b,hb,rfl⟩:=h
     have hn:=MC (w:=w) hb
     have hp:=Ch hb
     simp only[Sem.run_bind];rw[Zz hp.1 hp.2];simp only[Result.andThen_ok]
     have:binOp .eql T x y=(do pure (.bool (<- Op.equal T x y)):Sem Value):=by
       unfold F4 at hb
       split at hb<;>first | rfl | (cases hb;done)
     rw[this];simp[hn]
   · simp only[jf]at h
     obtain⟨b,hb,rfl⟩:=h
     have hn:=MC (w:=w) hb
     have hp:=Ch hb
     simp only[Sem.run_bind];rw[Zz hp.1 hp.2];simp only[Result.andThen_ok]
     have:binOp .neq T x y=(do pure (.bool (!(<- Op.equal T x y))):Sem Value):=by
       unfold F4 at hb
       split at hb<;>first | rfl | (cases hb;done)
     rw[this];simp[hn]
   · cases h
end
def unE(op:UnOp)(x:Value):Option Value:=
 match op,x with
 | .not,.bool b=>some (.bool !b)
 | .neg,.int k n=>some (.int k (k.wrap (0 - n)))
 | .xor,.int k n=>some (.int k (tD .xor k (if k.signed then -1 else k.max) n))
 | _,_=>none
theorem aa7{P:Program}{w:World}{op:UnOp}{x v:Value}(h:unE op x=some v):(Op.unary op x).run P w=.ok v w:=by
 unfold unE at h;split at h<;>first | (cases h;done) | (injection h with h;subst h;simp[Op.unary,Op.intArith,Op.intBits,tD];done)
def Ze(s d:Option TypeDesc)(x:Value):Option Value:=
 match s,d,x with
 | some (.int _),some (.int k),.int _ n=>some (.int k (k.wrap n))
 | some .string,some .string,.string b=>some (.string b)
 | _,_,_=>none
theorem Tl{P:Program}{w:World}{S D:TypeId}{x v:Value}(h:Ze (P.underlying S) (P.underlying D) x=some v):(convert S D x).run P w=.ok v w:=by
 unfold Ze at h;split at h<;>first | (cases h;done) | (rename_i h1 h2;injection h with h;subst h;simp[convert,underlying,h1,h2,Conv.intToInt];done)
def KX(P:Program)(S:TypeId)(f:Nat):Option Nat:=
 match P.underlying S with
 | some (.struct fields)=>
  match fields[f]? with
  | some fd=>match P.info? fd.type with
   | some i=>if i.size=0 then none else some fd.offset
   | none=>none
  | none=>none
 | _=>none
def Fo(off:Option Nat)(x:Value):Option Value:=
 match off,x with
 | some o,.pointer (some a)=>some (.pointer (some (a.add o)))
 | _,_=>none
theorem KY{P:Program}{w:World}{S:TypeId}{x v:Value}{f:Nat}(h:Fo (KX P S f) x=some v):(Instr.fieldAt S x f).run P w=.ok v w:=by
 unfold Fo at h;split at h
 ·rename_i o a ho;injection h with h;subst h;unfold KX at ho;split at ho
  ·rename_i fields hu;split at ho
   ·rename_i fd hf;split at ho
    ·rename_i i hi;split at ho
     ·cases ho
     ·rename_i hz;injection ho with ho;subst ho;simp[Instr.fieldAt,underlying,hu,hf,Instr.sureAddr,fieldPlace,sizeOf,typeInfo,hi,hz]
    ·cases ho
   ·cases ho
  ·cases ho
 ·cases h
def Wj(P:Program)(T:TypeId):Option (Option Nat × Nat):=
 match P.underlying T with
 | some (.array n e)=>(P.info? e).map fun i=>(some n,i.size)
 | some (.slice e)=>(P.info? e).map fun i=>(none,i.size)
 | _=>none
def zG(k:Option (Option Nat × Nat))(x i:Value):Option Value:=
 match k,x,i with
 | some (some n,s),.pointer (some a),.int _ j=>if 0<=j/\j<n then some (.pointer (some (a.add (j.toNat*s)))) else none
 | some (none,s),.slice (some a) n _,.int _ j=>if 0<=j/\j<n then some (.pointer (some (a.add (j.toNat*s)))) else none
 | _,_,_=>none
def adV(P:Program)(T:TypeId):Option Nat:=
 match P.underlying T with
 | some (.array n _)=>some n
 | _=>none
def GL(n:Option Nat)(x:Value):Option Value:=
 match n,x with
 | some n,.slice (some a) l _=>if n<=l then some (.pointer (some a)) else none
 | _,_=>none
theorem Lz{P:Program}{w:World}{T:TypeId}{x v:Value}(h:GL (adV P T) x=some v):(Instr.arrayAt T x).run P w=.ok v w:=by
 unfold GL at h;split at h
 ·rename_i n a l c hk;split at h
  ·rename_i hl;injection h with h;subst h;unfold adV at hk;split at hk
   ·rename_i m e hu;injection hk with hk;subst hk;have:¬ l<m:=by omega
    simp[Instr.arrayAt,underlying,hu,this]
   ·cases hk
  ·cases h
 ·cases h
theorem KD{P:Program}{w:World}{T:TypeId}{x i v:Value}(h:zG (Wj P T) x i=some v):(Instr.indexAt T x i).run P w=.ok v w:=by
 unfold zG at h;split at h
 ·rename_i n s a k j hk;split at h
  ·rename_i hj;injection h with h;subst h;unfold Wj at hk;split at hk
   ·rename_i m e hu;simp only[jf,DJ,iH]at hk;obtain⟨i,hi,rfl,rfl⟩:=hk;simp[Instr.indexAt,asIntOf,underlying,hu,Instr.sureAddr,sizeOf,typeInfo,hi,hj]
   ·simp at hk
   ·cases hk
  ·cases h
 ·rename_i s a n c k j hk;split at h
  ·rename_i hj;injection h with h;subst h;unfold Wj at hk;split at hk
   ·simp at hk
   ·rename_i e hu;simp only[jf,DJ,true_and]at hk;obtain⟨i,hi,rfl⟩:=hk;simp[Instr.indexAt,asIntOf,underlying,hu,sizeOf,typeInfo,hi,hj]
   ·cases hk
  ·cases h
 ·cases h
def xK(P:Program)(T:TypeId)(x i:Value):Option Value:=
 match P.underlying T,x,i with
 | some .string,.string s,.int _ j=>if 0<=j then(s[j.toNat]?).map fun b=>.int .u8 b.toNat else none
 | some (.array n e),.agg cs,.int _ j=>if 0<=j/\j<n then
  (match r5 P e with
   | some none=>match P.info? e with | some i=>cs[j.toNat*i.size]? | none=>none
   | some (some s)=>some (.agg (cs.extract (j.toNat*s) (j.toNat*s+s)))
   | none=>none) else none
 | _,_,_=>none
def Yl(k:Option (Option Nat))(cs:Array Value)(off:Nat):Option Value:=
 match k with
 | some none=>cs[off]?
 | some (some s)=>some (.agg (cs.extract off (off+s)))
 | none=>none
theorem tM{P:Program}{w:World}{T:TypeId}{cs:Array Value}{off:Nat}{v:Value}(h:Yl (r5 P T) cs off=some v):(part T cs off).run P w=.ok v w:=by
 unfold part isAgg underlying
 unfold r5 at h
 cases hu:P.underlying T with
 | none=>rw[hu]at h;simp[Yl]at h
 | some d=>
   rw[hu]at h
   cases d<;>simp only[Yl]at h<;>first
     | (simp only[Sem.run_bind,run_program,Result.andThen_ok,hu,Sem.run_pure];simp[h];done)
     | (cases hi:P.info? T with
       | none=>rw[hi]at h;simp at h
       | some i=>
         rw[hi]at h
         simp only[iR,iH]at h
         subst h
         simp only[Sem.run_bind,run_program,Result.andThen_ok,hu,Sem.run_pure]
         simp[sizeOf,typeInfo,hi])
theorem RU{P:Program}{w:World}{T:TypeId}{x i v:Value}(h:xK P T x i=some v):(Instr.index T x i).run P w=.ok v w:=by
 unfold xK at h;split at h
 ·rename_i s k j hu;split at h
  ·rename_i hj;simp only[jf]at h;obtain⟨b,hb,rfl⟩:=h;simp[Instr.index,asIntOf,underlying,hu,hj,hb]
  ·cases h
 ·rename_i n e cs k j hu;split at h
  ·rename_i hj;have key:∃ i,P.info? e=some i/\Yl (r5 P e) cs (j.toNat*i.size)=some v:=by
    cases hi:P.info? e with
    | none=>
     exfalso;have:P.underlying e=none:=by simp[Program.underlying,hi]
     simp[r5,this]at h
    | some i=>
     refine⟨i,rfl,?_⟩;cases hl:r5 P e with
     | none=>simp[hl]at h
     | some o=>
      cases o with
      | none=>simpa[hl,hi,Yl]using h
      | some s=>
       have:s=i.size:=by
        unfold r5 at hl;split at hl<;>simp_all
       subst this;simpa[hl,Yl]using h
   obtain⟨i,hi,hp⟩:=key;simp[Instr.index,asIntOf,underlying,hu,hj,sizeOf,typeInfo,hi,tM hp]
  ·cases h
 ·cases h
def Ys(P:Program)(S:TypeId)(x:Value)(f:Nat):Option Value:=
 match P.underlying S,x with
 | some (.struct fields),.agg cs=>match fields[f]? with
  | some fd=>Yl (r5 P fd.type) cs fd.offset
  | none=>none
 | _,_=>none
theorem SQ{P:Program}{w:World}{S:TypeId}{x v:Value}{f:Nat}(h:Ys P S x f=some v):(Instr.field S x f).run P w=.ok v w:=by
 unfold Ys at h;split at h
 ·rename_i fields cs hu;split at h
  ·rename_i fd hf;simp[Instr.field,underlying,hu,hf,asAgg,tM h]
  ·cases h
 ·cases h
def zq(t:Value)(i:Nat):Option Value:=
 match t with
 | .tuple vs=>vs[i]?
 | _=>none
theorem KZ{P:Program}{w:World}{t v:Value}{i:Nat}(h:zq t i=some v):(Instr.extract t i).run P w=.ok v w:=by
 unfold zq at h;split at h
 ·simp[Instr.extract,h]
 ·cases h
def zl(x:Value):Option Value:=
 match x with
 | .pointer (some a)=>some (.pointer (some a))
 | .slice a n c=>some (.slice a n c)
 | .map r=>some (.map r)
 | .func (.func f) a b=>some (.func (.func f) a b)
 | .func (.yield f) a b=>some (.func (.yield f) a b)
 | _=>none
def j9(P:Program)(T:TypeId)(x:Value):Option Value:=
 match P.underlying T,x with
 | some .string,.string s=>some (goInt s.size)
 | some (.array n _),_=>some (goInt n)
 | some (.slice _),.slice _ n _=>some (goInt n)
 | some (.pointer a),_=>match P.underlying a with | some (.array n _)=>some (goInt n) | _=>none
 | _,_=>none
theorem ab7{P:Program}{w:World}{T R:TypeId}{x v:Value}(h:j9 P T x=some v):(Builtin.len_ #[T] R #[x]).run P w=.ok v w:=by
 unfold j9 at h;split at h<;>(try (cases h;done))<;>(try (rename_i hu;injection h with h;subst h;simp[Builtin.len_,underlying,hu];done));rename_i hu;split at h
 ·rename_i h2;injection h with h;subst h;simp[Builtin.len_,underlying,hu,h2]
 ·cases h
def VU(x y:Value):Option Value:=match x,y with | .int k a,.int _ b=>some (.int k (if b<a then b else a)) | _,_=>none
def xB(x y:Value):Option Value:=match x,y with | .int k a,.int _ b=>some (.int k (if b > a then b else a)) | _,_=>none
theorem abW{P:Program}{w:World}{ts:Array TypeId}{T:TypeId}{x y v:Value}(h:VU x y=some v):(Builtin.min_ ts T #[x,y]).run P w=.ok v w:=by
 unfold VU at h;split at h
 ·injection h with h;subst h;simp[Builtin.min_,Builtin.min2]
 ·cases h
theorem ab0{P:Program}{w:World}{ts:Array TypeId}{T:TypeId}{x y v:Value}(h:xB x y=some v):(Builtin.max_ ts T #[x,y]).run P w=.ok v w:=by
 unfold xB at h;split at h
 ·injection h with h;subst h;simp[Builtin.max_,Builtin.max2]
 ·cases h
def zo(P:Program)(T:TypeId)(parts:List (Nat × Value)):Option Value:=(P.built T parts).map .agg
def Z2(x:Option Value)(d y:Nat):Option Nat:=
 match x with
 | none=>some d
 | some (.int _ i)=>if 0<=i/\i<=y then some i.toNat else none
 | _=>none
def Wt(mx hi:Option Value)(n m:Nat):Option Nat:=
 match mx,hi with
 | some _,none=>none
 | _,_=>Z2 hi n m
def yF(P:Program)(T:TypeId)(x:Value)(lo hi mx:Option Value):Option Value:=
 match P.underlying T,x with
 | some (.slice e),.slice a n c=>
  (Z2 mx c c).bind fun m=>(Wt mx hi n m).bind fun h=>(Z2 lo 0 h).bind fun l=>(P.info? e).map fun i=>
   .slice (if m=l then a else a.map (·.add (l*i.size))) (h - l) (m - l)
 | some (.array n e),.pointer (some a)=>
  (Z2 mx n n).bind fun m=>(Wt mx hi n m).bind fun h=>(Z2 lo 0 h).bind fun l=>(P.info? e).map fun i=>
   .slice (some (if m=l then a else a.add (l*i.size))) (h - l) (m - l)
 | some .string,.string s=>match mx with
  | none=>(Z2 hi s.size s.size).bind fun h=>(Z2 lo 0 h).map fun l=>.string (s.extract l h)
  | _=>none
 | _,_=>none
inductive Pu {α:Type} (e:Option α) (K:α->Prop):Prop
 | mk (v:α) (he:e=some v) (hk:K v)
def hU(c:Value)(A B:Prop):Prop:=
 match c with
 | .bool true=>A
 | .bool false=>B
 | _=>False
def lC(q:Bool)(H:Hp)(K:Hp->Prop):Prop:=
 match q with
 | true=>∀ H',Ext H H'->K H'
 | false=>K H
def QC(q:Bool)(P:Program)(f:FuncId)(args:Array Value)(H:Hp)(v:Value):Prop:=
 ∀ H',Ex q H H'->Fc P f args H' fun u oZ=>u=v/\Ex q H' oZ
def Yld(P:Program)(l:Nat)(args:Array Value)(H:Hp)(K:Value->Hp->Prop):Prop:=
 match H[l]? with
 | some (.loop r)=>args.size=r.params.size/\Rnd P l r.fn ((r.params.zip args).foldl (fun tmps (t,a)=>tmps.setIfInBounds t a) r.tmps) r.assign r.body H K
 | _=>False
def pL(P:Program)(f:FuncId):Bool:=
 match P.funcs[f]? with
 | some fn=>!(fn.name == "runtime.NumGoroutine") && fn.body.isSome
 | none=>false
def om(P:Program)(y:Value)(args:Array Value)(H:Hp)(K:Value->Hp->Prop):Prop:=
 match y with
 | .func (.func f) first cap=>pL P f=true/\Fc P f (((first.toList++args.toList)++cap.toList).toArray) H K
 | .func (.yield l) first _=>Yld P l ((first.toList++args.toList).toArray) H K
 | _=>False
theorem za{α:Type}{v:α}{K:α->Prop}:Pu (some v) K=K v:=by
 apply propext;exact⟨fun h=>(by obtain⟨u,hu,hk⟩:=h;injection hu with hu;subst hu;exact hk),fun h=>⟨v,rfl,h⟩⟩
theorem Pu.get{α:Type}{e:Option α}{K:α->Prop}(h:Pu e K):∃ v,e=some v/\K v:=by
 obtain⟨v,he,h⟩:=h;exact⟨v,he,h⟩
theorem lC.ex{q:Bool}{H H':Hp}{K:Hp->Prop}(h:lC q H K)(hx:Ex q H H'):K H':=by
 cases q
 ·cases hx;exact h
 ·exact h H' hx
theorem EE{k:Option (Option Nat)}{p v:Value}{H H':Hp}(hx:Ext H H')(h:zX k p H=some v):zX k p H'=some v:=by
 unfold zX at *;split at h
 ·rename_i a;unfold qK at *;split at h
  ·rename_i c T fr hb;simp only[hx.at hb];exact h
  ·cases h
 ·rename_i n a;simp only[jf]at *;obtain⟨cs,h1,h2⟩:=h;refine⟨cs,?_,h2⟩;unfold np at *;split at h1
  ·rename_i c T fr hb;simp only[hx.at hb];exact h1
  ·cases h1
 ·cases h
def abc(P:Program)(T:TypeId):Option Nat:=(P.info? T).map fun i=>i.size
def zY(n:Option Nat)(p v:Value)(H:Hp):Option Hp:=
 match p with
 | .pointer (some a)=>if n=some v.cells.size then AO H a v.cells else none
 | _=>none
def ZZ(P:Program)(T:TypeId):Option Value:=(P.info? T).bind fun i=>i.zero
theorem Bc{P:Program}{a:Addr}{vs:Array Value}{w:World}{H':Hp}(h:AO w.heap a vs=some H'):∃ w',(storeCells a vs.toList).run P w=.ok () w'/\Sm w w'/\w'.heap=H':=by
 unfold AO at h;split at h
 ·rename_i c U hb;split at h
  ·rename_i hc;injection h with h;have mc:∀ u∈vs.toList,u.oneCell'=true:=fun u hu=>(Array.all_eq_true'.1 hc.2.2) u (by simpa using hu);obtain⟨w',h1,h2,h3⟩:=uG (P:=P) a U hc.1 vs.toList 0 c w hb (by simp;omega) mc;exact⟨w',h1,h2,by rw[h3,<- h];simp⟩
  ·cases h
 ·cases h
theorem Hl{P:Program}{T:TypeId}{a:Addr}{w:World}{v:Value}{H':Hp}(h:zY (abc P T) (.pointer (some a)) v w.heap=some H'):∃ w',(storeVar T a v).run P w=.ok () w'/\Sm w w'/\w'.heap=H':=by
 unfold zY abc at h;simp only at h;split at h
 ·rename_i hs;obtain⟨w',h1,h2,h3⟩:=Bc (P:=P) h;refine⟨w',?_,h2,h3⟩;simp only[jf]at hs;obtain⟨i,hi,hz⟩:=hs;simp[storeVar,sizeOf,typeInfo,hi,<- hz,h1]
 ·cases h
def tw(es:Nat)(s:Value)(H:Hp):Option (Array Value):=
 match s with
 | .slice (some a) n _=>np H a (n*es)
 | .slice none 0 _=>some #[]
 | _=>none
def DU(s:Value):Nat:=match s with | .slice _ n _=>n | _=>0
structure ZX where
 type:TypeId
 size:Nat
 bytes:Nat
 zero:Array Value
def zQ(P:Program)(T:TypeId):Option ZX:=
 match P.underlying T with
 | some (.slice e)=>match P.info? e with
  | some i=>i.zero.map fun z=>⟨e,i.size,i.bytes,z.cells⟩
  | none=>none
 | _=>none
def App(e:ZX)(s:Value)(new:Array Value)(n:Nat)(H:Hp)(K:Value->Hp->Prop):Prop:=
 match s with
 | .slice base oO AM=>
  if oO+n<=AM then
   match base with
   | some a=>Pu (AO H (a.add (oO*e.size)) new) fun H'=>K (.slice base (oO+n) AM) H'
   | none=>new=#[]/\K (.slice base (oO+n) AM) H
  else 0<e.bytes/\(oO+n)*e.bytes<=2 ^ 47/\Pu (tw e.size s H) fun old=>
   ∀ cap,oO+n<=cap->K (.slice (some ⟨H.size,0,none⟩) (oO+n) cap) (H.push (.cells (old++new++Builtin.zeroCells e.zero (cap - (oO+n))) e.type))
 | _=>False
def mD(e:Option ZX)(s x:Value)(H:Hp)(K:Value->Hp->Prop):Prop:=
 Pu e fun e=>Pu (tw e.size x H) fun new=>App e s new (DU x) H K
def zT(e:Option ZX)(len:Nat)(parts:List (Nat × Value)):Option (Array Value):=
 match e with
 | some e=>if len*e.size > 2 ^ 24\/len*e.size=0 then none else Instr.fill (fun i=>some (i*e.size,e.size)) ((Array.range (len*e.size)).map (e.zero[· % e.zero.size]!)) parts
 | none=>none
theorem YB{P:Program}{T:TypeId}{e:ZX}(h:zQ P T=some e):P.underlying T=some (.slice e.type)/\∃ i z,P.info? e.type=some i/\i.size=e.size/\i.bytes=e.bytes/\i.zero=some z/\z.cells=e.zero:=by
 unfold zQ at h;split at h
 ·rename_i t hu;split at h
  ·rename_i i hi;simp only[jf]at h;obtain⟨z,hz,rfl⟩:=h;exact⟨hu,i,z,hi,rfl,rfl,hz,rfl⟩
  ·cases h
 ·cases h
theorem Yx{P:Program}{w:World}{es:Nat}{x:Value}{cs:Array Value}(h:tw es x w.heap=some cs):(Builtin.firstCells es (DU x) x).run P w=.ok cs w/\∃ a c,x=.slice a (DU x) c:=by
 unfold tw at h;split at h
 ·rename_i a n c;exact⟨by simp[Builtin.firstCells,DU,YV h],some a,c,rfl⟩
 ·injection h with h;subst h;exact⟨by simp[Builtin.firstCells,DU],none,_,rfl⟩
 ·cases h
theorem u4{need old:Nat}(h:old<need):Builtin.nextslicecap need old<=2*need:=by
 have step:∀ (r c:Nat),256<=c->c<=2*need->Builtin.growBy need r c<=2*need:=by
  intro r;induction r with
  | zero=>intro c _ hc;simp only[Builtin.growBy];omega
  | succ r ih=>
   intro c GV hc;simp only[Builtin.growBy];split
   ·omega
   ·exact ih _ (by omega) (by omega)
 unfold Builtin.nextslicecap;split
 ·omega
 ·split
  ·omega
  ·exact step 4 old (by omega) (by omega)
theorem Ps{P:Program}{T T2 R:TypeId}{e:ZX}(he:zQ P T=some e)(ht:∃ e2,P.underlying T2=some (.slice e2)){s x:Value}{H:Hp}{K:Value->Hp->Prop}
   (h:mD (some e) s x H K) {w:World} (hw:w.heap=H):∃ v w',(Builtin.append_ #[T,T2] R #[s,x]).run P w=.ok v w'/\Sm w w'/\K v w'.heap:=by
 subst hw
 obtain⟨hu,i,z,hi,lH,AE,hz,Wk⟩:=YB he
 obtain⟨e2,hu2⟩:=ht
 unfold mD at h
 rw[za]at h
 obtain⟨new,Wo,h⟩:=h
 · skip
   obtain⟨hf,ax,cx,hx⟩:=Yx (P:=P) Wo
   generalize DU x=n at hf hx h
   subst hx
   unfold App at h
   cases s<;>simp only at h<;>try exact h.elim
   rename_i base oO AM
   by_cases hle:oO+n<=AM
   · rw[aU hle]at h
     cases base with
     | none=>
       obtain⟨rfl,hk⟩:=h
       refine⟨_,w,?_,Sm.refl w,hk⟩
       simp[Builtin.append_,underlying,hu,hu2,sizeOf,typeInfo,hi,lH,Builtin.lenOf,hle,hf]
     | some a=>
       obtain⟨H',hp,h⟩:=h
       · skip
         obtain⟨w',h1,h2,h3⟩:=Bc (P:=P) hp
         refine⟨_,w',?_,h2,by rw[h3];exact h⟩
         simp[Builtin.append_,underlying,hu,hu2,sizeOf,typeInfo,hi,lH,Builtin.lenOf,hle,hf,h1]
   · rw[aH hle]at h
     obtain⟨hb0,hb,h⟩:=h
     obtain⟨old,hold,h⟩:=h
     · skip
       obtain⟨ho,_⟩:=Yx (P:=P) hold
       simp only[DU]at ho
       have hn:=u4 (need:=oO+n) (old:=AM) (by omega)
       have h2:¬ 2 ^ 48<Builtin.nextslicecap (oO+n) AM*i.bytes:=by
         have h3:Builtin.nextslicecap (oO+n) AM*i.bytes<=2*(oO+n)*e.bytes:=by rw[AE];exact jU _ hn
         have h4:2*(oO+n)*e.bytes=2*((oO+n)*e.bytes):=Nat.mul_assoc _ _ _
         omega
       have h5:¬ i.bytes=0:=by omega
       have ho':(Builtin.firstCells e.size oO (.slice base oO AM)).run P w.drew=.ok old w.drew:=by
         have:=(Yx (P:=P) (w:=w.drew) (x:=.slice base oO AM) hold).1
         simpa only[DU]using this
       have hf':(Builtin.firstCells e.size n (.slice ax n cx)).run P w.drew=.ok new w.drew:=by
         have:=(Yx (P:=P) (w:=w.drew) (x:=.slice ax n cx) Wo).1
         simpa only[DU]using this
       obtain⟨cap,Sy⟩:∃ cap,cap=Question.cut (.appendCap (oO+n) AM e.type) (w.tape w.drawn (.appendCap (oO+n) AM e.type)):=⟨_,rfl⟩
       have akJ:oO+n<=cap:=by rw[Sy];simp[Question.cut]
       refine⟨_,w.drew.alloc (.cells (old++new++Builtin.zeroCells e.zero (cap - (oO+n))) e.type),?_,⟨rfl,rfl,rfl⟩,h cap akJ⟩
       simp[Builtin.append_,underlying,hu,hu2,sizeOf,typeInfo,hi,lH,Builtin.lenOf,hle,h2,h5,Question.forced,ho',hf',zeroValue,hz,Wk,newRow,<- Sy]
end Go.Vc
