/- Parts of a proof, joined in build order: a calculus of contracts, contracts of functions. -/
import Derived.Test.YtfegkmmifpgpfaaGreatRQL
import Derived.Test.YtfegkmmifpgpfaaGreatRQI
import Derived.SizedLaws
import Derived.OpenShut
import Derived.Test.YtfegkmmifpgpfaaGreatRQF
set_option linter.unusedVariables false
set_option linter.unusedSimpArgs false
set_option maxHeartbeats 8000000
set_option maxRecDepth 100000
namespace Go.Vc
open Go.Proofs
theorem MK{α:Type}{f:α->Array Value}{Q:α->Prop}:∀ {vs:List (Array Value)},(∀ v∈vs,∃ a,v=f a/\Q a)->∃ l:List α,vs=l.map f/\∀ a∈l,Q a
 | [],_=>⟨[],rfl,fun a h=>by cases h⟩
 | v :: vs,h=>by
  obtain⟨a,h1,h2⟩:=h v eH;obtain⟨l,h3,h4⟩:=MK fun w hw=>h w (dH _ hw);refine⟨a :: l,by rw[h1,h3];rfl,fun b hb=>?_⟩;rcases jg.1 hb with rfl | hb
  ·exact h2
  ·exact h4 b hb
def py:Option TypeDesc->Array Field
 | some (.struct fs)=>fs
 | _=>#[]
theorem zM{K:Type}{enc:TypeId × Value->K}{P:Program}{w:World}{sp:Nat->Bool}{hd:Bool}{m i o:Nat}{t:TypeId}{fs:Array Field}{cs:List Value}{xs:List (DataW K × List MemPlace)}(hl:xs.length=fs.size)
   (h:∀ (i:Nat) (f:Field),fs[i]?=some f->DataW.trod enc P w 0 sp hd m f.type ((cs.drop f.offset).take (P.cellsOf f.type))=xs[i]?) (hf:(fs[i]?).map (fun f=>(f.type,f.offset))=some (t,o)):∃ x,DataW.trod enc P w 0 sp hd m t ((cs.drop o).take (P.cellsOf t))=some x/\xs[i]?=some x/\(fs.toList.map (·.type))[i]?=some t:=by
 cases hq:fs[i]? with
 | none=>rw[hq]at hf;cases hf
 | some f=>
   rw[hq]at hf
   simp only[iR,iH,DJ]at hf
   obtain⟨rfl,rfl⟩:=hf
   have kc:i<xs.length:=by
     rw[hl]
     exact(kQ.1 hq).1
   have:=h i f hq
   rw[bU kc]at this ⊢
   refine⟨_,this,rfl,?_⟩
   rw[dR,nj,hq];rfl
theorem UU{k:IntKind}{n:Int}(h:(Lit.int k n).wf=true):k.min<=n/\n<=k.max:=by
 have tY:(decide (k.min<=n/\n<=k.max))=true:=by simpa[Lit.wf,IntKind.has]using h
 exact ks tY
theorem wf_i64{n:Int}(h:(Lit.int .i64 n).wf=true) : -9223372036854775808<=n/\n<=9223372036854775807:=by
 have:=UU h;rw[VT,max_i64]at this;exact this
theorem wf_u8{n:Int}(h:(Lit.int .u8 n).wf=true):0<=n/\n<256:=by
 have:=UU h;rw[abV,abZ]at this;omega
theorem VS:IntKind.u16.min=0:=by decide
theorem VZ:IntKind.u16.max=65535:=by decide
theorem VR:IntKind.u32.min=0:=by decide
theorem VY:IntKind.u32.max=4294967295:=by decide
theorem wf_u16{n:Int}(h:(Lit.int .u16 n).wf=true):0<=n/\n<65536:=by
 have:=UU h;rw[VS,VZ]at this;omega
theorem wf_u32{n:Int}(h:(Lit.int .u32 n).wf=true):0<=n/\n<4294967296:=by
 have:=UU h;rw[VR,VY]at this;omega
section
variable{K:Type}{enc:TypeId × Value->K}{w:World}{sp:Nat->Bool}{hd:Bool}{m:Nat}
theorem A3{P:Program}{t:TypeId}{fs:Array Field}(hu:P.underlying t=some (.struct fs)){parts:List (DataW K)}{i:Nat}{x:DataW K}{u:TypeId}(hx:parts[i]?=some x)(ht:(fs.toList.map (·.type))[i]?=some u){c:Nat}(h:∀ n∈(DataW.agg parts).weights P t,n<=c):∀ n∈x.weights P u,n<=c:=fun n hn=>by
 refine h n ?_;simp only[DataW.weights,hu];exact DataW.weights_mem_each ht hx n hn
theorem P3{P:Program}{e:TypeId}{n:Nat}:∀ {l:List (DataW K)} {x:DataW K},x∈l->n∈x.weights P e->n∈DataW.weightsAll P e l
 | y :: l,x,hx,hn=>by
  simp only[DataW.weightsAll,fH];rcases jg.1 hx with e | e
  ·exact .inl (e ▸ hn)
  ·exact .inr (P3 e hn)
theorem UP{P:Program}{t e:TypeId}(hu:P.underlying t=some (.slice e)){elems spare:List (DataW K)}{x:DataW K}(hx:x∈elems){c:Nat}(h:∀ n∈(DataW.slice elems spare).weights P t,n<=c):∀ n∈x.weights P e,n<=c:=fun n hn=>by
 refine h n ?_;simp only[DataW.weights,hu,jg,fH];exact .inr (.inl (P3 hx hn))
theorem aaY{P:Program}{t e:TypeId}(hu:P.underlying t=some (.slice e)){elems spare:List (DataW K)}{c:Nat}(h:∀ n∈(DataW.slice elems spare).weights P t,n<=c):(elems.length+spare.length)*P.bytesOf e<=c:=by
 refine h _ ?_;simp only[DataW.weights,hu,jg];exact .inl trivial
theorem Y6:TP.underlying 3=some (.int .i64):=by kernel_rfl
theorem aeQ:TP.underlying 5=some (.int .u8):=by kernel_rfl
theorem XF:TP.underlying 49=some (.int .u16):=by kernel_rfl
theorem G8:TP.underlying 51=some (.int .u32):=by kernel_rfl
theorem P2:TP.underlying 50=some (.int .u16):=by kernel_rfl
theorem aeR:TP.underlying 9=some .string:=by kernel_rfl
theorem Eh:TP.cellsOf 3=1:=by kernel_rfl
theorem aeX:TP.cellsOf 5=1:=by kernel_rfl
theorem XH:TP.cellsOf 49=1:=by kernel_rfl
theorem XG:TP.cellsOf 51=1:=by kernel_rfl
theorem P8:TP.cellsOf 50=1:=by kernel_rfl
theorem aeY:TP.cellsOf 9=1:=by kernel_rfl
theorem XI:TP.cellsOf 65=1024:=by kernel_rfl
theorem aeU:TP.underlying 65=some (.array 1024 5):=by kernel_rfl
theorem aeT:TP.underlying 241=some (.struct (py (TP.underlying 241))):=by kernel_rfl
theorem aaW:TP.underlying 149=some (.struct (py (TP.underlying 149))):=by kernel_rfl
theorem JN:TP.underlying 142=some (.struct (py (TP.underlying 142))):=by kernel_rfl
theorem LP:TP.underlying 26=some (.struct (py (TP.underlying 26))):=by kernel_rfl
theorem aeS:TP.underlying 23=some (.struct (py (TP.underlying 23))):=by kernel_rfl
theorem Fz:TP.underlying 28=some (.struct (py (TP.underlying 28))):=by kernel_rfl
theorem aaV:TP.underlying 54=some (.struct (py (TP.underlying 54))):=by kernel_rfl
theorem aaX:TP.underlying 140=some (.slice 241):=by kernel_rfl
theorem UN:TP.underlying 79=some (.slice 149):=by kernel_rfl
theorem LQ:TP.underlying 24=some (.slice 142):=by kernel_rfl
theorem ZK{l:List Value}{o:Nat}{c:Value}(h:(l.drop o).take 1=[c]):l[o]?=some c:=by
 have:=congrArg (fun l=>l[0]?) h;simpa[List.getElem?_take,LL]using this
theorem adB{v:Array Value}{x:DataW K × List MemPlace}(h:DataW.trod enc TP w 0 sp hd m 241 v.toList=some x):∃ e:A1,v=yh e/\e.1<65536/\e.2.size<9223372036854775808:=by
 obtain⟨xs,n,rfl,_,h1,h2,h3⟩:=DataW.trod_struct aeT h;rw[show TP.cellsOf 241=2 by kernel_rfl]at h1;obtain⟨y0,a0,_⟩:=zM (i:=0) (o:=0) (t:=49) h2 h3 (by kernel_rfl);obtain⟨y1,a1,_⟩:=zM (i:=1) (o:=1) (t:=9) h2 h3 (by kernel_rfl);rw[XH]at a0;rw[aeY]at a1;obtain⟨q0,b0,_,w0⟩:=DataW.trod_int XF a0;obtain⟨q1,b1,_,w1⟩:=DataW.trod_string aeR a1;have w0:=wf_u16 w0;refine⟨(q0.toNat,q1),?_,by show q0.toNat<65536;omega,by show q1.size<_;unfold maxLen at w1;omega⟩;have b0:=ZK b0;have b1:=ZK b1;rw[<- mV];apply ku;intro i
 match i with
 | 0=>rw[b0];show _=some (Value.int .u16 ((q0.toNat:Nat):Int));rw[show((q0.toNat:Nat):Int)=q0 by omega]
 | 1=>rw[b1];rfl
 | i+2=>rw[eR (by omega),eR (by simp[yh])]
theorem adT{l:List Value}{x:DataW K × List MemPlace}(h:DataW.trod enc TP w 0 sp hd m 65 l=some x):jR l.toArray:=by
 obtain⟨xs,n,rfl,_,h1,h2,h3⟩:=DataW.trod_array aeU h;rw[XI]at h1;refine⟨by simpa using h1,fun i hi=>?_⟩;have h4:=h3 i hi;rw[aeX,iX,bU (by omega)]at h4;obtain⟨q,b,_,w0⟩:=DataW.trod_int aeQ h4;have w0:=wf_u8 w0;refine⟨q.toNat,by omega,?_⟩;rw[fR,ZK b,show((q.toNat:Nat):Int)=q by omega]
theorem Wz{v:Array Value}{x:DataW K × List MemPlace}(h:DataW.trod enc TP w 0 sp hd m 149 v.toList=some x):∃ e:Int × jn,v=zy e/\(-9223372036854775808<=e.1/\e.1<=9223372036854775807)/\jR e.2:=by
 obtain⟨xs,n,rfl,_,h1,h2,h3⟩:=DataW.trod_struct aaW h;rw[show TP.cellsOf 149=1025 by kernel_rfl]at h1;obtain⟨y0,a0,_⟩:=zM (i:=0) (o:=0) (t:=3) h2 h3 (by kernel_rfl);obtain⟨y1,a1,_⟩:=zM (i:=1) (o:=1) (t:=65) h2 h3 (by kernel_rfl);rw[Eh]at a0;rw[XI]at a1;obtain⟨q0,b0,_,w0⟩:=DataW.trod_int Y6 a0;have hb:=adT a1;refine⟨(q0,((v.toList.drop 1).take 1024).toArray),?_,wf_i64 w0,hb⟩;have b0:=ZK b0;rw[<- mV];cases hv:v.toList with
 | nil=>rw[hv]at h1;simp at h1
 | cons c l=>
  rw[hv]at b0 h1;injection b0 with b0;subst b0;have:l.length=1024:=by rw[gR]at h1;omega
  have e:((Value.int .i64 q0 :: l).drop 1).take 1024=l:=by
   rw[List.drop_succ_cons,List.drop_zero];exact List.take_of_length_le (by rw[this];exact iU _)
  rw[e];show _=(#[Value.int .i64 q0]++l.toArray).toList;rw[Array.toList_append];rfl
theorem Mc{α:Type}{f:α->Array Value}{Q:α->Prop}{t e:TypeId}{k:Nat}(hu:TP.underlying t=some (.slice e))(hk:TP.cellsOf e=k)(hp:0<k){s:Value}{x:DataW K × List MemPlace}{c:Nat}(hw:∀ n∈x.1.weights TP t,n<=c)
   (wG:∀ (m:Nat) (v:Array Value) (y:DataW K × List MemPlace),DataW.trod enc TP w 0 sp hd m e v.toList=some y->(∀ n∈y.1.weights TP e,n<=c)->∃ a,v=f a/\Q a)
   (h:DataW.trod enc TP w 0 sp hd m t [s]=some x):∃ l:List α,Sr k w.heap s (l.map f)/\(∀ a∈l,Q a)/\l.length*TP.bytesOf e<=c:=by
 obtain⟨vs,m',ds,h1,h2,h3,_,h4⟩:=U5 hu hk hp h
 obtain⟨l,rfl,h5⟩:=MK (f:=f) (Q:=Q) (vs:=vs) fun v hv=>by
   obtain⟨i,hi⟩:=List.mem_iff_getElem?.1 hv
   have h6:=h3 i v hi
   have kI:i<vs.length:=by
     rcases jx i vs.length with h | h
     · exact h
     · rw[eR h]at hi;cases hi
   rw[bU (by omega)]at h6
   refine wG m' v _ h6 fun n hn=>?_
   rcases h4 with ⟨h4,_⟩ | ⟨r,h4⟩
   · rw[h4]at kI;simp at kI
   · rw[h4]at hw
     exact UP hu (iT.2 ⟨_,ju _,rfl⟩) hw n hn
 refine⟨l,h1,h5,?_⟩
 rcases h4 with ⟨h4,_⟩ | ⟨r,h4⟩
 · rw[List.map_eq_nil_iff]at h4;subst h4;simp
 · rw[h4]at hw
   have:=aaY hu hw
   rw[bR,h2,bR]at this
   exact kg (jU _ (Nat.le_add_right _ _)) this
theorem Wf{v:Array Value}{x:DataW K × List MemPlace}(h:DataW.trod enc TP w 0 sp hd m 142 v.toList=some x)(hw:∀ n∈x.1.weights TP 142,n<=reachBytes):∃ (t:nL) (dv sv:Value),v=qe t dv sv/\Sr 1025 w.heap dv (t.data.map zy)/\Sr 2 w.heap sv (t.kA.map yh)/\yv t:=by
 obtain⟨xs,n,rfl,hx,h1,h2,h3⟩:=DataW.trod_struct JN h;rw[show TP.cellsOf 142=7 by kernel_rfl]at h1;have hw:∀ n∈(DataW.agg (xs.map (·.1))).weights TP 142,n<=reachBytes:=by rw[hx]at hw;exact hw
 obtain⟨y0,a0,_⟩:=zM (i:=0) (o:=0) (t:=3) h2 h3 (by kernel_rfl);obtain⟨y1,a1,_⟩:=zM (i:=1) (o:=1) (t:=50) h2 h3 (by kernel_rfl);obtain⟨y2,a2,_⟩:=zM (i:=2) (o:=2) (t:=3) h2 h3 (by kernel_rfl);obtain⟨y3,a3,_⟩:=zM (i:=3) (o:=3) (t:=3) h2 h3 (by kernel_rfl);obtain⟨y4,a4,_⟩:=zM (i:=4) (o:=4) (t:=3) h2 h3 (by kernel_rfl);obtain⟨y5,a5,e5,f5⟩:=zM (i:=5) (o:=5) (t:=79) h2 h3 (by kernel_rfl);obtain⟨y6,a6,e6,f6⟩:=zM (i:=6) (o:=6) (t:=140) h2 h3 (by kernel_rfl);rw[Eh]at a0 a2 a3 a4;rw[P8]at a1;rw[show TP.cellsOf 79=1 by kernel_rfl]at a5;rw[show TP.cellsOf 140=1 by kernel_rfl]at a6;obtain⟨q0,b0,_,w0⟩:=DataW.trod_int Y6 a0;obtain⟨q1,b1,_,w1⟩:=DataW.trod_int P2 a1;obtain⟨q2,b2,_,w2⟩:=DataW.trod_int Y6 a2;obtain⟨q3,b3,_,w3⟩:=DataW.trod_int Y6 a3;obtain⟨q4,b4,_,w4⟩:=DataW.trod_int Y6 a4;have hlen:∀ o,o<7->∃ c,(v.toList.drop o).take 1=[c]:=fun o ho=>by
  refine⟨v.toList[o],?_⟩;rw[jF (by omega)];rfl
 obtain⟨dv,b5⟩:=hlen 5 (by omega);obtain⟨sv,b6⟩:=hlen 6 (by omega);rw[b5]at a5;rw[b6]at a6;have hw5:=A3 (c:=reachBytes) JN (parts:=xs.map (·.1)) (x:=y5.1) (i:=5) (by simp only[dR,e5,iR]) f5 hw;have hw6:=A3 (c:=reachBytes) JN (parts:=xs.map (·.1)) (x:=y6.1) (i:=6) (by simp only[dR,e6,iR]) f6 hw;obtain⟨ld,s5,o5,n5⟩:=Mc (f:=zy) (Q:=fun e:Int × jn=>(-9223372036854775808<=e.1/\e.1<=9223372036854775807)/\jR e.2) UN (show TP.cellsOf 149=1025 by kernel_rfl) (by omega) hw5 (fun m v y hy _=>Wz hy) a5;obtain⟨ls,s6,o6,n6⟩:=Mc (f:=yh) (Q:=fun e:A1=>e.1<65536/\e.2.size<9223372036854775808) aaX (by kernel_rfl) (k:=2) (by omega) hw6 (fun m v y hy _=>adB hy) a6;have r:=reachBytes_lt;have w1:=wf_u16 w1;have k5:1<=TP.bytesOf 149:=by decide +kernel
 have k6:1<=TP.bytesOf 241:=by decide +kernel
 have m5:=Nat.mul_le_mul_left ld.length k5;have m6:=Nat.mul_le_mul_left ls.length k6;refine⟨⟨q0,q1.toNat,q2,q3,q4,ld,ls⟩,dv,sv,?_,s5,s6,⟨wf_i64 w0,by show q1.toNat<65536;omega,wf_i64 w2,wf_i64 w3,wf_i64 w4,by show ld.length<_;omega,by show ls.length<_;omega,o5,o6⟩⟩;have b0:=ZK b0;have b1:=ZK b1;have b2:=ZK b2;have b3:=ZK b3;have b4:=ZK b4;have b5:=ZK b5;have b6:=ZK b6;rw[<- mV];apply ku;intro i
 match i with
 | 0=>rw[b0];rfl
 | 1=>rw[b1];show _=some (Value.int .u16 ((q1.toNat:Nat):Int));rw[show((q1.toNat:Nat):Int)=q1 by omega]
 | 2=>rw[b2];rfl
 | 3=>rw[b3];rfl
 | 4=>rw[b4];rfl
 | 5=>rw[b5];rfl
 | 6=>rw[b6];rfl
 | i+7=>rw[eR (by omega),eR (by simp[qe])]
theorem RO{s:Value}{x:DataW K × List MemPlace}(h:DataW.trod enc TP w 0 sp hd m 24 [s]=some x)(hw:∀ n∈x.1.weights TP 24,n<=reachBytes):∃ kU:List nL,Am w.heap s kU/\(∀ t∈kU,yv t)/\kU.length<281474976710656/\∃ b n c,s=.slice b n c:=by
 obtain⟨l,s1,o1,n1⟩:=Mc (α:=nL × Value × Value) (f:=fun a=>qe a.1 a.2.1 a.2.2) (Q:=fun a=>Sr 1025 w.heap a.2.1 (a.1.data.map zy)/\Sr 2 w.heap a.2.2 (a.1.kA.map yh)/\yv a.1) LQ (by kernel_rfl) (k:=7) (by omega) hw (fun m v y hy hwy=>by
  obtain⟨t,dv,sv,e,h1,h2,h3⟩:=Wf hy hwy;exact⟨(t,dv,sv),e,h1,h2,h3⟩) h
 have r:=reachBytes_lt;have k5:1<=TP.bytesOf 142:=by decide +kernel
 have m5:=Nat.mul_le_mul_left l.length k5;refine⟨l.map (·.1),⟨_,s1,by simp,fun i t hi=>?_⟩,fun t ht=>?_,by rw[bR];omega,?_⟩
 ·rw[dR]at hi;cases hl:l[i]? with
  | none=>rw[hl]at hi;cases hi
  | some a=>
   rw[hl]at hi;injection hi with hi;subst hi;have:=o1 a (jV hl);exact⟨a.2.1,a.2.2,by rw[dR,hl];rfl,this.1,this.2.1⟩
 ·obtain⟨a,ha,rfl⟩:=iT.1 ht;exact(o1 a ha).2.2
 ·obtain⟨b,c,e⟩:=s1.len;exact⟨b,_,c,e⟩
theorem adX{v:Value}(h:v.cells.size≠1):v=.agg v.cells:=by
 cases v<;>first | rfl | exact absurd rfl h
theorem Ds{l:List Value}{o n j:Nat}{c:Value}(h:(((l.drop o).take n).drop j).take 1=[c])(hj:j<n):l[o+j]?=some c:=by
 have:=ZK h;rw[List.getElem?_take,aU hj,LL]at this;exact this
theorem P6{v:Value}{x:DataW K × List MemPlace}(h:DataW.trod enc TP w 0 sp hd m 28 v.cells.toList=some x)(hw:∀ n∈x.1.weights TP 28,n<=reachBytes) :
   ∃ (B L I:Int) (iv:Value) (fr sp lB:Int) (kU:List nL),v=.agg (oK B L I iv fr sp lB)/\(-9223372036854775808<=B/\B<=9223372036854775807)/\(-9223372036854775808<=lB/\lB<=9223372036854775807)/\Am w.heap iv kU/\(∀ t∈kU,yv t)/\kU.length<281474976710656/\∃ b n c,iv=.slice b n c:=by
 obtain⟨xs,n,rfl,hx,h1,h2,h3⟩:=DataW.trod_struct Fz h
 rw[show TP.cellsOf 28=7 by kernel_rfl]at h1
 have hw:∀ n∈(DataW.agg (xs.map (·.1))).weights TP 28,n<=reachBytes:=by rw[hx]at hw;exact hw
 obtain⟨y0,a0,_⟩:=zM (i:=0) (o:=0) (t:=23) h2 h3 (by kernel_rfl)
 obtain⟨y1,a1,e1,f1⟩:=zM (i:=1) (o:=3) (t:=26) h2 h3 (by kernel_rfl)
 obtain⟨y2,a2,_⟩:=zM (i:=2) (o:=6) (t:=3) h2 h3 (by kernel_rfl)
 rw[show TP.cellsOf 23=3 by kernel_rfl]at a0
 rw[show TP.cellsOf 26=3 by kernel_rfl]at a1
 rw[Eh]at a2
 have DV:=A3 (c:=reachBytes) Fz (parts:=xs.map (·.1)) (x:=y1.1) (i:=1) (by simp only[dR,e1,iR]) f1 hw
 obtain⟨q6,b6,_,w6⟩:=DataW.trod_int Y6 a2
 obtain⟨gs,ng,rfl,_,g1,g2,g3⟩:=DataW.trod_struct aeS a0
 obtain⟨z0,c0,_⟩:=zM (i:=0) (o:=0) (t:=3) g2 g3 (by kernel_rfl)
 obtain⟨z1,c1,_⟩:=zM (i:=1) (o:=1) (t:=3) g2 g3 (by kernel_rfl)
 obtain⟨z2,c2,_⟩:=zM (i:=2) (o:=2) (t:=3) g2 g3 (by kernel_rfl)
 rw[Eh]at c0 c1 c2
 obtain⟨q0,b0,_,w0⟩:=DataW.trod_int Y6 c0
 obtain⟨q1,b1,_,w1⟩:=DataW.trod_int Y6 c1
 obtain⟨q2,b2,_,w2⟩:=DataW.trod_int Y6 c2
 obtain⟨ss,ns,_,sx,s1,s2,s3⟩:=DataW.trod_struct LP a1
 obtain⟨z3,c3,e3,f3⟩:=zM (i:=0) (o:=0) (t:=24) s2 s3 (by kernel_rfl)
 obtain⟨z4,c4,_⟩:=zM (i:=1) (o:=1) (t:=3) s2 s3 (by kernel_rfl)
 obtain⟨z5,c5,_⟩:=zM (i:=2) (o:=2) (t:=3) s2 s3 (by kernel_rfl)
 rw[Eh]at c4 c5
 rw[show TP.cellsOf 24=1 by kernel_rfl]at c3
 have DV:∀ n∈(DataW.agg (ss.map (·.1))).weights TP 26,n<=reachBytes:=by rw[sx]at DV;exact DV
 have hw3:=A3 (c:=reachBytes) LP (parts:=ss.map (·.1)) (x:=z3.1) (i:=0) (by simp only[dR,e3,iR]) f3 DV
 obtain⟨q4,b4,_,_⟩:=DataW.trod_int Y6 c4
 obtain⟨q5,b5,_,_⟩:=DataW.trod_int Y6 c5
 have hlen:v.cells.size=7:=by rw[<- lG];exact h1
 obtain⟨iv,b3⟩:∃ c,(((v.cells.toList.drop 3).take 3).drop 0).take 1=[c]:=by
   refine⟨v.cells.toList[3],?_⟩
   rw[List.drop_zero,List.take_take,jF (by omega)]
   rfl
 rw[b3]at c3
 obtain⟨kU,hs,ho,hl,Ua⟩:=RO c3 hw3
 refine⟨q0,q1,q2,iv,q4,q5,q6,kU,?_,wf_i64 w0,wf_i64 w6,hs,ho,hl,Ua⟩
 have b0:=Ds b0 (by omega)
 have b1:=Ds b1 (by omega)
 have b2:=Ds b2 (by omega)
 have b3:=Ds b3 (by omega)
 have b4:=Ds b4 (by omega)
 have b5:=Ds b5 (by omega)
 have b6:=ZK b6
 refine(adX (by omega)).trans ?_
 congr 1
 rw[<- mV]
 suffices key:∀ l:List Value,l=v.cells.toList->l=(oK q0 q1 q2 iv q4 q5 q6).toList from key _ rfl
 intro l hl0
 rw[<- hl0]at b0 b1 b2 b3 b4 b5 b6 h1
 apply ku
 intro i
 match i with
 | 0=>rw[show l[0]?=_ from b0];rfl
 | 1=>rw[show l[1]?=_ from b1];rfl
 | 2=>rw[show l[2]?=_ from b2];rfl
 | 3=>rw[show l[3]?=_ from b3];rfl
 | 4=>rw[show l[4]?=_ from b4];rfl
 | 5=>rw[show l[5]?=_ from b5];rfl
 | 6=>rw[b6];rfl
 | i+7=>rw[eR (by omega),eR (by simp[oK])]
theorem UO:TP.underlying 52=some (.array 10 51):=by kernel_rfl
def Ck(l:List Value)(i:Nat):Nat:=match l[i]? with | some (.int _ n)=>n.toNat | _=>0
theorem ack{l:List Value}{x:DataW K × List MemPlace}(h:DataW.trod enc TP w 0 sp hd m 54 l=some x):l=(zS (Ck l)).toList/\lE (Ck l):=by
 obtain⟨xs,n,rfl,hx,h1,h2,h3⟩:=DataW.trod_struct aaV h;rw[show TP.cellsOf 54=16 by kernel_rfl]at h1;obtain⟨y0,a0,_⟩:=zM (i:=0) (o:=0) (t:=50) h2 h3 (by kernel_rfl);obtain⟨y1,a1,_⟩:=zM (i:=1) (o:=1) (t:=49) h2 h3 (by kernel_rfl);obtain⟨y2,a2,_⟩:=zM (i:=2) (o:=2) (t:=51) h2 h3 (by kernel_rfl);obtain⟨y3,a3,_⟩:=zM (i:=3) (o:=3) (t:=51) h2 h3 (by kernel_rfl);obtain⟨y4,a4,_⟩:=zM (i:=4) (o:=4) (t:=52) h2 h3 (by kernel_rfl);obtain⟨y5,a5,_⟩:=zM (i:=5) (o:=14) (t:=51) h2 h3 (by kernel_rfl);obtain⟨y6,a6,_⟩:=zM (i:=6) (o:=15) (t:=51) h2 h3 (by kernel_rfl);rw[P8]at a0;rw[XH]at a1;rw[XG]at a2 a3 a5 a6;rw[show TP.cellsOf 52=10 by kernel_rfl]at a4;obtain⟨q0,b0,_,w0⟩:=DataW.trod_int P2 a0;obtain⟨q1,b1,_,w1⟩:=DataW.trod_int XF a1;obtain⟨q2,b2,_,w2⟩:=DataW.trod_int G8 a2;obtain⟨q3,b3,_,w3⟩:=DataW.trod_int G8 a3;obtain⟨q5,b5,_,w5⟩:=DataW.trod_int G8 a5;obtain⟨q6,b6,_,w6⟩:=DataW.trod_int G8 a6;obtain⟨zs,nz,_,_,z1,z2,z3⟩:=DataW.trod_array UO a4;have key:∀ i,i<16->∃ q:Int,l[i]?=some (.int (if i<2 then .u16 else .u32) q)/\0<=q/\q<((256 ^ fw i:Nat):Int):=fun i hi=>by
  have hc:i=0\/i=1\/i=2\/i=3\/(4<=i/\i<14)\/i=14\/i=15:=by omega
  rcases hc with rfl | rfl | rfl | rfl | hc | rfl | rfl
  ·exact⟨q0,ZK b0,wf_u16 w0⟩
  ·exact⟨q1,ZK b1,wf_u16 w1⟩
  ·exact⟨q2,ZK b2,wf_u32 w2⟩
  ·exact⟨q3,ZK b3,wf_u32 w3⟩
  ·have h4:=z3 (i - 4) (by omega);rw[XG,iX,bU (by omega)]at h4;obtain⟨q,b,_,w4⟩:=DataW.trod_int G8 h4;have b:=Ds b (by omega);rw[show 4+(i - 4)=i by omega]at b;refine⟨q,by rw[aH (by omega)];exact b,?_⟩;unfold fw;rw[aH (by omega)];exact wf_u32 w4
  ·exact⟨q5,ZK b5,wf_u32 w5⟩
  ·exact⟨q6,ZK b6,wf_u32 w6⟩
 have hn:∀ i,i<16->l[i]?=some (.int (if i<2 then .u16 else .u32) (Ck l i))/\Ck l i<256 ^ fw i:=fun i hi=>by
  obtain⟨q,h4,h5,h6⟩:=key i hi;have e:Ck l i=q.toNat:=by unfold Ck;rw[h4]
  rw[e,h4,show((q.toNat:Nat):Int)=q by omega];exact⟨rfl,by omega⟩
 refine⟨?_,fun i hi=>(hn i hi).2⟩;apply ku;intro i;by_cases hi:i<16
 ·rw[(hn i hi).1,nj];have hc:i=0\/i=1\/2<=i:=by omega
  rcases hc with rfl | rfl | hc
  ·rfl
  ·rfl
  ·rw[Zq _ i hc hi,aH (by omega)]
 ·rw[eR (by omega),eR (by rw[lG,zt];omega)]
end
theorem GH{P:Program}{W:World}{r:Reach}{base:Nat}{u e:TypeId}(hu:P.underlying u=some (.slice e)):Cell.okWide P W r base u (.slice none 0 0):=by
 simp[Cell.okWide,hu,Cell.ok]
theorem US:TP.cellTypes TP.depth 28=some [3,3,3,24,3,3,3]:=by kernel_rfl
theorem P5{W:World}{base:Nat}:Value.okWide TP W .any base 28 (.agg (oK 0 0 0 (.slice none 0 0) 0 0 0)):=by
 refine F0 Fz rfl (show TP.cellsOf 28=7 by kernel_rfl) US rfl rfl fun i u hu=>?_
 match i,hu with
 | 0,hu=>injection hu with hu;subst hu;exact⟨_,rfl,y8 Y6 (by decide) (by decide)⟩
 | 1,hu=>injection hu with hu;subst hu;exact⟨_,rfl,y8 Y6 (by decide) (by decide)⟩
 | 2,hu=>injection hu with hu;subst hu;exact⟨_,rfl,y8 Y6 (by decide) (by decide)⟩
 | 3,hu=>injection hu with hu;subst hu;exact⟨_,rfl,GH LQ⟩
 | 4,hu=>injection hu with hu;subst hu;exact⟨_,rfl,y8 Y6 (by decide) (by decide)⟩
 | 5,hu=>injection hu with hu;subst hu;exact⟨_,rfl,y8 Y6 (by decide) (by decide)⟩
 | 6,hu=>injection hu with hu;subst hu;exact⟨_,rfl,y8 Y6 (by decide) (by decide)⟩
 | i+7,hu=>simp at hu
end Go.Vc
