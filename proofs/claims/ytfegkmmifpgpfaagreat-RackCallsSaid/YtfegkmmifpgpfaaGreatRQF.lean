/- Parts of a proof, joined in build order: a calculus of contracts, contracts of functions. -/
import Derived.Test.YtfegkmmifpgpfaaGreatRQE
import Derived.Test.YtfegkmmifpgpfaaGreatProg
set_option linter.unusedVariables false
set_option linter.unusedSimpArgs false
set_option maxHeartbeats 8000000
set_option maxRecDepth 100000
namespace Go.Proofs
open Go.Vc
noncomputable abbrev TP:Program:=Tryz.prog
abbrev Ul(a:Value)(H:Hp)(K:Value->Prop):=Pu (zX (some none) a H) K
abbrev UL(n:Nat)(a:Value)(H:Hp)(K:Value->Prop):=Pu (zX (some (some n)) a H) K
abbrev UA(n:Nat)(a:Value)(K:Value->Prop):=Pu (Fo (some n) a) K
abbrev Us(n:Nat)(a v:Value)(H:Hp)(K:Hp->Prop):=Pu (zY (some n) a v H) K
abbrev Ub(o:BinOp)(x y:Value)(K:Value->Prop):=Pu (z8 (some (.int .i64)) o x y) K
abbrev Uz(t:Nat)(H:Hp)(K:Value->Hp->Prop):=Pu (ZZ TP t) fun x=>kT t x H K
abbrev Ux(x:Value)(n:Nat)(K:Value->Prop):=Pu (zq x n) K
abbrev UI(x:Value)(K:Value->Prop):=Pu (zl x) K
abbrev Uf(f:FuncId)(l:Array Value)(H:Hp)(K:Value->Hp->Prop):=Fc TP f l H K
abbrev Uw(H:Hp)(K:Hp->Prop):=lC true H K
abbrev Ui(n:Nat)(s i:Value)(K:Value->Prop):=Pu (zG (some (none,n)) s i) K
abbrev Uk(m n:Nat)(s i:Value)(K:Value->Prop):=Pu (zG (some (some m,n)) s i) K
abbrev Ug(t:Nat)(x:Value)(K:Value->Prop):=Pu (j9 TP t x) K
abbrev Uu(x:Value)(K:Value->Prop):=Pu (unE .not x) K
abbrev Uj{n:Nat}(X:Bw n->Hp->Prop)(Y:(Bw n->Hp->Prop)->Prop):=Zg (n:=n) (fun s H=>Any fun _=>X s H) Y
abbrev Uo{n:Nat}(t:Bw n)(H:Hp)(X:(Bw n->Hp->Prop)->Bw n->Hp->Prop):=zF (n:=n) t H fun K s H=>Any fun _=>X K s H
abbrev Uq(t:Nat)(v s:Value)(H:Hp)(K:Value->Hp->Prop):=Pu (zQ TP t) fun x=>Pu (zT (some x) 1 [(0,v)]) fun y=>nK x.type 1 y H fun z H=>mD (zQ TP t) s z H K
abbrev Uv(n:Int):Value:=.int .i64 n
abbrev U1:Value:=.bool true
abbrev U0:Value:=.bool false
def Ur(a n:Nat):List Nat:=List.range' a n
abbrev UQ:FuncId->Bool:=fun _=>false
theorem UG0{f:FuncId}{fn:Func}{S:Prop}{H:Hp}{R:Value->Hp->Prop}(qf:FuncId->Bool)(a:BC)(hf:TP.funcs[f]?=some fn)(h:S)(e:S=Dv TP qf fn a [] H R:=by kernel_rfl):Fc TP f #[] H R:=qG qf a hf (args:=[]) (e ▸ h)
theorem mU{f:FuncId}{fn:Func}{S:Prop}{v0:Value}{H:Hp}{R:Value->Hp->Prop}(qf:FuncId->Bool)(a:BC)(hf:TP.funcs[f]?=some fn)(h:S)(e:S=Dv TP qf fn a [v0] H R:=by kernel_rfl):Fc TP f #[v0] H R:=qG qf a hf (args:=[v0]) (e ▸ h)
theorem mr{f:FuncId}{fn:Func}{S:Prop}{v0 v1:Value}{H:Hp}{R:Value->Hp->Prop}(qf:FuncId->Bool)(a:BC)(hf:TP.funcs[f]?=some fn)(h:S)(e:S=Dv TP qf fn a [v0,v1] H R:=by kernel_rfl):Fc TP f #[v0,v1] H R:=qG qf a hf (args:=[v0,v1]) (e ▸ h)
theorem xe{f:FuncId}{fn:Func}{S:Prop}{v0 v1 v2:Value}{H:Hp}{R:Value->Hp->Prop}(qf:FuncId->Bool)(a:BC)(hf:TP.funcs[f]?=some fn)(h:S)(e:S=Dv TP qf fn a [v0,v1,v2] H R:=by kernel_rfl):Fc TP f #[v0,v1,v2] H R:=qG qf a hf (args:=[v0,v1,v2]) (e ▸ h)
theorem UG4{f:FuncId}{fn:Func}{S:Prop}{v0 v1 v2 v3:Value}{H:Hp}{R:Value->Hp->Prop}(qf:FuncId->Bool)(a:BC)(hf:TP.funcs[f]?=some fn)(h:S)(e:S=Dv TP qf fn a [v0,v1,v2,v3] H R:=by kernel_rfl):Fc TP f #[v0,v1,v2,v3] H R:=qG qf a hf (args:=[v0,v1,v2,v3]) (e ▸ h)
theorem UG5{f:FuncId}{fn:Func}{S:Prop}{v0 v1 v2 v3 v4:Value}{H:Hp}{R:Value->Hp->Prop}(qf:FuncId->Bool)(a:BC)(hf:TP.funcs[f]?=some fn)(h:S)(e:S=Dv TP qf fn a [v0,v1,v2,v3,v4] H R:=by kernel_rfl):Fc TP f #[v0,v1,v2,v3,v4] H R:=qG qf a hf (args:=[v0,v1,v2,v3,v4]) (e ▸ h)
theorem UG6{f:FuncId}{fn:Func}{S:Prop}{v0 v1 v2 v3 v4 v5:Value}{H:Hp}{R:Value->Hp->Prop}(qf:FuncId->Bool)(a:BC)(hf:TP.funcs[f]?=some fn)(h:S)(e:S=Dv TP qf fn a [v0,v1,v2,v3,v4,v5] H R:=by kernel_rfl):Fc TP f #[v0,v1,v2,v3,v4,v5] H R:=qG qf a hf (args:=[v0,v1,v2,v3,v4,v5]) (e ▸ h)
theorem UE{A B:Prop}(e:A=B)(h:A):B:=e ▸ h
section
variable(v0 v1 v2 v3 v4 v5 v6 v7 v8:Value)(H:Hp)(R:Value->Hp->Prop)
def sh49:Prop:=Pu (ya TP 37 true .neq v0 (.pointer none) H) fun a=>hU a (UI v0 fun b=>UA 0 b fun c=>Ul c H fun d=>Ub .gtr d (Uv 0) fun e=>R e H) (R U0 H)
def sh129:Prop:=Uf 49 #[v0] H fun b a=>Uu b fun c=>hU c (R (Uv 0) a) (UI v0 fun d=>UA 0 d fun e=>Ul e a fun f=>R f a)
def sh102:Prop:=Uf 49 #[v0] H fun b a=>Uu b fun c=>hU c (R (Uv 1) a) (UI v0 fun d=>UA 6 d fun e=>Ul e a fun f=>hU f (R (Uv 3) a) (R (Uv 0) a))
def sh46:Prop:=Uz 65 H fun a q=>Uf 102 #[v0] q fun f c=>Ub .neq f (Uv 0) fun r=>hU r (Pu (zo TP 65 []) fun s=>Us 1024 a s c fun g=>UL 1024 a g fun t=>R (.tuple #[t,f]) g) (Uj (n:=1) (fun u d=>hU u.1 (Pu (zo TP 65 []) fun v=>Us 1024 a v d fun h=>UL 1024 a h fun w=>R (.tuple #[w,(Uv 2)]) h) (UI v0 fun x=>UA 8 x fun y=>Ul y d fun z=>Ub .add z (Uv 1) fun A=>UI v0 fun B=>UA 8 B fun C=>Us 1 C A d fun e=>UI v0 fun D=>UA 2 D fun E=>Ul E e fun F=>Pu (yf TP (some (3,.int .i64,65)) true F v1 e) fun i=>Ux i 0 fun G=>Ux i 1 fun I=>Uz 65 e fun j J=>Us 1024 j G J fun b=>hU I (UL 1024 j b fun K=>Us 1024 a K b fun k=>UL 1024 a k fun L=>R (.tuple #[L,(Uv 0)]) k) (UI v0 fun M=>UA 1 M fun N=>Ul N b fun O=>Pu (yf TP (some (3,.int .i64,65)) false O v1 b) fun P=>Uz 65 b fun l Q=>Us 1024 l P Q fun m=>UL 1024 l m fun T=>Us 1024 a T m fun o=>UL 1024 a o fun V=>R (.tuple #[V,(Uv 0)]) o))) (fun p=>Ub .lss v1 (Uv 0) fun W=>hU W (p (U1,()) c) (UI v0 fun X=>UA 0 X fun Y=>Ul Y c fun Z=>Ub .geq v1 Z fun aa=>p (aa,()) c)))
def sh142:Prop:=Uf 49 #[v0] H fun b a=>hU b (UI v0 fun c=>UA 6 c fun d=>Ul d a fun e=>R e a) (R U0 a)
def sh138:Prop:=UI v0 fun c=>UA 5 c fun d=>Ul d H fun e=>Ub .eql e (Uv 0) fun f=>hU f (UI v0 fun g=>UA 6 g fun h=>Us 1 h U1 H fun i=>R U0 i) (Uj (n:=0) (fun C a=>UI v0 fun j=>UA 7 j fun k=>Ul k a fun l=>Ub .add l (Uv 1) fun m=>UI v0 fun o=>UA 7 o fun p=>Us 1 p m a fun q=>R U1 q) (fun b=>UI v0 fun r=>UA 5 r fun s=>Ul s H fun t=>Ub .gtr t (Uv 0) fun u=>hU u (UI v0 fun v=>UA 5 v fun w=>Ul w H fun x=>Ub .sub x (Uv 1) fun y=>UI v0 fun z=>UA 5 z fun A=>Us 1 A y H fun B=>b (()) B) (b (()) H)))
def sh94:Prop:=kT 65 v2 H fun c k=>Uf 102 #[v0] k fun f a=>Ub .neq f (Uv 0) fun l=>hU l (R f a) (Uj (n:=1) (fun m g=>hU m.1 (R (Uv 2) g) (Uf 138 #[v0] g fun o b=>Uu o fun p=>hU p (R (Uv 3) b) (UI v0 fun q=>UA 3 q fun r=>Ul r b fun s=>UL 1024 c b fun t=>Pu (zo TP 149 [(0,v1),(1,t)]) fun u=>Uw b fun v=>Pu (zQ TP 79) fun h=>Pu (zT (some h) 1 [(0,u)]) fun w=>nK h.type 1 w v fun x y=>Uw y fun z=>mD (zQ TP 79) s x z fun A B=>UI v0 fun C=>UA 3 C fun D=>Uw B fun E=>Us 1 D A E fun F=>Uw F fun d=>UI v0 fun G=>UA 2 G fun I=>Ul I d fun J=>UL 1024 c d fun K=>Pu (yM (some (3,.int .i64,65)) J v1 K d) fun e=>UI v0 fun L=>UA 4 L fun M=>Ul M e fun N=>UL 1024 c e fun O=>Pu (zo TP 211 [(0,(.int .u8 1)),(1,v1),(2,O)]) fun P=>Uw e fun Q=>Pu (zQ TP 113) fun i=>Pu (zT (some i) 1 [(0,P)]) fun T=>nK i.type 1 T Q fun V W=>Uw W fun X=>mD (zQ TP 113) N V X fun Y Z=>UI v0 fun aa=>UA 4 aa fun ab=>Uw Z fun ac=>Us 1 ab Y ac fun ad=>Uw ad fun ae=>R (Uv 0) ae))) (fun j=>Ub .lss v1 (Uv 0) fun af=>hU af (j (U1,()) a) (UI v0 fun ag=>UA 0 ag fun ah=>Ul ah a fun ai=>Ub .geq v1 ai fun aj=>j (aj,()) a)))
def sh82:Prop:=Uj (n:=1) (fun c a=>hU c.1 (R (.tuple #[(.pointer none),(Uv 2)]) a) (oY a fun d e=>oY e fun f g=>Pu (zo TP 115 [(0,v0),(1,d),(2,f),(5,(Uv (-1)))]) fun h=>kT 115 h g fun i j=>R (.tuple #[i,(Uv 0)]) j)) (fun b=>Ub .lss v0 (Uv 1) fun k=>hU k (b (U1,()) H) (Ub .gtr v0 (Uv 1048576) fun l=>b (l,()) H))
def sh30:Prop:=kT 81 v0 H fun e i=>UA 0 e fun o=>Ul o i fun p=>Uf 82 #[p] i fun j f=>Ux j 0 fun k=>Ux j 1 fun q=>Ub .neq q (Uv 0) fun r=>hU r (R (.tuple #[(.pointer none),(Uv 4)]) f) (UA 1 e fun s=>Ul s f fun l=>Ug 79 l fun t=>Uo (n:=2) ((Uv (-1)),(Uv 0),()) f (fun u d g=>Ub .lss d.2.1 t fun v=>hU v (Ui 1025 l d.2.1 fun w=>UL 1025 w g fun x=>Uz 149 g fun b y=>Us 1025 b x y fun a=>Uj (n:=1) (fun z c=>hU z.1 (R (.tuple #[(.pointer none),(Uv 4)]) c) (UI k fun A=>UA 1 A fun B=>Ul B c fun C=>UA 0 b fun D=>Ul D c fun E=>UA 1 b fun F=>UL 1024 F c fun G=>Pu (yM (some (3,.int .i64,65)) C E G c) fun m=>UA 0 b fun I=>Ul I m fun J=>Ub .add d.2.1 (Uv 1) fun K=>u (J,K,()) m)) (fun h=>UA 0 b fun L=>Ul L a fun M=>Ub .leq M d.1 fun N=>hU N (h (U1,()) a) (UA 0 b fun O=>Ul O a fun P=>UA 0 e fun Q=>Ul Q a fun T=>Ub .geq P T fun V=>hU V (h (U1,()) a) (UA 1 b fun W=>UL 1024 W a fun X=>Pu (zo TP 65 []) fun Y=>Pu (ya TP 65 false .eql X Y a) fun Z=>h (Z,()) a)))) (R (.tuple #[k,(Uv 0)]) g)))
end
variable{v0 v1 v2 v3 v4 v5 v6 v7 v8:Value}{H:Hp}{R:Value->Hp->Prop}
theorem fn49(h:sh49 v0 H R):Fc TP 49 #[v0] H R:=
 mU UQ .nil Tryz.func49 h
theorem fn129(h:sh129 v0 H R):Fc TP 129 #[v0] H R:=
 mU UQ .nil Tryz.func129 h
theorem fn102(h:sh102 v0 H R):Fc TP 102 #[v0] H R:=
 mU UQ .nil Tryz.func102 h
theorem fn46(h:sh46 v0 v1 H R):Fc TP 46 #[v0,v1] H R:=
 mr UQ (.seq .nil (.seq .nil (.seq (.join [25] (Ur 16 9) .nil .nil) .nil))) Tryz.func46 h
theorem fn142(h:sh142 v0 H R):Fc TP 142 #[v0] H R:=
 mU UQ .nil Tryz.func142 h
theorem fn138(h:sh138 v0 H R):Fc TP 138 #[v0] H R:=
 mU UQ (.seq .nil (.seq .nil (.join [] (Ur 11 12) .nil .nil))) Tryz.func138 h
theorem fn94(h:sh94 v0 v1 v2 H R):Fc TP 94 #[v0,v1,v2] H R:=
 xe UQ (.seq .nil (.seq .nil (.seq (.join [22] (Ur 13 9) .nil .nil) .nil))) Tryz.func94 h
theorem fn82(h:sh82 v0 H R):Fc TP 82 #[v0] H R:=
 mU UQ (.seq .nil (.seq (.join [9] (Ur 4 5) .nil .nil) .nil)) Tryz.func82 h
theorem fn30(h:sh30 v0 H R):Fc TP 30 #[v0] H R:=
 mU UQ (.seq .nil (.seq .nil (.seq .nil (.seq .nil (.seq (.seq .nil (.loop [6,20] ([21,22,23,8]++Ur 24 17++[2,3]++Ur 41 11) (.seq .nil (.seq .nil (.seq (.seq .nil (.seq (.join [40] (Ur 24 16) .nil .nil) .nil)) .nil))))) .nil))))) Tryz.func30 h
end Go.Proofs
namespace Go.Vc
open Go.Proofs
structure kS(O O':Nat->Prop)(H H':Hp):Prop where
 kp:Kp O H H'
 new:∀ b,O' b->O b\/H.size<=b
theorem kS.refl(O:Nat->Prop)(H:Hp):kS O O H H:=⟨Kp.refl O H,fun b h=>.inl h⟩
theorem kS.trans{O O' O'':Nat->Prop}{H H' oZ:Hp}(h:kS O O' H H')(h':kS O' O'' H' oZ):kS O O'' H oZ:=
 ⟨h.kp.tr h'.kp (fun k _ hk=>hk) (fun k hk ho=>(h.new k ho).resolve_right (by omega)),fun b hb=>by
  rcases h'.new b hb with h1 | h1
  ·exact h.new b h1
  ·exact .inr (kg h.kp.le h1)⟩
theorem Ext.oF{H H':Hp}(h:Ext H H')(O:Nat->Prop):kS O O H H':=⟨h.kp O,fun b h=>.inl h⟩
theorem Kp.oF{O S:Nat->Prop}{H H':Hp}(h:Kp S H H')(hs:∀ b,b<H.size->S b->O b):kS O O H H':=⟨h.mono hs,fun b h=>.inl h⟩
abbrev jn:=Array Value
def zB:jn:=Array.replicate 1024 (.int .u8 0)
theorem z6:jR zB:=RS
theorem zw:zB.size=1024:=by simp[zB]
theorem jR.ok{c:jn}(h:jR c):zv c:=h.all
abbrev zD(b:Nat):Value:=.pointer (some ⟨b,0,none⟩)
def nG(g:Int->jn)(k:Int)(c:jn):Int->jn:=fun j=>if j=k then c else g j
structure DS where
 n:Int
 now:Int->jn
 held:Int->jn
 jC:Int
 jt:Bool
 made:Int
 reads:Int
 jS:Int
 kB:Int
 pl:Nat
 hl:Nat
def wO(s:DS)(mh ml:Nat)(ps hs:Value):Array Value:=#[.int .i64 s.n,.map (some mh),.map (some ml),ps,hs,.int .i64 s.jC,.bool s.jt,.int .i64 s.made,.int .i64 s.reads,.int .i64 s.jS,.int .i64 s.kB]
def zy(x:Int × jn):Array Value:=#[.int .i64 x.1]++x.2
structure DI(H:Hp)(p:Nat)(s:DS)(mh ml:Nat)(ps hs:Value)(fh fl:Int->Option jn)(nh nl:Nat)(kK:List (Int × jn))(lJ:List (Array Value)):Prop where
 top:H[p]?=some (.cells (wO s mh ml ps hs) 115)
 LD:kq H mh (fun k=>(fh k).map .agg) nh
 LC:kq H ml (fun k=>(fl k).map .agg) nl
 LA:Sv 149 1025 H ps (kK.map zy)
 Pw:Sv 211 1026 H hs lJ
 df:p≠mh/\p≠ml/\mh≠ml
 S9:∀ b,ZH ps=some b->b≠p/\b≠mh/\b≠ml/\ZH hs≠some b
 GY:∀ b,ZH hs=some b->b≠p/\b≠mh/\b≠ml
 bh:∀ k c,fh k=some c->jR c
 bl:∀ k c,fl k=some c->jR c
 bp:∀ x∈kK,jR x.2
 now:∀ k,s.now k=(fl k).getD ((fh k).getD zB)
 held:∀ k,s.held k=(fh k).getD zB
 wait:kK.foldl (fun g x=>nG g x.1 x.2) s.held=s.now
 pl:s.pl=kK.length
 hl:s.hl=lJ.length
 pos:0<s.n
structure jQ(H:Hp)(p:Nat)(s:DS)(O:Nat->Prop):Prop where
 is:∃ mh ml ps hs fh fl nh nl kK lJ,DI H p s mh ml ps hs fh fl nh nl kK lJ/\O p/\O mh/\O ml/\(∀ b,ZH ps=some b->O b)/\(∀ b,ZH hs=some b->O b)
 lt:∀ b,O b->b<H.size
section
variable{H H':Hp}{p mh ml nh nl:Nat}{s:DS}{O O':Nat->Prop}{ps hs:Value}{fh fl:Int->Option jn}{kK:List (Int × jn)}{lJ:List (Array Value)}
theorem DI.of(h:DI H p s mh ml ps hs fh fl nh nl kK lJ)(hp:H'[p]?=H[p]?)(h1:H'[mh]?=H[mh]?)(h2:H'[ml]?=H[ml]?)(h3:∀ b,ZH ps=some b->H'[b]?=H[b]?)(h4:∀ b,ZH hs=some b->H'[b]?=H[b]?):DI H' p s mh ml ps hs fh fl nh nl kK lJ:=
 { h with top:=by rw[hp];exact h.top,LD:=h.LD.of h1,LC:=h.LC.of h2,LA:=h.LA.of h3,Pw:=h.Pw.of h4 }
theorem jQ.of(h:jQ H p s O)(hb:∀ b,O b->H'[b]?=H[b]?)(hle:H.size<=H'.size):jQ H' p s O:=by
 obtain⟨⟨mh,ml,ps,hs,fh,fl,nh,nl,kK,lJ,hd,o1,o2,o3,o4,o5⟩,hl⟩:=h;exact⟨⟨mh,ml,ps,hs,fh,fl,nh,nl,kK,lJ,hd.of (hb _ o1) (hb _ o2) (hb _ o3) (fun b e=>hb _ (o4 b e)) (fun b e=>hb _ (o5 b e)),o1,o2,o3,o4,o5⟩,fun b ho=>jj (hl b ho) hle⟩
theorem jQ.ext(h:jQ H p s O)(hx:Ext H H'):jQ H' p s O:=h.of (fun b ho=>hx.same b (h.lt b ho)) hx.le
theorem jQ.kp{S:Nat->Prop}(h:jQ H p s O)(hk:Kp S H H')(hs:∀ b,O b->¬ S b):jQ H' p s O:=h.of (fun b ho=>hk.same b (h.lt b ho) (hs b ho)) hk.le
theorem jQ.own(h:jQ H p s O):O p:=by
 obtain⟨⟨mh,ml,ps,hs,fh,fl,nh,nl,kK,lJ,hd,o1,_⟩,_⟩:=h;exact o1
theorem DI.turn(h:DI H p s mh ml ps hs fh fl nh nl kK lJ)(hk:Kp (·=p) H H'){s':DS}(ht:H'[p]?=some (.cells (wO s' mh ml ps hs) 115))(hn:s'.n=s.n)(hw:s'.now=s.now)(hh:s'.held=s.held)(hp:s'.pl=s.pl)(hl:s'.hl=s.hl) :
   DI H' p s' mh ml ps hs fh fl nh nl kK lJ:=by
 obtain⟨d1,d2,d3⟩:=h.df
 exact { h with top:=ht,LD:=h.LD.kp hk (fun e=>d1 e.symm),LC:=h.LC.kp hk (fun e=>d2 e.symm),LA:=h.LA.kp hk (fun b e e'=>(h.S9 b e).1 e'),Pw:=h.Pw.kp hk (fun b e e'=>(h.GY b e).1 e'),now:=(by rw[hw];exact h.now),held:=(by rw[hh];exact h.held),wait:=(by rw[hh,hw];exact h.wait),pl:=(by rw[hp];exact h.pl),hl:=(by rw[hl];exact h.hl),pos:=(by rw[hn];exact h.pos) }
theorem jQ.Kh(h:jQ H p s O)(k:Int):jR (s.now k):=by
 obtain⟨⟨mh,ml,ps,hs,fh,fl,nh,nl,kK,lJ,hd,_⟩,_⟩:=h;rw[hd.now k];cases h1:fl k with
 | some c=>exact hd.bl k c h1
 | none=>
  cases h2:fh k with
  | some c=>exact hd.bh k c h2
  | none=>exact z6
end
theorem LW:TP.underlying 37=some (.pointer 115):=by kernel_rfl
theorem Z6{P:Program}{T e:TypeId}{lit:Bool}{a:Addr}{H:Hp}(hu:P.underlying T=some (.pointer e)):ya P T lit .eql (.pointer (some a)) (.pointer none) H=some (.bool false):=by
 simp[ya,CZ,K0,hu]
theorem MD{P:Program}{T e:TypeId}{lit:Bool}{a:Addr}{H:Hp}(hu:P.underlying T=some (.pointer e)):ya P T lit .neq (.pointer (some a)) (.pointer none) H=some (.bool true):=by
 simp[ya,CZ,K0,hu]
theorem ZI:ZZ TP 65=some (.agg zB):=by kernel_rfl
theorem yP:zo TP 65 []=some (.agg zB):=by kernel_rfl
theorem Zn{s:DS}{mh ml:Nat}{ps hs:Value} :
   (wO s mh ml ps hs)[0]?=some (.int .i64 s.n)/\(wO s mh ml ps hs)[1]?=some (.map (some mh))/\(wO s mh ml ps hs)[2]?=some (.map (some ml))/\(wO s mh ml ps hs)[3]?=some ps/\(wO s mh ml ps hs)[4]?=some hs /\
   (wO s mh ml ps hs)[5]?=some (.int .i64 s.jC)/\(wO s mh ml ps hs)[6]?=some (.bool s.jt)/\(wO s mh ml ps hs)[7]?=some (.int .i64 s.made)/\(wO s mh ml ps hs)[8]?=some (.int .i64 s.reads)/\(wO s mh ml ps hs)[9]?=some (.int .i64 s.jS)/\(wO s mh ml ps hs)[10]?=some (.int .i64 s.kB)/\(wO s mh ml ps hs).size=11:=
 ⟨rfl,rfl,rfl,rfl,rfl,rfl,rfl,rfl,rfl,rfl,rfl,rfl⟩
section
variable{H:Hp}{p:Nat}{s:DS}{O:Nat->Prop}{R:Value->Hp->Prop}
theorem wP(h:jQ H p s O)(k:R (.bool true) H):Fc TP 49 #[zD p] H R:=by
 obtain⟨⟨mh,ml,ps,hs,fh,fl,nh,nl,kK,lJ,hd,_⟩,_⟩:=h;refine fn49 ?_;simp only[sh49,Ul,UA,Ub,UI,Uv,U0,Ul,UA,Ub,UI,Uv,U0];have hp:=hd.pos;simp only[sh49,Ul,UA,Ub,UI,Uv,U0,MD LW,za,zA,zl,zc,aR,zi hd.top,Zn,zJ,gU hp];exact k
theorem tk(h:jQ H p s O)(k:R (.int .i64 s.n) H):Fc TP 129 #[zD p] H R:=by
 refine fn129 ?_;simp only[sh129,Ul,UA,UI,Uf,Uu,Uv,Ul,UA,UI,Uf,Uu,Uv];refine wP h ?_;obtain⟨⟨mh,ml,ps,hs,fh,fl,nh,nl,kK,lJ,hd,_⟩,_⟩:=h;simp only[zx,za,iW,zh,zl,zc,aR,zi hd.top,Zn];exact k
theorem YC(h:jQ H p s O)(k:R (.int .i64 (if s.jt then 3 else 0)) H):Fc TP 102 #[zD p] H R:=by
 refine fn102 ?_;simp only[sh102,Ul,UA,UI,Uf,Uu,Uv,Ul,UA,UI,Uf,Uu,Uv];refine wP h ?_;obtain⟨⟨mh,ml,ps,hs,fh,fl,nh,nl,kK,lJ,hd,_⟩,_⟩:=h;simp only[zx,za,iW,zh,zl,zc,aR,zi hd.top,Zn];rw[Zj];exact⟨fun e=>by simpa[e]using k,fun e=>by simpa[e]using k⟩
theorem GA(h:jQ H p s O)(k:R (.bool s.jt) H):Fc TP 142 #[zD p] H R:=by
 refine fn142 ?_;simp only[sh142,Ul,UA,UI,Uf,U0,Ul,UA,UI,Uf,U0];refine wP h ?_;obtain⟨⟨mh,ml,ps,hs,fh,fl,nh,nl,kK,lJ,hd,_⟩,_⟩:=h;simp only[za,zA,zl,zc,aR,zi hd.top,Zn];exact k
end
def DS.read(s:DS)(at_:Int):DS × jn × Int:=if s.jt then(s,zB,3) else if at_<0\/s.n<=at_ then(s,zB,2) else({ s with reads:=s.reads+1 },s.now at_,0)
section
variable{H:Hp}{p:Nat}{s:DS}{O:Nat->Prop}{R:Value->Hp->Prop}
theorem Ac(h:jQ H p s O)(hr:s.reads<4611686018427387904/\0<=s.reads){a:Int}(k:∀ H',kS O O H H'->jQ H' p (s.read a).1 O->R (.tuple #[.agg (s.read a).2.1,.int .i64 (s.read a).2.2]) H') :
   Fc TP 46 #[zD p,.int .i64 a] H R:=by
 refine fn46 ?_
 simp only[sh46,Ul,UL,UA,Us,Ub,Uz,Ux,UI,Uf,Uj,Uv,U1,ZI,za,zm]
 refine Z9 fun b H1 hb e1 s1 g1=>?_
 simp only[zI]at g1
 have h1:=h.ext e1
 have hbO:¬ O b:=fun ho=>by have:=h.lt b ho;omega
 have hbp:p≠b:=fun e=>hbO (e ▸ h.own)
 refine YC h1 ?_
 simp only[zn,za,zb]
 have out:∀ (H2:Hp) (c:jn) (e:Int) (s':DS),kS O O H1 H2->jQ H2 p s' O->(∃ c0,H2[b]?=some (.cells c0 65)/\c0.size=1024)->jR c->(s.read a)=(s',c,e) ->
     Pu (zY (some 1024) (.pointer (some ⟨b,0,none⟩)) (.agg c) H2) fun H3=>Pu (zX (some (some 1024)) (.pointer (some ⟨b,0,none⟩)) H3) fun x6=>R (.tuple #[x6,.int .i64 e]) H3:=by
   intro H2 c e s' sH AW ⟨c0,g2,GV⟩ hc heq
   refine Zc g2 GV hc.size hc.ok fun H3 k3 s3 g3=>?_
   rw[zV g3 hc.size,za]
   have akf:kS O O H H3:=by
     have Un:=(e1.oF O).trans sH
     exact⟨⟨kg Un.kp.le k3.le,fun j hj hn=>by rw[k3.same j (jj hj Un.kp.le) (by omega)];exact Un.kp.same j hj hn⟩,fun j hj=>.inl hj⟩
   have:=k H3 akf
   rw[heq]at this
   exact this (AW.kp k3 fun j hj e=>hbO (e ▸ hj))
 refine⟨fun jZ=>?_,fun heq=>?_⟩
 · have kH:s.jt=true:=by
     cases hs:s.jt with
     | true=>rfl
     | false=>rw[hs]at jZ;exact absurd rfl jZ
   simp only[yP,za]
   rw[kH]
   exact out H1 zB 3 s (kS.refl O H1) h1 ⟨_,g1,zw⟩ z6 (by simp[DS.read,kH])
 · have kH:s.jt=false:=by
     cases hs:s.jt with
     | false=>rfl
     | true=>rw[hs]at heq;exact absurd (show(3:Int)≠0 by decide) heq
   refine Zg.mk (fun x H'=>H'=H1/\x.1=.bool (decide (a<0\/s.n<=a))) ?_ ?_
   · rintro⟨x,u⟩ H2 ⟨rfl,hx⟩
     simp only at hx
     subst hx
     simp only[zb]
     refine⟨fun ho=>?_,fun ho=>?_⟩
     · simp only[yP,za]
       exact out _ zB 2 s (kS.refl O _) h1 ⟨_,g1,zw⟩ z6 (by simp[DS.read,kH,ho])
     · have tY:=h1
       obtain⟨⟨mh,ml,ps,hs,fh,fl,nh,nl,kK,lJ,hd,o1,o2,o3,o4,o5⟩,kc⟩:=h1
       simp only[zl,za,zc,aR,zi hd.top,Zn,ze]
       rw[zd (by omega) (by omega)]
       refine ZQ (v:=.int .i64 (s.reads+1)) hd.top (by simp[Zn]) rfl rfl fun H3 k3 s3 g3=>?_
       have qN:DI H3 p { s with reads:=s.reads+1 } mh ml ps hs fh fl nh nl kK lJ:=hd.turn k3 g3 rfl rfl rfl rfl rfl
       have hs3:kS O O _ H3:=k3.oF fun j _ e=>e ▸ o1
       have hD3:jQ H3 p { s with reads:=s.reads+1 } O:=⟨⟨mh,ml,ps,hs,fh,fl,nh,nl,kK,lJ,qN,o1,o2,o3,o4,o5⟩,fun j hj=>by rw[s3];exact kc j hj⟩
       have gb3:=k3.at g1 (fun e=>hbp e.symm)
       simp only[zi qN.top,Zn,za]
       have fin:∀ (H4:Hp) (c:jn),Ext H3 H4->jR c->c=s.now a->∀ b4 T4,H4[b4]?=some (.cells c T4) ->
           Pu (zX (some (some 1024)) (.pointer (some ⟨b4,0,none⟩)) H4) fun x=>Pu (zY (some 1024) (.pointer (some ⟨b,0,none⟩)) x H4) fun H5=>Pu (zX (some (some 1024)) (.pointer (some ⟨b,0,none⟩)) H5) fun x6=>R (.tuple #[x6,.int .i64 0]) H5:=by
         intro H4 c e4 hc Su b4 T4 g4
         rw[zV g4 hc.size,za]
         refine out H4 c 0 { s with reads:=s.reads+1 } (hs3.trans (e4.oF O)) (hD3.ext e4) ⟨_,e4.at gb3,zw⟩ hc ?_
         simp only[DS.read,kH,jl,jD,aH ho,Su]
       rw[YT qN.LC]
       cases uK:fl a with
       | some c=>
         have hc:=hd.bl a c uK
         simp only[uK,iR,u7,ux,jO,za,zq,fR,dU,gH,ZI]
         refine Z9 fun b4 H4 hb4 e4 s4 g4=>?_
         simp only[zI]at g4
         refine Zc g4 zw hc.size hc.ok fun H5 k5 s5 g5=>?_
         simp only[zA]
         have Gy:Ext H3 H5:=(e4.kp (·=b4)).trans k5 |>.ext fun k hk e=>by omega
         exact fin H5 c Gy hc (by rw[hd.now a,uK];rfl) b4 _ g5
       | none=>
         simp only[uK,uR,ZI,u9,ux,jO,za,zq,fR,dU,gH]
         refine Z9 fun b4 H4 hb4 e4 s4 g4=>?_
         simp only[zI]at g4
         refine Zc g4 zw zw z6.ok fun H5 k5 s5 g5=>?_
         have Gy:Ext H3 H5:=(e4.kp (·=b4)).trans k5 |>.ext fun k hk e=>by omega
         have hd5:=(hD3.ext Gy)
         simp only[zh]
         have ajf:=Gy.at qN.top
         have mh5:=qN.LD.ext Gy
         simp only[zi ajf,Zn,za]
         rw[YT mh5]
         have hz:∃ c,jR c/\c=s.now a/\EC false (ZZ TP 65) ((fh a).map Value.agg)=some (.agg c):=by
           rw[hd.now a,uK]
           cases hfh:fh a with
           | some c=>exact⟨c,hd.bh a c hfh,rfl,rfl⟩
           | none=>exact⟨zB,z6,rfl,by rw[ZI];rfl⟩
         obtain⟨c,hc,Su,he⟩:=hz
         rw[he,za]
         refine Z9 fun b6 H6 hb6 e6 s6 g6=>?_
         simp only[zI]at g6
         refine Zc g6 zw hc.size hc.ok fun H7 k7 s7 g7=>?_
         have e57:Ext H5 H7:=(e6.kp (·=b6)).trans k7 |>.ext fun k hk e=>by omega
         exact fin H7 c (Gy.trans e57) hc Su b6 _ g7
   · obtain⟨⟨mh,ml,ps,hs,fh,fl,nh,nl,kK,lJ,hd,o1,o2,o3,o4,o5⟩,kc⟩:=h1
     simp only[zk,za,zb,zl,zc,aR,zi hd.top,Zn,zN]
     refine⟨fun h0=>⟨trivial,by simp[h0]⟩,fun h0=>⟨trivial,by simp[h0]⟩⟩
end
def DS.mM(s:DS):DS × Bool:=if s.jC=0 then({ s with jt:=true },false) else({ s with jC:=if 0<s.jC then s.jC - 1 else s.jC,made:=s.made+1 },true)
def DS.write(s:DS)(a:Int)(b:jn):DS × Int:=
 if s.jt then(s,3) else if a<0\/s.n<=a then(s,2) else
  if s.jC=0 then({ s with jt:=true },3) else({ s.mM.1 with now:=nG s.now a b,pl:=s.pl+1,hl:=s.hl+1 },0)
structure DS.fit(s:DS)(k:Nat):Prop where
 made:0<=s.made/\s.made<=k
 reads:0<=s.reads/\s.reads<=k
 jC : -1<=s.jC/\s.jC<=9223372036854775807
 pl:s.pl<=k
 hl:s.hl<=k
theorem DS.fit.mono{s:DS}{k k':Nat}(h:s.fit k)(hk:k<=k'):s.fit k':=by
 obtain⟨h1,h2,h3,h4,h5⟩:=h;exact⟨by omega,by omega,h3,by omega,by omega⟩
section
variable{H:Hp}{p:Nat}{s:DS}{O:Nat->Prop}{R:Value->Hp->Prop}
theorem DS.QX{k:Nat}(h:s.fit k)(a:Int):(s.read a).1.fit (k+1):=by
 have h0:=h.mono (mC k);obtain⟨h1,h2,h3,h4,h5⟩:=h;unfold DS.read;split
 ·exact h0
 ·split
  ·exact h0
  ·exact⟨by simp only;omega,by simp only;omega,h3,by simp only;omega,by simp only;omega⟩
theorem DS.pS{k:Nat}(h:s.fit k)(a:Int)(b:jn):(s.write a b).1.fit (k+1):=by
 have h0:=h.mono (mC k);obtain⟨h1,h2,h3,h4,h5⟩:=h;unfold DS.write DS.mM;split
 ·exact h0
 ·split
  ·exact h0
  ·split
   ·exact⟨h0.made,h0.reads,h3,h0.pl,h0.hl⟩
   ·refine⟨by simp only;omega,by simp only;omega,?_,by simp only;omega,by simp only;omega⟩;simp only;split<;>omega
theorem E7{mh ml nh nl:Nat}{ps hs:Value}{fh fl:Int->Option jn}{kK:List (Int × jn)}{lJ:List (Array Value)}(hd:DI H p s mh ml ps hs fh fl nh nl kK lJ)(hm : -9223372036854775808<=s.made/\s.made<9223372036854775807)(hf : -1<=s.jC/\s.jC<=9223372036854775807)
   (k:∀ H',Kp (·=p) H H'->H'.size=H.size->DI H' p s.mM.1 mh ml ps hs fh fl nh nl kK lJ->R (.bool s.mM.2) H'):Fc TP 138 #[zD p] H R:=by
 refine fn138 ?_
 simp only[sh138,Ul,UA,Us,Ub,UI,Uj,Uv,U1,U0,zl,za,zc,aR,zi hd.top,Zn,zp,zb,zm]
 refine⟨fun h0=>?_,fun h0=>?_⟩
 · refine ZQ (v:=.bool true) hd.top (by simp[Zn]) rfl rfl fun H3 k3 s3 g3=>?_
   have qN:DI H3 p { s with jt:=true } mh ml ps hs fh fl nh nl kK lJ:=hd.turn k3 g3 rfl rfl rfl rfl rfl
   have:=k H3 k3 s3
   rw[show s.mM=({ s with jt:=true },false) by simp[DS.mM,h0]]at this
   exact this qN
 · have hb:s.mM=({ s with jC:=if 0<s.jC then s.jC - 1 else s.jC,made:=s.made+1 },true):=by simp[DS.mM,h0]
   refine Zg.mk (fun x H'=>Kp (·=p) H H'/\H'.size=H.size/\DI H' p { s with jC:=if 0<s.jC then s.jC - 1 else s.jC } mh ml ps hs fh fl nh nl kK lJ) ?_ ?_
   · rintro x H2 ⟨k2,s2,AW⟩
     simp only[zi AW.top,Zn,za,ze]
     rw[zd (by omega) (by omega)]
     refine ZQ (v:=.int .i64 (s.made+1)) AW.top (by simp[Zn]) rfl rfl fun H3 k3 s3 g3=>?_
     have qN:DI H3 p { s with jC:=if 0<s.jC then s.jC - 1 else s.jC,made:=s.made+1 } mh ml ps hs fh fl nh nl kK lJ:=AW.turn k3 g3 rfl rfl rfl rfl rfl
     have:=k H3 (k2.trans k3) (s3.trans s2)
     rw[hb]at this
     exact this qN
   · simp only[zJ,za,zb,zP]
     refine⟨fun AS=>?_,fun hle=>?_⟩
     · rw[zd (by omega) (by omega)]
       refine ZQ (v:=.int .i64 (s.jC - 1)) hd.top (by simp[Zn]) rfl rfl fun H3 k3 s3 g3=>?_
       refine⟨k3,s3,hd.turn k3 ?_ rfl rfl rfl rfl rfl⟩
       rw[aU AS];exact g3
     · refine⟨Kp.refl _ _,trivial,?_⟩
       rw[aH hle];exact hd
theorem zZ{x:Int × jn}(h:jR x.2):(zy x).size=1025:=by simp[zy,h.size]
theorem Z8{x:Int × jn}(h:jR x.2):zv (zy x):=by
 have:=h.all;unfold zv zy;rw[Array.all_append,this];simp[Value.oneCell']
def Mt(a:Int)(b:jn):Array Value:=#[.int .u8 1,.int .i64 a]++b
theorem B9{a:Int}{b:jn}(h:jR b):(Mt a b).size=1026:=by simp[Mt,h.size]
theorem Ri{a:Int}{b:jn}(h:jR b):zv (Mt a b):=by
 have:=h.all;unfold zv Mt;rw[Array.all_append,this];simp[Value.oneCell']
def Ms:Option ZX->ZX
 | some e=>e
 | none=>⟨0,0,0,#[]⟩
noncomputable def I7:ZX:=Ms (zQ TP 79)
noncomputable def eOp:ZX:=Ms (zQ TP 113)
theorem ti:zQ TP 79=some I7:=by kernel_rfl
theorem W0:zQ TP 113=some eOp:=by kernel_rfl
theorem pz:I7.type=149/\I7.size=1025/\I7.zero.size=1025/\I7.bytes=1032:=⟨by kernel_rfl,by kernel_rfl,by kernel_rfl,by kernel_rfl⟩
theorem Nc:eOp.type=211/\eOp.size=1026/\eOp.zero.size=1026/\eOp.bytes=1040:=⟨by kernel_rfl,by kernel_rfl,by kernel_rfl,by kernel_rfl⟩
theorem YS{e:ZX}{v:Value}(h0:0<e.size)(h1:e.size<=2 ^ 24)(hz:v.cells.size=e.size):zT (some e) 1 [(0,v)]=some v.cells:=by
 unfold zT;simp only;rw[aH (by omega)];have:∀ (A:Array Value),A.size=e.size->Instr.fill (fun i=>some (i*e.size,e.size)) A [(0,v)]=some v.cells:=by
  intro A hA;unfold Instr.fill;have St:(decide (v.cells.size≠e.size) || decide (0*e.size+v.cells.size > A.size))=false:=by
   rw[cH (fun jZ=>jZ hz),cH (by omega)];rfl
  simp only;rw[aH (by rw[St];decide)];unfold Instr.fill;rw[qF (by omega),An,BP (by omega)]
 exact this _ (by simp)
end
def Nz:Option Value->Array Value
 | some (.agg c)=>c
 | _=>#[]
noncomputable def G7:Array Value:=Nz (ZZ TP 149)
noncomputable def zOp:Array Value:=Nz (ZZ TP 211)
theorem sL:ZZ TP 149=some (.agg G7):=by kernel_rfl
theorem PW:ZZ TP 211=some (.agg zOp):=by kernel_rfl
theorem Zh:G7.size=1025:=by kernel_rfl
theorem Yu:zOp.size=1026:=by kernel_rfl
theorem abC:rB TP 149=some [(0,1),(1,1024)]:=by kernel_rfl
theorem afE:rB TP 211=some [(0,1),(1,1),(2,1024)]:=by kernel_rfl
theorem ZC{pl:List (Nat × Nat)}{c c':Array Value}{i off size:Nat}{v:Value}{rest:List (Nat × Value)}(hp:pl[i]?=some (off,size))(hs:v.cells.size=size)(ho:off+size<=c.size)(h:te pl (zL c off v.cells) rest=some c'):te pl c ((i,v) :: rest)=some c':=by
 unfold te;rw[hp];simp only;rw[aU ⟨hs,ho⟩];exact h
theorem YE{a:Int}{c:jn}(hc:jR c):zo TP 149 [(0,.int .i64 a),(1,.agg c)]=some (.agg (zy (a,c))):=by
 refine yi sL abC ?_;refine ZC rfl rfl (by rw[Zh];omega) ?_;refine ZC rfl hc.size (by rw[zO (by rw[Zh];simp[ZV]),Zh];omega) ?_;unfold te;rw[iH];apply jm;intro j;have h1:(zL G7 0 (Value.int .i64 a).cells).size=1025:=by rw[zO (by rw[Zh];simp[ZV]),Zh]
 rw[zI,zH (by rw[h1,hc.size];omega),zH (by rw[Zh];simp[ZV])];simp only[ZV,zy];by_cases h0:j<1
 ·have:j=0:=by omega
  subst this;simp[ah6]
 ·rw[aH h0,lS (by simp;omega)];by_cases h2:j<1+c.size
  ·rw[aU h2];rfl
  ·rw[aH h2];simp only[nN,gR,jW];rw[aH (by omega),aH (by omega),iQ (by rw[Zh];rw[hc.size]at h2;omega),iQ (by omega)]
theorem Jr{a:Int}{c:jn}(hc:jR c):zo TP 211 [(0,.int .u8 1),(1,.int .i64 a),(2,.agg c)]=some (.agg (Mt a c)):=by
 refine yi PW afE ?_;have s1:(zL zOp 0 (Value.int .u8 1).cells).size=1026:=by rw[zO (by rw[Yu];simp[ZV]),Yu]
 have s2:(zL (zL zOp 0 (Value.int .u8 1).cells) 1 (Value.int .i64 a).cells).size=1026:=by rw[zO (by rw[s1];simp[ZV]),s1]
 refine ZC rfl rfl (by rw[Yu];omega) ?_;refine ZC rfl rfl (by rw[s1];omega) ?_;refine ZC rfl hc.size (by rw[s2];omega) ?_;unfold te;rw[iH];apply jm;intro j;rw[zI,zH (by rw[s2,hc.size];omega),zH (by rw[s1];simp[ZV]),zH (by rw[Yu];simp[ZV])];simp only[ZV,Mt];by_cases h0:j<2
 ·rcases(by omega:j=0\/j=1) with rfl | rfl<;>simp[ah6]
 ·rw[aH h0,lS (by simp;omega)];by_cases h2:j<2+c.size
  ·rw[aU h2];rfl
  ·rw[aH h2];simp only[nN,gR,jW];rw[aH (by omega),aH (by omega),aH (by omega),aH (by omega),iQ (by rw[Yu];rw[hc.size]at h2;omega),iQ (by omega)]
theorem DI.ext{H H':Hp}{p mh ml nh nl:Nat}{s:DS}{ps hs:Value}{fh fl:Int->Option jn}{kK:List (Int × jn)}{lJ:List (Array Value)}(h:DI H p s mh ml ps hs fh fl nh nl kK lJ)(hx:Ext H H'):DI H' p s mh ml ps hs fh fl nh nl kK lJ:=
 { h with top:=hx.at h.top,LD:=h.LD.ext hx,LC:=h.LC.ext hx,LA:=h.LA.ext hx,Pw:=h.Pw.ext hx }
theorem KV{s:DS}{kK:List (Int × jn)}{a:Int}{c:jn}(h:kK.foldl (fun g x=>nG g x.1 x.2) s.held=s.now):(kK++[(a,c)]).foldl (fun g x=>nG g x.1 x.2) s.held=nG s.now a c:=by
 rw[List.foldl_append,h];rfl
section
variable{H:Hp}{p:Nat}{s:DS}{O:Nat->Prop}{R:Value->Hp->Prop}
theorem Db(h:jQ H p s O){k:Nat}(hf:s.fit k)(hk:k<100000000000){a:Int}{c:jn}(hc:jR c)
   (kk:∀ H' O',kS O O' H H'->jQ H' p (s.write a c).1 O'->R (.int .i64 (s.write a c).2) H'):Fc TP 94 #[zD p,.int .i64 a,.agg c] H R:=by
 obtain⟨hm,hr,Bl,nX,hhl⟩:=hf
 refine fn94 ?_
 simp only[sh94,Ul,UL,UA,Us,Ub,UI,Uf,Uw,Uu,Uj,Uv,U1,zm]
 refine Z9 fun b H1 hb e1 s1 g1=>?_
 simp only[zI]at g1
 have h1:=h.ext e1
 have hbO:¬ O b:=fun ho=>by have:=h.lt b ho;omega
 have hbp:p≠b:=fun e=>hbO (e ▸ h.own)
 refine YC h1 ?_
 simp only[zn,za,zb]
 refine⟨fun jZ=>?_,fun heq=>?_⟩
 · have kH:s.jt=true:=by
     cases hs:s.jt with
     | true=>rfl
     | false=>rw[hs]at jZ;exact absurd rfl jZ
   have hw:s.write a c=(s,3):=by simp[DS.write,kH]
   have:=kk H1 O (e1.oF O)
   rw[hw]at this
   rw[kH];exact this h1
 · have kH:s.jt=false:=by
     cases hs:s.jt with
     | false=>rfl
     | true=>rw[hs]at heq;exact absurd (show(3:Int)≠0 by decide) heq
   refine Zg.mk (fun x H'=>H'=H1/\x.1=.bool (decide (a<0\/s.n<=a))) ?_ ?_
   · rintro⟨x,u⟩ H2 ⟨rfl,hx⟩
     simp only at hx
     subst hx
     simp only[zb]
     refine⟨fun ho=>?_,fun ho=>?_⟩
     · have hw:s.write a c=(s,2):=by simp[DS.write,kH,ho]
       have:=kk _ O (e1.oF O)
       rw[hw]at this
       exact this h1
     · obtain⟨⟨mh,ml,ps,hs,fh,fl,nh,nl,kK,lJ,hd,o1,o2,o3,o4,o5⟩,kc⟩:=h1
       refine E7 hd (by omega) Bl fun H3 k3 s3 qN=>?_
       have mJ:kS O O H H3:=(e1.oF O).trans (k3.oF fun j _ e=>e ▸ o1)
       have gb3:=k3.at g1 (fun e=>hbp e.symm)
       by_cases hz:s.jC=0
       · have qO:s.mM=({ s with jt:=true },false):=by simp[DS.mM,hz]
         rw[qO]at qN ⊢
         simp only[zx,za,jN,zA]
         have hw:s.write a c=({ s with jt:=true },3):=by simp only[DS.write,kH,jl,jD,aH ho,hz,jO]
         have:=kk H3 O mJ
         rw[hw]at this
         exact this ⟨⟨mh,ml,ps,hs,fh,fl,nh,nl,kK,lJ,qN,o1,o2,o3,o4,o5⟩,fun j hj=>by rw[s3];exact kc j hj⟩
       · have qO:s.mM.2=true:=by simp[DS.mM,hz]
         have hw:s.write a c=({ s.mM.1 with now:=nG s.now a c,pl:=s.pl+1,hl:=s.hl+1 },0):=by simp only[DS.write,kH,jl,jD,aH ho,aH hz]
         have agB:kK.length=s.pl:=hd.pl.symm
         have acU:lJ.length=s.hl:=hd.hl.symm
         rw[qO]
         simp only[zx,za,iW,zh,zl,zc,aR,zi qN.top,Zn,zV gb3 hc.size,YE hc,ti,zj]
         refine fun H5 e5=>?_
         have q1:=pz
         have q2:=Nc
         obtain⟨d1,d2,d3⟩:=hd.df
         rw[YS (by rw[q1.2.1];decide) (by rw[q1.2.1];decide) (by rw[zI,zZ hc,q1.2.1]),za]
         refine pK fun b6 H6 hb6 e6 s6 g6=>?_
         intro H7 e7
         have x37:=e5.trans (e6.trans e7)
         have PM:=qN.ext x37
         have NK:=mJ.trans (x37.oF O)
         refine tE (us:=[zy (a,c)]) q1.1 q1.2.1 q1.2.2.1 (by rw[q1.2.2.2];decide) PM.LA (Sv.single (e7.at g6) (zZ hc)) (by simpa using Z8 hc) (by
           rw[q1.2.2.2,bR];simp only[gR,jW];omega) fun JG H8 hs8 k8 hn8=>?_
         have PG:=NK.trans (k8.oF fun j _ e=>o4 j e)
         have Qi:=k8.at PM.top (fun e=>(hd.S9 p e).1 rfl)
         have mh8:=PM.LD.kp k8 (fun e=>(hd.S9 mh e).2.1 rfl)
         have ml8:=PM.LC.kp k8 (fun e=>(hd.S9 ml e).2.2.1 rfl)
         have ah8:=PM.Pw.kp k8 (fun j e e'=>(hd.S9 j e').2.2.2 e)
         have gb8:=k8.at (x37.at gb3) (fun e=>hbO (o4 b e))
         intro H9 e9
         have Ro:∀ j,ZH JG=some j->j≠p/\j≠mh/\j≠ml/\ZH hs≠some j/\j≠b:=fun j e=>by
           rcases hn8 j e with h1 | h1
           · have h2:=hd.S9 j h1;exact⟨h2.1,h2.2.1,h2.2.2.1,h2.2.2.2,fun e=>hbO (e ▸ o4 j h1)⟩
           · have l1:=Zu PM.top
             have l2:=PM.LD.lt
             have l3:=PM.LC.lt
             have l5:=Zu (x37.at gb3)
             exact⟨by omega,by omega,by omega,fun e=>by have:=PM.Pw.lt e;omega,by omega⟩
         refine ZQ (e9.at Qi) (by simp[Zn]) hs8.one.2 hs8.one.1 fun mX N6 Vr SK=>?_
         have L2:mX[p]?=some (.cells (wO s.mM.1 mh ml JG hs) 115):=SK
         have Qo:=(PG.trans (e9.oF O)).trans (N6.oF fun j _ e=>e ▸ o1)
         have abX:=(mh8.ext e9).kp N6 (fun e=>d1 e.symm)
         have abU:=(ml8.ext e9).kp N6 (fun e=>d2 e.symm)
         have al0:=(ah8.ext e9).kp N6 (fun j e e'=>(hd.GY j e).1 e')
         have ajB:=(hs8.ext e9).kp N6 (fun j e e'=>(Ro j e).1 e')
         have aho:=N6.at (e9.at gb8) (fun e=>hbp e.symm)
         intro mN Br
         simp only[zi (Br.at L2),Zn,za,zV (Br.at aho) hc.size]
         refine YU (abU.ext Br) fun tF k12 s12 afU=>?_
         have afj:=(Qo.trans (Br.oF O)).trans (k12.oF fun j _ e=>e ▸ o3)
         have Qj:=k12.at (Br.at L2) (fun e=>d2 e)
         have afV:=(abX.ext Br).kp k12 d3
         have alZ:=(al0.ext Br).kp k12 (fun j e e'=>(hd.GY j e).2.2 e')
         have afB:=(ajB.ext Br).kp k12 (fun j e e'=>(Ro j e).2.2.1 e')
         have alD:=k12.at (Br.at aho) (fun e=>hbO (e ▸ o3))
         simp only[zi Qj,Zn,za,zV alD hc.size,Jr hc,W0]
         intro sD se
         rw[YS (by rw[q2.2.1];decide) (by rw[q2.2.1];decide) (by rw[zI,B9 hc,q2.2.1]),za]
         refine pK fun b14 By aqr Nf s14 g14=>?_
         intro DH JK
         have JE:=se.trans (Nf.trans JK)
         refine tE (us:=[Mt a c]) q2.1 q2.2.1 q2.2.2.1 (by rw[q2.2.2.2];decide) (alZ.ext JE) (Sv.single (JK.at g14) (B9 hc)) (by simpa using Ri hc) (by
           rw[q2.2.2.2];simp only[gR,jW];omega) fun KH NC acA k16 agF=>?_
         have ajn:=(afj.trans (JE.oF O)).trans (k16.oF fun j _ e=>o5 j e)
         have ae9:=k16.at (JE.at Qj) (fun e=>(hd.GY p e).1 rfl)
         have ajQ:=(afV.ext JE).kp k16 (fun e=>(hd.GY mh e).2.1 rfl)
         have ajN:=(afU.ext JE).kp k16 (fun e=>(hd.GY ml e).2.2 rfl)
         have ajA:=(afB.ext JE).kp k16 (fun j e e'=>(Ro j e).2.2.2.1 e')
         intro XB UB
         have Rr:∀ j,ZH KH=some j->j≠p/\j≠mh/\j≠ml/\ZH JG≠some j:=fun j e=>by
           rcases agF j e with h1 | h1
           · have h2:=hd.GY j h1;exact⟨h2.1,h2.2.1,h2.2.2,fun e=>(Ro j e).2.2.2.1 h1⟩
           · have l1:=Zu (JE.at Qj)
             have l2:=(afV.ext JE).lt
             have l3:=(afU.ext JE).lt
             exact⟨by omega,by omega,by omega,fun e=>by have:=(afB.ext JE).lt e;omega⟩
         refine ZQ (UB.at ae9) (by simp[Zn]) acA.one.2 acA.one.1 fun H18 k18 s18 g18=>?_
         have ae8:H18[p]?=some (.cells (wO s.mM.1 mh ml JG KH) 115):=g18
         have abf:=(ajn.trans (UB.oF O)).trans (k18.oF fun j _ e=>e ▸ o1)
         have ajP:=(ajQ.ext UB).kp k18 (fun e=>d1 e.symm)
         have ajM:=(ajN.ext UB).kp k18 (fun e=>d2 e.symm)
         have afA:=(ajA.ext UB).kp k18 (fun j e e'=>(Ro j e).1 e')
         have ahZ:=(acA.ext UB).kp k18 (fun j e e'=>(Rr j e).1 e')
         intro H19 e19
         have afi:=abf.trans (e19.oF O)
         have fin:=kk H19 (fun j=>O j\/ZH JG=some j\/ZH KH=some j) ⟨afi.kp,fun j hj=>by
           rcases hj with h1 | h1 | h1
           · exact .inl h1
           · rcases hn8 j h1 with h2 | h2
             · exact .inl (o4 j h2)
             · exact .inr (kg NK.kp.le h2)
           · rcases agF j h1 with h2 | h2
             · exact .inl (o5 j h2)
             · exact .inr (kg (afj.trans (JE.oF O)).kp.le h2)⟩
         rw[hw]at fin
         refine fin ⟨⟨mh,ml,JG,KH,fh,fun j=>if j=a then some c else fl j,nh,if Option.map Value.agg (fl a)=none then nl+1 else nl,kK++[(a,c)],lJ++[Mt a c],?_,.inl o1,.inl o2,.inl o3,fun j e=>.inr (.inl e),fun j e=>.inr (.inr e)⟩,fun j hj=>?_⟩
         · exact {
             top:=e19.at ae8
             LD:=ajP.ext e19
             LC:=(ajM.ext e19).congr fun j=>by unfold sQ;split<;>rfl
             LA:=by rw[cU];exact afA.ext e19
             Pw:=ahZ.ext e19
             df:=hd.df
             S9:=fun j e=>⟨(Ro j e).1,(Ro j e).2.1,(Ro j e).2.2.1,fun e'=>(Rr j e').2.2.2 e⟩
             GY:=fun j e=>⟨(Rr j e).1,(Rr j e).2.1,(Rr j e).2.2.1⟩
             bh:=hd.bh
             bl:=fun j x e=>by
               split at e
               · injection e with e;subst e;exact hc
               · exact hd.bl j x e
             bp:=fun x hx=>by
               rcases fH.1 hx with h1 | h1
               · exact hd.bp x h1
               · simp only[eU]at h1;subst h1;exact hc
             now:=fun j=>by
               show nG s.now a c j=_
               unfold nG
               by_cases hj:j=a
               · rw[aU hj,aU hj];rfl
               · rw[aH hj,aH hj];exact hd.now j
             held:=fun j=>by rw[<- hd.held j];simp only[DS.mM,hz,jD]
             wait:=by
               have:=KV (a:=a) (c:=c) hd.wait
               rw[<- this];simp only[DS.mM,hz,jD]
             pl:=by rw[cR,agB];rfl
             hl:=by rw[cR,acU];rfl
             pos:=by have:=hd.pos;simp only[DS.mM,hz,jD];exact this }
         · rcases hj with h1 | h1 | h1
           · exact jj (h.lt j h1) afi.kp.le
           · exact(afA.ext e19).lt h1
           · exact(ahZ.ext e19).lt h1
   · obtain⟨⟨mh,ml,ps,hs,fh,fl,nh,nl,kK,lJ,hd,o1,o2,o3,o4,o5⟩,kc⟩:=h1
     simp only[zk,za,zb,zl,zc,aR,zi hd.top,Zn,zN]
     refine⟨fun h0=>⟨trivial,by simp[h0]⟩,fun h0=>⟨trivial,by simp[h0]⟩⟩
end
end Go.Vc
namespace Go.Proofs
open Go.Vc
section
variable(v0 v1 v2 v3 v4 v5 v6 v7 v8:Value)(H:Hp)(R:Value->Hp->Prop)
def sh103:Prop:=Uj (n:=1) (fun f b=>hU f.1 (R (Uv 1) b) (UI v0 fun g=>UA 0 g fun h=>Ul h b fun i=>Uf 142 #[i] b fun j a=>hU j (R (Uv 3) a) (Uj (n:=1) (fun k c=>hU k.1 (R (Uv 2) c) (R (Uv 0) c)) (fun d=>Ub .lss v1 (Uv 0) fun l=>hU l (d (U1,()) a) (UI v0 fun m=>UA 0 m fun o=>Ul o a fun p=>Uf 129 #[p] a fun q r=>Ub .geq v1 q fun s=>d (s,()) r))))) (fun e=>Pu (ya TP 98 true .eql v0 (.pointer none) H) fun t=>hU t (e (U1,()) H) (UI v0 fun u=>UA 0 u fun v=>Ul v H fun w=>Pu (ya TP 37 true .eql w (.pointer none) H) fun x=>e (x,()) H))
def sh104:Prop:=UI v0 fun b=>UA 1026 b fun c=>Ul c H fun d=>UI v0 fun e=>UA 1027 e fun f=>Ul f H fun g=>UI d fun h=>UA 1027 h fun i=>Us 1 i g H fun a=>UI v0 fun j=>UA 1027 j fun k=>Ul k a fun l=>UI v0 fun m=>UA 1026 m fun n=>Ul n a fun o=>UI l fun p=>UA 1026 p fun q=>Us 1 q o a fun r=>R (.tuple #[]) r
def sh105:Prop:=UI v0 fun b=>UA 3 b fun c=>UA 1026 c fun d=>Ul d H fun e=>UI v1 fun f=>UA 1026 f fun g=>Us 1 g e H fun h=>UI v0 fun i=>UA 3 i fun j=>UI v1 fun k=>UA 1027 k fun l=>Us 1 l j h fun a=>UI v1 fun m=>UA 1026 m fun n=>Ul n a fun o=>UI o fun p=>UA 1027 p fun q=>Us 1 q v1 a fun r=>UI v0 fun s=>UA 3 s fun t=>UA 1026 t fun u=>Us 1 u v1 r fun v=>R (.tuple #[]) v
def sh106:Prop:=UI v0 fun d=>UA 2 d fun e=>Ul e H fun f=>UI v0 fun g=>UA 1 g fun h=>Ul h H fun i=>Ub .geq f i fun j=>hU j (R U0 H) (UI v0 fun k=>UA 1031 k fun l=>Ul l H fun m=>Pu (YI m H) fun o=>UI v0 fun p=>UA 1 p fun q=>Ul q H fun r=>Ub .lss o r fun s=>hU s (R U1 H) (UI v0 fun t=>UA 3 t fun u=>UA 1027 u fun v=>Ul v H fun w=>Uo (n:=1) (w,()) H (fun x a b=>UI a.1 fun y=>UA 1025 y fun z=>Ul z b fun A=>hU A (UI a.1 fun B=>UA 1027 B fun C=>Ul C b fun D=>x (D,()) b) (Uf 104 #[a.1] b fun M c=>UI v0 fun E=>UA 1031 E fun F=>Ul F c fun G=>UI a.1 fun I=>UA 0 I fun J=>Ul J c fun K=>Pu (rC (some (3,.int .i64,168)) G K c) fun L=>R U1 L))))
def sh47:Prop:=Uz 65 H fun a t=>Uf 103 #[v0,v1] t fun g b=>Ub .neq g (Uv 0) fun u=>hU u (Pu (zo TP 65 []) fun v=>Us 1024 a v b fun h=>UL 1024 a h fun w=>R (.tuple #[w,g]) h) (UI v0 fun x=>UA 1031 x fun y=>Ul y b fun z=>Pu (yf TP (some (3,.int .i64,168)) true z v1 b) fun i=>Ux i 0 fun c=>Ux i 1 fun A=>hU A (Uf 104 #[c] b fun af B=>Uf 105 #[v0,c] B fun ag j=>UI c fun C=>UA 1 C fun D=>UL 1024 D j fun E=>Us 1024 a E j fun k=>UL 1024 a k fun F=>R (.tuple #[F,(Uv 0)]) k) (Uf 106 #[v0] b fun G d=>Uu G fun I=>hU I (Pu (zo TP 65 []) fun J=>Us 1024 a J d fun l=>UL 1024 a l fun K=>R (.tuple #[K,(Uv 160)]) l) (UI v0 fun L=>UA 0 L fun M=>Ul M d fun N=>Uf 46 #[N,v1] d fun m O=>Ux m 0 fun P=>Ux m 1 fun n=>Uz 65 O fun e Q=>Us 1024 e P Q fun f=>Ub .neq n (Uv 0) fun T=>hU T (Pu (zo TP 65 []) fun V=>Us 1024 a V f fun o=>UL 1024 a o fun W=>R (.tuple #[W,n]) o) (UL 1024 e f fun X=>Pu (zo TP 171 [(0,v1),(1,X)]) fun Y=>kT 171 Y f fun p q=>UI v0 fun Z=>UA 1031 Z fun aa=>Ul aa q fun ab=>Pu (yM (some (3,.int .i64,168)) ab v1 p q) fun ac=>Uf 105 #[v0,p] ac fun ah r=>UL 1024 e r fun ad=>Us 1024 a ad r fun s=>UL 1024 a s fun ae=>R (.tuple #[ae,(Uv 0)]) s))))
def sh100:Prop:=kT 65 v2 H fun o p=>Uf 103 #[v0,v1] p fun d a=>Ub .neq d (Uv 0) fun q=>hU q (R d a) (UI v0 fun r=>UA 1031 r fun s=>Ul s a fun t=>Pu (yf TP (some (3,.int .i64,168)) true t v1 a) fun e=>Ux e 0 fun f=>Ux e 1 fun u=>Uj (n:=1) (fun b c=>Uj (n:=0) (fun Z g=>UL 1024 o g fun v=>UI b.1 fun w=>UA 1 w fun x=>Us 1024 x v g fun y=>Uf 105 #[v0,b.1] y fun aa z=>R (Uv 0) z) (fun h=>UI b.1 fun A=>UA 1025 A fun B=>Ul B c fun C=>Uu C fun D=>hU D (UI b.1 fun E=>UA 1025 E fun F=>Us 1 F U1 c fun i=>UI v0 fun G=>UA 2 G fun I=>Ul I i fun J=>Ub .add J (Uv 1) fun K=>UI v0 fun L=>UA 2 L fun M=>Us 1 M K i fun N=>h (()) N) (h (()) c))) (fun j=>hU u (Uf 104 #[f] a fun ab O=>j (f,()) O) (Uf 106 #[v0] a fun P k=>Uu P fun Q=>hU Q (R (Uv 160) k) (Pu (zo TP 171 [(0,v1)]) fun T=>kT 171 T k fun l m=>UI v0 fun V=>UA 1031 V fun W=>Ul W m fun X=>Pu (yM (some (3,.int .i64,168)) X v1 l m) fun Y=>j (l,()) Y))))
def sh97:Prop:=Uf 103 #[v0,v1] H fun d a=>Ub .neq d (Uv 0) fun j=>hU j (R d a) (UI v0 fun k=>UA 1031 k fun l=>Ul l a fun m=>Pu (yf TP (some (3,.int .i64,168)) true m v1 a) fun e=>Ux e 0 fun c=>Ux e 1 fun o=>Uj (n:=1) (fun p b=>hU p.1 (R (Uv 0) b) (UI v0 fun q=>UA 0 q fun r=>Ul r b fun s=>UI c fun t=>UA 1 t fun u=>UL 1024 u b fun v=>Uf 94 #[s,v1,v] b fun f g=>Ub .neq f (Uv 0) fun w=>hU w (R f g) (UI c fun x=>UA 1025 x fun y=>Us 1 y U0 g fun h=>UI v0 fun z=>UA 2 z fun A=>Ul A h fun B=>Ub .sub B (Uv 1) fun C=>UI v0 fun D=>UA 2 D fun E=>Us 1 E C h fun F=>R (Uv 0) F))) (fun i=>Uu o fun G=>hU G (i (U1,()) a) (UI c fun I=>UA 1025 I fun J=>Ul J a fun K=>Uu K fun L=>i (L,()) a)))
def sh84:Prop:=Uf 129 #[v0] H fun e b=>Ub .eql e (Uv 0) fun f=>hU f (R (.tuple #[(.pointer none),(Uv 1)]) b) (Uj (n:=1) (fun g c=>hU g.1 (R (.tuple #[(.pointer none),(Uv 2)]) c) (oY c fun h i=>Pu (zo TP 174 [(0,v0),(1,v1),(4,h)]) fun j=>kT 174 j i fun a k=>UI a fun l=>UA 3 l fun m=>UI a fun o=>UA 3 o fun p=>UA 1026 p fun q=>Us 1 q m k fun r=>UI a fun s=>UA 3 s fun t=>UI a fun u=>UA 3 u fun v=>UA 1027 v fun w=>Us 1 w t r fun x=>R (.tuple #[a,(Uv 0)]) x)) (fun d=>Ub .lss v1 (Uv 1) fun y=>hU y (d (U1,()) b) (Ub .gtr v1 (Uv 4096) fun z=>d (z,()) b)))
end
variable{v0 v1 v2 v3 v4 v5 v6 v7 v8:Value}{H:Hp}{R:Value->Hp->Prop}
theorem fn103(h:sh103 v0 v1 H R):Fc TP 103 #[v0,v1] H R:=
 mr UQ (.seq .nil (.seq (.join [5] (Ur 6 9) .nil (.cond .nil (.seq .nil (.cond .nil (.join [21] (Ur 22 11) .nil .nil))))) .nil)) Tryz.func103 h
theorem fn104(h:sh104 v0 H R):Fc TP 104 #[v0] H R:=
 mU UQ .nil Tryz.func104 h
theorem fn105(h:sh105 v0 v1 H R):Fc TP 105 #[v0,v1] H R:=
 mr UQ .nil Tryz.func105 h
theorem fn106(h:sh106 v0 H R):Fc TP 106 #[v0] H R:=
 mU UQ (.seq .nil (.seq .nil (.seq .nil (.seq .nil (.seq (.loop [3] (Ur 28 8) .nil) .nil))))) Tryz.func106 h
theorem fn47(h:sh47 v0 v1 H R):Fc TP 47 #[v0,v1] H R:=
 mr UQ .nil Tryz.func47 h
theorem fn100(h:sh100 v0 v1 v2 H R):Fc TP 100 #[v0,v1,v2] H R:=
 xe UQ (.seq .nil (.seq .nil (.seq .nil (.join [8] (Ur 25 6++[6]++Ur 31 9) .nil (.join [] (Ur 40 15) .nil .nil))))) Tryz.func100 h
theorem fn97(h:sh97 v0 v1 H R):Fc TP 97 #[v0,v1] H R:=
 mr UQ (.seq .nil (.seq .nil (.seq .nil (.seq (.join [32] (Ur 24 8) .nil .nil) .nil)))) Tryz.func97 h
theorem fn84(h:sh84 v0 v1 H R):Fc TP 84 #[v0,v1] H R:=
 mr UQ (.seq .nil (.seq .nil (.seq (.join [15] (Ur 10 5) .nil .nil) .nil))) Tryz.func84 h
end Go.Proofs
namespace Go.Vc
open Go.Proofs
abbrev Nd:=Nat × Nat
abbrev nT(n:Nd):Value:=.pointer (some ⟨n.1,n.2,none⟩)
def lR(H:Hp)(b o:Nat):Option Value:=qK H ⟨b,o,none⟩
def GR(H:Hp)(n:Nd):Option Value:=lR H n.1 (n.2+1027)
def JH(H:Hp)(n:Nd):Option Value:=lR H n.1 (n.2+1026)
theorem tx{H:Hp}{b o:Nat}{c:Array Value}{T:TypeId}{fr:Nat × Nat}(h:H[b]?=some (.cells c T fr)):lR H b o=c[o]?:=by simp[lR,qK,h]
theorem yy{H:Hp}{b o:Nat}:zX (some none) (.pointer (some ⟨b,o,none⟩)) H=lR H b o:=rfl
def Sh(H:Hp)(b n:Nat)(T:TypeId):Prop:=∃ c,H[b]?=some (.cells c T)/\c.size=n
structure Ed(H H':Hp)(b o:Nat)(v:Value):Prop where
 size:H'.size=H.size
 kC:∀ b',b'≠b->H'[b']?=H[b']?
 cell:∀ o',lR H' b o'=if o'=o then some v else lR H b o'
theorem Ed.lR{H H':Hp}{b o:Nat}{v:Value}(h:Ed H H' b o v)(b' o':Nat):Vc.lR H' b' o'=if b'=b/\o'=o then some v else Vc.lR H b' o':=by
 by_cases hb:b'=b
 ·subst hb;rw[h.cell];by_cases ho:o'=o<;>simp[ho]
 ·rw[aH (by simp[hb])];unfold Vc.lR qK;rw[h.kC b' hb]
theorem qx{H:Hp}{b o n:Nat}{T:TypeId}{v:Value}{K:Hp->Prop}{c:Array Value}(hb:H[b]?=some (.cells c T))(ho:o<c.size)(hv:v.oneCell'=true)(hc:v.cells=#[v])
   (h:∀ H',Ed H H' b o v->H'[b]?=some (.cells (c.setIfInBounds o v) T)->K H'):Pu (zY (some 1) (.pointer (some ⟨b,o,none⟩)) v H) K:=by
 refine ZQ hb ho hv hc fun H' k s g=>h H' ⟨s,fun j hj=>?_,fun o'=>?_⟩ g
 · by_cases hl:j<H.size
   · exact k.same j hl hj
   · rw[iQ (by omega),iQ (by omega)]
 · rw[tx g,tx hb,iY]
   by_cases he:o=o'
   · subst he;simp[ho]
   · rw[aH he,aH (fun e=>he e.symm)]
def UD(H:Hp):Nd->List Nd->Prop
 | _,[]=>True
 | a,b :: l=>GR H a=some (nT b)/\JH H b=some (nT a)/\UD H b l
def oS:Nd->List Nd->Nd
 | a,[]=>a
 | _,b :: l=>oS b l
theorem uk{H:Hp}:∀ {l1:List Nd} {a:Nd} {l2:List Nd},UD H a (l1++l2)↔UD H a l1/\UD H (oS a l1) l2
 | [],a,l2=>by simp[UD,oS]
 | b :: l1,a,l2=>by
  simp only[sG,UD,oS,uk (l1:=l1),and_assoc]
theorem rH:∀ (l:List Nd) (a:Nd),oS a l=a\/oS a l∈l
 | [],a=>.inl rfl
 | b :: l,a=>by
  rcases rH l b with h | h
  ·exact .inr (by simp[oS,h])
  ·exact .inr (dH _ h)
theorem UD.of{H H':Hp}:∀ {l:List Nd} {a:Nd},UD H a l->(∀ x∈l,JH H' x=JH H x)->(∀ x∈(a :: l).dropLast,GR H' x=GR H x)->UD H' a l
 | [],_,_,_,_=>trivial
 | b :: l,a,h,hp,hn=>by
  obtain⟨h1,h2,h3⟩:=h;refine⟨?_,?_,h3.of (fun x hx=>hp x (dH _ hx)) fun x hx=>hn x ?_⟩
  ·rw[hn a (by simp)];exact h1
  ·rw[hp b eH];exact h2
  ·rw[List.dropLast_cons_cons];exact dH _ hx
structure Ln where
 b:Nat
 at_:Int
 data:jn
 j7:Bool
abbrev Ln.nd(x:Ln):Nd:=(x.b,0)
structure PB(c:Array Value)(x:Ln):Prop where
 size:c.size=1028
 num:c[0]?=some (.int .i64 x.at_)
 data:c.extract 1 1025=x.data
 j7:c[1025]?=some (.bool x.j7)
 isB:jR x.data
theorem sc{c:Array Value}{o n k:Nat}{v:Value}(h:k<o\/o+n<=k):(c.setIfInBounds k v).extract o (o+n)=c.extract o (o+n):=by
 apply jm;intro j;rw[ji,ji,lL];split
 ·rw[iY,aH (by omega)]
 ·rfl
theorem PB.set{c:Array Value}{x:Ln}(h:PB c x){k:Nat}{v:Value}(hk:1026<=k):PB (c.setIfInBounds k v) x:=by
 obtain⟨h1,h2,h3,h4,h5⟩:=h;refine⟨by simpa using h1,?_,?_,?_,h5⟩
 ·rw[iY,aH (by omega)];exact h2
 ·rw[sc (o:=1) (n:=1024) (.inr (by omega))];exact h3
 ·rw[iY,aH (by omega)];exact h4
def Ee(H:Hp)(x:Ln):Prop:=∃ c,H[x.b]?=some (.cells c 171)/\PB c x
def nF(row:List Ln):List Nd:=row.map (·.nd)
structure nV(H:Hp)(cb:Nat)(row:List Ln):Prop where
 top:Sh H cb 1032 174
 MI:∀ x∈row,Ee H x
 XP:UD H (cb,3) (nF row++[(cb,3)])
 Dz:(cb :: row.map (·.b)).Nodup
structure XA(H H':Hp)(cb:Nat)(B:Nat->Prop):Prop where
 size:H'.size=H.size
 kC:∀ b,b≠cb->¬ B b->H'[b]?=H[b]?
 top:∀ o,o≠1029->o≠1030->lR H' cb o=lR H cb o
theorem XA.kp{H H':Hp}{cb:Nat}{B:Nat->Prop}(h:XA H H' cb B):Kp (fun b=>b=cb\/B b) H H':=⟨Nat.le_of_eq h.size.symm,fun b _ hn=>h.kC b (fun e=>hn (.inl e)) fun hB=>hn (.inr hB)⟩
theorem ve:∀ (l:List Nd) (a:Nd),(a :: l).Nodup->oS a l ∉ (a :: l).dropLast
 | [],a,_=>by simp
 | b :: l,a,h=>by
  rw[jo]at h;rw[List.dropLast_cons_cons,jg];rintro(h1 | h1)
  ·rcases rH l b with h2 | h2
   ·exact h.1 (by rw[<- h1];show oS b l∈_;rw[h2];exact eH)
   ·exact h.1 (by rw[<- h1];exact dH _ h2)
  ·exact ve l b h.2 h1
theorem ZL{row:List Ln}{n:Nd}:n∈nF row↔n.2=0/\n.1∈row.map (·.b):=by
 unfold nF;simp only[iT];constructor
 ·rintro⟨x,hx,rfl⟩;exact⟨rfl,x,hx,rfl⟩
 ·rintro⟨h0,x,hx,h1⟩;exact⟨x,hx,Prod.ext h1 h0.symm⟩
theorem EB{cb:Nat}{row:List Ln}(h:(cb :: row.map (·.b)).Nodup):(((cb,3):Nd) :: nF row).Nodup:=by
 rw[jo]at h ⊢;refine⟨fun hm=>?_,?_⟩
 ·have:=(ZL.1 hm).1;simp at this
 ·unfold nF;have h2:=h.2;induction row with
  | nil=>simp
  | cons x row ih=>
   simp only[jb,jo,jg,not_or]at h h2 ⊢;refine⟨fun hm=>?_,ih ⟨h.1.2,h2.2⟩ h2.2⟩;obtain⟨y,hy,he⟩:=iT.1 hm;injection he with he _;exact h2.1 (iT.2 ⟨y,hy,he⟩)
theorem wj(l1 l2:List Ln):nF (l1++l2)=nF l1++nF l2:=by simp[nF]
theorem Cj(x:Ln)(l:List Ln):nF (x :: l)=x.nd :: nF l:=rfl
theorem nV.node{H:Hp}{cb:Nat}{row:List Ln}(h:nV H cb row){n:Nd}(hn:n=(cb,3)\/n∈nF row):∃ c T,H[n.1]?=some (.cells c T)/\n.2+1027<c.size:=by
 rcases hn with rfl | hn
 ·obtain⟨c,h1,h2⟩:=h.top;exact⟨c,_,h1,by simp only;omega⟩
 ·obtain⟨x,hx,rfl⟩:=iT.1 hn;obtain⟨c,h1,h2⟩:=h.MI x hx;exact⟨c,_,h1,by have:=h2.size;simp only;omega⟩
theorem pZ{H H':Hp}{x:Ln}{b o:Nat}{v:Value}(h:Ee H x)(hs:Ed H H' b o v)(hc:∀ c T,H[b]?=some (.cells c T)->H'[b]?=some (.cells (c.setIfInBounds o v) T))(ho:b=x.b->1026<=o):Ee H' x:=by
 obtain⟨c,h1,h2⟩:=h;by_cases hb:b=x.b
 ·subst hb;exact⟨_,hc c _ h1,h2.set (ho rfl)⟩
 ·exact⟨c,by rw[hs.kC _ (fun e=>hb e.symm)];exact h1,h2⟩
theorem xk{H H':Hp}{b b' o n:Nat}{T:TypeId}{v:Value}(h:Sh H b' n T)(hs:Ed H H' b o v)(hc:∀ c T,H[b]?=some (.cells c T)->H'[b]?=some (.cells (c.setIfInBounds o v) T)):Sh H' b' n T:=by
 obtain⟨c,h1,h2⟩:=h;by_cases hb:b=b'
 ·subst hb;exact⟨_,hc c _ h1,by simpa using h2⟩
 ·exact⟨c,by rw[hs.kC _ (fun e=>hb e.symm)];exact h1,h2⟩
theorem QH{H:Hp}{cb:Nat}{row:List Ln}(h:nV H cb row){n m:Nd}{j:Nat}(hn:n=(cb,3)\/n∈nF row)(hj:j=1026\/j=1027){K:Hp->Prop}
   (k:∀ H',Ed H H' n.1 (n.2+j) (nT m)->(∀ c T,H[n.1]?=some (.cells c T)->H'[n.1]?=some (.cells (c.setIfInBounds (n.2+j) (nT m)) T))->K H') :
   Pu (zY (some 1) (.pointer (some ⟨n.1,n.2+j,none⟩)) (nT m) H) K:=by
 obtain⟨c,T,hc,hs⟩:=h.node hn
 refine qx (n:=0) hc (by omega) rfl rfl fun H' X1 hg=>k H' X1 fun c' T' h'=>?_
 rw[hc]at h'
 injection h' with h';injection h' with h1 h2
 subst h1 h2;exact hg
theorem Mo{H H':Hp}{n:Nd}{j:Nat}{v:Value}(hs:Ed H H' n.1 (n.2+j) v)(m:Nd):JH H' m=if m.1=n.1/\m.2+1026=n.2+j then some v else JH H m:=hs.lR _ _
theorem Mu{H H':Hp}{n:Nd}{j:Nat}{v:Value}(hs:Ed H H' n.1 (n.2+j) v)(m:Nd):GR H' m=if m.1=n.1/\m.2+1027=n.2+j then some v else GR H m:=hs.lR _ _
section
variable{H:Hp}{cb:Nat}{R:Value->Hp->Prop}
theorem Ik{l1 l2:List Ln}{x:Ln}(h:nV H cb (l1++x :: l2))(k:∀ H',XA H H' cb (fun b=>b∈(l1++l2).map (·.b))->nV H' cb (l1++l2)->R (.tuple #[]) H') :
   Fc TP 104 #[zD x.b] H R:=by
 have Oe:=h.XP
 have lj:=EB h.Dz
 rw[wj,Cj]at Oe lj
 have hm:∀ n,n=(cb,3)\/n∈nF l1\/n∈nF l2->n=(cb,3)\/n∈nF (l1++x :: l2):=fun n hn=>by
   rw[wj,Cj,fH,jg]
   rcases hn with h1 | h1 | h1
   · exact .inl h1
   · exact .inr (.inl h1)
   · exact .inr (.inr (.inr h1))
 have CI:∀ n,n=(cb,3)\/n∈nF l1\/n∈nF l2->n.2=0\/n.2=3:=fun n hn=>by
   rcases hn with h1 | h1 | h1
   · rw[h1];exact .inr rfl
   · exact .inl (ZL.1 h1).1
   · exact .inl (ZL.1 h1).1
 rw[jP,uk]at Oe
 obtain⟨s1,s2⟩:=Oe
 obtain⟨y,Bn,hB⟩:∃ y Bn,nF l2++[((cb,3):Nd)]=y :: Bn:=by
   cases nF l2 with
   | nil=>exact⟨_,_,rfl⟩
   | cons a l=>exact⟨_,_,rfl⟩
 rw[sG,hB]at s2
 obtain⟨n1,p1,n2,p2,s3⟩:=s2
 have hp:=rH (nF l1) (cb,3)
 generalize hpe:oS ((cb,3):Nd) (nF l1)=p at n1 p1 hp
 have T7:p=(cb,3)\/p∈nF l1\/p∈nF l2:=by
   rcases hp with h1 | h1
   · exact .inl h1
   · exact .inr (.inl h1)
 have hy:y=(cb,3)\/y∈nF l2:=by
   have:y∈nF l2++[((cb,3):Nd)]:=by rw[hB];exact eH
   rcases fH.1 this with h1 | h1
   · exact .inr h1
   · exact .inl (by simpa using h1)
 have hy':y=(cb,3)\/y∈nF l1\/y∈nF l2:=by
   rcases hy with h1 | h1
   · exact .inl h1
   · exact .inr (.inr h1)
 simp only[jo,jJ,fH,jg,not_or]at lj
 obtain⟨⟨c1,c2,c3⟩,d1,⟨d2,d3⟩,d4⟩:=lj
 have hxp:p≠x.nd:=by
   rcases hp with h1 | h1
   · rw[h1];exact c2
   · exact fun e=>d4 p h1 x.nd (.inl rfl) e
 have hpx:p.1≠x.b:=by
   rcases hp with h1 | h1
   · rw[h1];intro e
     have:=h.Dz
     rw[jo]at this
     exact this.1 (by simp only at e;rw[e];simp)
   · intro e;exact hxp (Prod.ext e (ZL.1 h1).1)
 have hyx:y.1≠x.b:=by
   rcases hy with h1 | h1
   · rw[h1];intro e
     have:=h.Dz
     rw[jo]at this
     exact this.1 (by simp only at e;rw[e];simp)
   · intro e
     have:y=x.nd:=Prod.ext e (ZL.1 h1).1
     exact d2 (this ▸ h1)
 refine fn104 ?_
 simp only[sh104,Ul,UA,Us,UI,Ul,UA,Us,UI]
 have lp:lR H x.b 1026=some (nT p):=by simpa[JH]using p1
 have ln:lR H x.b 1027=some (nT y):=by simpa[GR]using n2
 simp only[sh104,Ul,UA,Us,UI,zl,za,zc,aR,yy,lp,ln]
 refine QH h (hm p T7) (.inr rfl) fun H1 e1 g1=>?_
 have lp1:lR H1 x.b 1026=some (nT p):=by rw[e1.lR,aH (fun e=>hpx e.1.symm)];exact lp
 have ln1:lR H1 x.b 1027=some (nT y):=by rw[e1.lR,aH (fun e=>hpx e.1.symm)];exact ln
 simp only[lp1,ln1,za,zl,zc]
 obtain⟨cy,Ty,gy,sy⟩:=h.node (hm y hy')
 have gy1:∃ c,H1[y.1]?=some (.cells c Ty)/\y.2+1027<c.size:=by
   by_cases hyp:p.1=y.1
   · rw[<- hyp]at gy
     refine⟨_,by rw[<- hyp];exact g1 cy Ty gy,by simpa using sy⟩
   · exact⟨cy,by rw[e1.kC _ (fun e=>hyp e.symm)];exact gy,sy⟩
 obtain⟨cy1,gy1,sy1⟩:=gy1
 refine qx (n:=0) gy1 (by omega) rfl rfl fun H2 e2 g2=>?_
 have g2':∀ c T,H1[y.1]?=some (.cells c T)->H2[y.1]?=some (.cells (c.setIfInBounds (y.2+1026) (nT p)) T):=fun c T h'=>by
   rw[gy1]at h';injection h' with h';injection h' with h1 h2;subst h1 h2;exact g2
 have op:=CI p T7
 have oy:=CI y hy'
 have K8:∀ n:Nd,(n.2=0\/n.2=3)->JH H2 n=if n=y then some (nT p) else JH H n:=fun n hn=>by
   rw[Mo e2 n,Mo e1 n]
   by_cases hny:n=y
   · subst hny;simp
   · rw[aH (fun e=>hny (Prod.ext e.1 (by omega))),aH hny,aH (by omega)]
 have K9:∀ n:Nd,(n.2=0\/n.2=3)->GR H2 n=if n=p then some (nT y) else GR H n:=fun n hn=>by
   rw[Mu e2 n,Mu e1 n,aH (by omega)]
   by_cases Wm:n=p
   · subst Wm;simp
   · rw[aH (fun e=>Wm (Prod.ext e.1 (by omega))),aH Wm]
 refine k H2 ⟨e2.size.trans e1.size,fun b hb hB'=>?_,fun o h1 h2=>?_⟩ ⟨?_,fun z hz=>?_,?_,?_⟩
 · have hbn:∀ n:Nd,(n=(cb,3)\/n∈nF l1\/n∈nF l2)->b≠n.1:=fun n hn e=>by
     rcases hn with h1 | h1 | h1
     · rw[h1]at e;exact hb e
     · exact hB' (by rw[e,cU];exact jI _ (ZL.1 h1).2)
     · exact hB' (by rw[e,cU];exact km _ (ZL.1 h1).2)
   rw[e2.kC b (hbn y hy'),e1.kC b (hbn p T7)]
 · have Su:∀ n:Nd,(n=(cb,3)\/n∈nF l1\/n∈nF l2)->n.1=cb->n.2=3:=fun n hn e=>by
     rcases hn with h3 | h3 | h3
     · rw[h3]
     · exfalso
       have:=h.Dz
       rw[jo]at this
       exact this.1 (by rw[<- e,cU];exact jI _ (ZL.1 h3).2)
     · exfalso
       have:=h.Dz
       rw[jo]at this
       exact this.1 (by rw[<- e,cU,jb];exact km _ (dH _ (ZL.1 h3).2))
   rw[e2.lR,e1.lR,aH,aH]
   · rintro⟨e,e'⟩;have:=Su p T7 e.symm;omega
   · rintro⟨e,e'⟩;have:=Su y hy' e.symm;omega
 · exact xk (xk h.top e1 g1) e2 g2'
 · have KE:z∈l1++x :: l2:=by
     rcases fH.1 hz with h1 | h1
     · exact jI _ h1
     · exact km _ (dH _ h1)
   exact pZ (pZ (h.MI z KE) e1 g1 fun _=>by omega) e2 g2' fun _=>by omega
 · rw[wj,jP,hB,uk,hpe]
   have hA:(((cb,3):Nd) :: nF l1).Nodup:=jo.2 ⟨c1,d1⟩
   refine⟨s1.of (fun z hz=>?_) (fun z hz=>?_),?_,?_,s3.of (fun z hz=>?_) (fun z hz=>?_)⟩
   · rw[K8 z (CI z (.inr (.inl hz))),aH]
     intro e;subst e
     rcases hy with h1 | h1
     · exact c1 (h1 ▸ hz)
     · exact d4 z hz z (.inr h1) rfl
   · have CA:=rW _ hz
     have hz3:z=(cb,3)\/z∈nF l1:=by simpa using CA
     rw[K9 z (CI z (by rcases hz3 with h1 | h1;exact .inl h1;exact .inr (.inl h1))),aH]
     intro e
     have:=ve (nF l1) (cb,3) hA
     rw[hpe,<- e]at this
     exact this hz
   · rw[K9 p op,aU rfl]
   · rw[K8 y oy,aU rfl]
   · have CA:z∈nF l2++[((cb,3):Nd)]:=by rw[hB];exact dH _ hz
     have hz3:z∈nF l2\/z=(cb,3):=by simpa using CA
     have hBn:(y :: Bn).Nodup:=by
       rw[<- hB,jJ]
       refine⟨d3,by simp,fun a ha b hb e=>?_⟩
       simp only[eU]at hb
       subst hb;subst e;exact c3 ha
     rw[K8 z (CI z (by rcases hz3 with h1 | h1;exact .inr (.inr h1);exact .inl h1)),aH]
     intro e;subst e
     exact(jo.1 hBn).1 hz
   · have CA:z∈nF l2:=by
       rw[<- hB,List.dropLast_concat]at hz;exact hz
     rw[K9 z (CI z (.inr (.inr CA))),aH]
     intro e;subst e
     rcases hp with h1 | h1
     · exact c3 (h1 ▸ CA)
     · exact d4 z h1 z (.inr CA) rfl
 · have:=h.Dz
   rw[cU,jb]at this
   rw[cU]
   simp only[jo,jJ,fH,jg,not_or]at this ⊢
   obtain⟨⟨a1,a2,a3⟩,b1,⟨b2,b3⟩,b4⟩:=this
   exact⟨⟨a1,a3⟩,b1,b3,fun a ha b hb=>b4 a ha b (.inr hb)⟩
end
theorem Mz{H:Hp}{cb:Nat}{row:List Ln}(h:nV H cb row){n:Nd}(hn:n=(cb,3)\/n∈nF row){j:Nat}(hj:j<=1027):∃ c T,H[n.1]?=some (.cells c T)/\n.2+j<c.size:=by
 obtain⟨c,T,h1,h2⟩:=h.node hn;exact⟨c,T,h1,by omega⟩
theorem FO{H:Hp}{b o:Nat}{m:Nd}{K:Hp->Prop}(hb:∃ c T,H[b]?=some (.cells c T)/\o<c.size)
   (k:∀ H',Ed H H' b o (nT m)->(∀ c T,H[b]?=some (.cells c T)->H'[b]?=some (.cells (c.setIfInBounds o (nT m)) T))->K H') :
   Pu (zY (some 1) (.pointer (some ⟨b,o,none⟩)) (nT m) H) K:=by
 obtain⟨c,T,hc,hs⟩:=hb
 refine qx (n:=0) hc hs rfl rfl fun H' X1 hg=>k H' X1 fun c' T' h'=>?_
 rw[hc]at h'
 injection h' with h';injection h' with h1 h2
 subst h1 h2;exact hg
theorem uh{H H':Hp}{b b' o o':Nat}{v:Value}(h:∃ c T,H[b']?=some (.cells c T)/\o'<c.size)(hs:Ed H H' b o v)(hc:∀ c T,H[b]?=some (.cells c T)->H'[b]?=some (.cells (c.setIfInBounds o v) T)):∃ c T,H'[b']?=some (.cells c T)/\o'<c.size:=by
 obtain⟨c,T,h1,h2⟩:=h;by_cases hb:b=b'
 ·subst hb;exact⟨_,_,hc c T h1,by simpa using h2⟩
 ·exact⟨c,T,by rw[hs.kC _ (fun e=>hb e.symm)];exact h1,h2⟩
section
variable{H:Hp}{cb:Nat}{R:Value->Hp->Prop}
theorem Wa{row:List Ln}{x:Ln}(h:nV H cb row)(hx:Ee H x)(hxc:x.b≠cb)(hxr:x.b ∉ row.map (·.b))
   (k:∀ H',XA H H' cb (fun b=>b∈(row++[x]).map (·.b))->nV H' cb (row++[x])->R (.tuple #[]) H') :
   Fc TP 105 #[zD cb,zD x.b] H R:=by
 have Oe:=h.XP
 have lj:=EB h.Dz
 rw[uk]at Oe
 obtain⟨s1,n1,p1,_⟩:=Oe
 have hp:=rH (nF row) (cb,3)
 generalize hpe:oS ((cb,3):Nd) (nF row)=p at n1 p1 hp
 have hcr:cb ∉ row.map (·.b):=(jo.1 h.Dz).1
 have hpx:p.1≠x.b:=by
   rcases hp with h1 | h1
   · rw[h1];exact fun e=>hxc e.symm
   · exact fun e=>hxr (e ▸ (ZL.1 h1).2)
 have op:p.2=0\/p.2=3:=by
   rcases hp with h1 | h1
   · rw[h1];exact .inr rfl
   · exact .inl (ZL.1 h1).1
 have hpc:p.1=cb->p=(cb,3):=fun e=>by
   rcases hp with h1 | h1
   · exact h1
   · exact absurd (e ▸ (ZL.1 h1).2) hcr
 have lp:lR H cb 1029=some (nT p):=p1
 obtain⟨cx,gx,kx⟩:=hx
 have hxb:∃ c T,H[x.b]?=some (.cells c T)/\1027<c.size:=⟨cx,_,gx,by have:=kx.size;omega⟩
 refine fn105 ?_
 simp only[sh105,Ul,UA,Us,UI,zl,za,zc,aR,Nat.reduceAdd,yy,lp]
 refine FO (by obtain⟨c,T,a,b⟩:=hxb;exact⟨c,T,a,by omega⟩) fun H1 e1 g1=>?_
 have aj5:=uh hxb e1 g1
 refine FO (m:=(cb,3)) aj5 fun H2 e2 g2=>?_
 have lx:lR H2 x.b 1026=some (nT p):=by rw[e2.lR,aH (by omega),e1.lR,aU ⟨rfl,rfl⟩]
 simp only[lx,za,zl,zc]
 have hpb:=uh (uh (Mz h hp (j:=1027) (iU _)) e1 g1) e2 g2
 refine FO (m:=x.nd) hpb fun H3 e3 g3=>?_
 have hcb:=uh (uh (uh (Mz h (n:=(cb,3)) (.inl rfl) (j:=1026) (by omega)) e1 g1) e2 g2) e3 g3
 refine FO (m:=x.nd) hcb fun H4 e4 g4=>?_
 have K8:∀ n:Nd,(n.2=0\/n.2=3)->JH H4 n=if n.1=cb/\n.2=3 then some (nT x.nd) else if n.1=x.b/\n.2=0 then some (nT p) else JH H n:=fun n hn=>by
   show lR H4 n.1 (n.2+1026)=_
   rw[e4.lR,e3.lR,e2.lR,e1.lR]
   by_cases h1:n.1=cb/\n.2=3
   · rw[aU ⟨h1.1,by omega⟩,aU h1]
   · rw[aH (by omega),aH h1,aH (by omega),aH (by omega)]
     by_cases h2:n.1=x.b/\n.2=0
     · rw[aU ⟨h2.1,by omega⟩,aU h2]
     · rw[aH (by omega),aH h2];rfl
 have K9:∀ n:Nd,(n.2=0\/n.2=3)->GR H4 n=if n=p then some (nT x.nd) else if n.1=x.b/\n.2=0 then some (nT (cb,3)) else GR H n:=fun n hn=>by
   show lR H4 n.1 (n.2+1027)=_
   rw[e4.lR,e3.lR,e2.lR,e1.lR,aH (by omega)]
   by_cases h1:n=p
   · subst h1;rw[aU ⟨rfl,rfl⟩,aU rfl]
   · rw[aH (fun e=>h1 (Prod.ext e.1 (by omega))),aH h1]
     by_cases h2:n.1=x.b/\n.2=0
     · rw[aU ⟨h2.1,by omega⟩,aU h2]
     · rw[aH (by omega),aH h2,aH (by omega)];rfl
 refine k H4 ⟨by rw[e4.size,e3.size,e2.size,e1.size],fun b hb hB=>?_,fun o h1 h2=>?_⟩ ⟨?_,fun z hz=>?_,?_,?_⟩
 · rw[cU,fH,not_or]at hB
   have hbx:b≠x.b:=fun e=>hB.2 (by simp[e])
   have hbp:b≠p.1:=fun e=>by
     rcases hp with h1 | h1
     · rw[h1]at e;exact hb e
     · exact hB.1 (e ▸ (ZL.1 h1).2)
   rw[e4.kC b hb,e3.kC b hbp,e2.kC b hbx,e1.kC b hbx]
 · rw[e4.lR,aH (by omega),e3.lR,aH,e2.lR,aH (fun e=>hxc e.1.symm),e1.lR,aH (fun e=>hxc e.1.symm)]
   rintro⟨e,e'⟩
   have:=hpc e.symm
   rw[this]at e';omega
 · exact xk (xk (xk (xk h.top e1 g1) e2 g2) e3 g3) e4 g4
 · have KE:Ee H z:=by
     rcases fH.1 hz with h1 | h1
     · exact h.MI z h1
     · simp only[eU]at h1;subst h1;exact⟨cx,gx,kx⟩
   have Wk:cb≠z.b:=by
     rcases fH.1 hz with h1 | h1
     · exact fun e=>hcr (e ▸ iT.2 ⟨z,h1,rfl⟩)
     · simp only[eU]at h1;subst h1;exact fun e=>hxc e.symm
   exact pZ (pZ (pZ (pZ KE e1 g1 fun _=>by omega) e2 g2 fun _=>by omega) e3 g3 fun _=>by omega) e4 g4 fun e=>absurd e Wk
 · rw[wj,jP,uk,hpe]
   have hxn:∀ n∈nF row,n≠x.nd:=fun n hn e=>hxr (by have:=(ZL.1 hn).2;rw[e]at this;exact this)
   refine⟨s1.of (fun z hz=>?_) (fun z hz=>?_),?_,?_,?_,?_,trivial⟩
   · have hz0:=ZL.1 hz
     rw[K8 z (.inl hz0.1),aH (by omega),aH (fun(e:z.1=x.b/\z.2=0)=>hxr (e.1 ▸ hz0.2))]
   · have CA:=rW _ hz
     have hz3:z=(cb,3)\/z∈nF row:=by simpa using CA
     have hzo:z.2=0\/z.2=3:=by
       rcases hz3 with h1 | h1
       · rw[h1];exact .inr rfl
       · exact .inl (ZL.1 h1).1
     rw[K9 z hzo,aH,aH]
     · rintro⟨e,e'⟩
       rcases hz3 with h1 | h1
       · rw[h1]at e;exact hxc e.symm
       · exact hxr (e ▸ (ZL.1 h1).2)
     · intro e
       have:=ve (nF row) (cb,3) lj
       rw[hpe,<- e]at this
       exact this hz
   · rw[K9 p op,aU rfl]
   · show JH H4 x.nd=_
     rw[K8 x.nd (.inl rfl),aH (fun e=>hxc e.1),aU ⟨rfl,rfl⟩]
   · show GR H4 x.nd=_
     rw[K9 x.nd (.inl rfl),aH (fun e=>hpx (by rw[<- e])),aU ⟨rfl,rfl⟩]
   · rw[K8 (cb,3) (.inr rfl),aU ⟨rfl,rfl⟩]
 · have:=h.Dz
   rw[jo]at this ⊢
   rw[cU]
   refine⟨fun hm=>?_,?_⟩
   · rcases fH.1 hm with h1 | h1
     · exact this.1 h1
     · simp only[jb,sF,eU]at h1;exact hxc h1.symm
   · rw[jJ]
     refine⟨this.2,by simp,fun a ha b hb e=>?_⟩
     simp only[jb,sF,eU]at hb
     subst hb;subst e;exact hxr ha
end
def Z1(row:List Ln)(k:Int):Option Ln:=row.find? fun x=>x.at_ == k
def kZ(row:List Ln):Int:=((row.filter (·.j7)).length:Nat)
structure BA(H:Hp)(cb p:Nat)(size:Int)(row:List Ln)(mp:Nat):Prop where
 ring:nV H cb row
 d:lR H cb 0=some (zD p)
 sz:lR H cb 1=some (.int .i64 size)
 j7:lR H cb 2=some (.int .i64 (kZ row))
 has:lR H cb 1031=some (.map (some mp))
 map:kq H mp (fun k=>(Z1 row k).map fun x=>zD x.b) row.length
 AP:mp≠cb/\mp ∉ row.map (·.b)
 F2:(row.map (·.at_)).Nodup
theorem ae1:TP.underlying 98=some (.pointer 174):=by kernel_rfl
def DS.ly(s:DS)(a:Int):Int:=if s.jt then 3 else if a<0\/s.n<=a then 2 else 0
section
variable{H:Hp}{cb p mp:Nat}{size:Int}{row:List Ln}{s:DS}{O:Nat->Prop}{R:Value->Hp->Prop}
theorem tz(hd:jQ H p s O)(hc:BA H cb p size row mp){a:Int}(k:R (.int .i64 (s.ly a)) H):Fc TP 103 #[zD cb,.int .i64 a] H R:=by
 refine fn103 ?_;simp only[sh103,Ul,UA,Ub,UI,Uf,Uj,Uv,U1,zm];refine Zg.mk (fun x H'=>H'=H/\x.1=.bool false) ?_ ?_
 ·rintro⟨x,u⟩ H1 ⟨rfl,hx⟩;simp only at hx;subst hx;simp only[zh,zl,za,zc,aR,yy,hc.d];refine GA hd ?_;rw[Zj];refine⟨fun hs=>?_,fun hs=>?_⟩
  ·rw[show s.ly a=3 by simp[DS.ly,hs]]at k;exact k
  ·refine Zg.mk (fun x H'=>H'=H1/\x.1=.bool (decide (a<0\/s.n<=a))) ?_ ?_
   ·rintro⟨x,u⟩ H2 ⟨rfl,hx⟩;simp only at hx;subst hx;simp only[zb];refine⟨fun ho=>?_,fun ho=>?_⟩
    ·rw[show s.ly a=2 by simp[DS.ly,hs,ho]]at k;exact k
    ·rw[show s.ly a=0 by simp only[DS.ly,hs,jl,jD,aH ho]]at k;exact k
   ·simp only[zk,za,zb,hc.d];refine⟨fun h0=>⟨trivial,by simp[h0]⟩,fun h0=>?_⟩;refine tk hd ?_;simp only[zN,za];exact⟨trivial,by simp[h0]⟩
 ·simp only[Z6 ae1,za,zh,zl,zc,aR,yy,hc.d,Z6 LW,and_self]
theorem SS{row:List Ln}(h:∀ x∈row,x.j7=true):kZ row=row.length:=by
 unfold kZ;rw[List.filter_eq_self.2 h]
theorem Yi(l1 l2:List Ln):kZ (l1++l2)=kZ l1+kZ l2:=by
 unfold kZ;rw[LM,cR];omega
theorem yY(x:Ln)(l:List Ln):kZ (x :: l)=(if x.j7 then 1 else 0)+kZ l:=by
 unfold kZ;rw[List.filter_cons];split<;>simp<;>omega
theorem CW(l:List Ln):0<=kZ l/\kZ l<=l.length:=by
 unfold kZ;have:=List.length_filter_le (fun x:Ln=>x.j7) l;omega
theorem ym{H H':Hp}{b o:Nat}(h:H'[b]?=H[b]?):lR H' b o=lR H b o:=by
 unfold lR qK;simp only[h]
theorem Kp.all{S:Nat->Prop}{H H':Hp}(h:Kp S H H')(hs:H'.size=H.size){b:Nat}(hn:¬ S b):H'[b]?=H[b]?:=by
 by_cases hl:b<H.size
 ·exact h.same b hl hn
 ·rw[iQ (by omega),iQ (by omega)]
def ajD(row:List Ln)(v:Value):Nat:=
 match v with
 | .pointer (some a)=>row.length - (row.map (·.b)).idxOf a.block
 | _=>0
theorem Ix{l1 l2:List Nat}{b:Nat}(h:b ∉ l1):(l1++b :: l2).idxOf b=l1.length:=by
 induction l1 with
 | nil=>simp
 | cons a l ih=>
  simp only[jg,not_or]at h;rw[sG,List.idxOf_cons,ih h.2];have:(a == b)=false:=by simpa using fun e=>h.1 e.symm
  rw[this];rfl
theorem tS{cb:Nat}{l1 l2:List Ln}{x:Ln}(h:(cb :: (l1++x :: l2).map (·.b)).Nodup):x.b ∉ l1.map (·.b)/\x.b ∉ l2.map (·.b)/\x.b≠cb:=by
 rw[cU,jb]at h;simp only[jo,jJ,fH,jg,not_or]at h;obtain⟨⟨a1,a2,a3⟩,b1,⟨b2,b3⟩,b4⟩:=h;exact⟨fun hm=>b4 _ hm _ (.inl rfl) rfl,b2,fun e=>a2 e.symm⟩
theorem xX{l1 l2:List Ln}{x:Ln}(h:((l1++x :: l2).map (·.at_)).Nodup):Z1 (l1++x :: l2) x.at_=some x/\∀ k,k≠x.at_->Z1 (l1++x :: l2) k=Z1 (l1++l2) k:=by
 rw[cU,jb]at h;simp only[jJ,jo,jg]at h;obtain⟨_,_,h3⟩:=h;constructor
 ·unfold Z1;rw[jH];have:l1.find? (fun y=>y.at_ == x.at_)=none:=by
   rw[j0];intro y hy;have:=h3 y.at_ (iT.2 ⟨y,hy,rfl⟩) x.at_ (.inl rfl);simpa using this
  rw[this];simp
 ·intro k hk;unfold Z1;rw[jH,jH,List.find?_cons];have:(x.at_ == k)=false:=by simpa using fun e=>hk e.symm
  rw[this]
theorem OA{l1 l2:List Ln}{x:Ln}(h:((l1++x :: l2).map (·.at_)).Nodup):Z1 (l1++l2) x.at_=none:=by
 rw[cU,jb]at h;simp only[jJ,jo,jg]at h;obtain⟨_,⟨h2,_⟩,h3⟩:=h;unfold Z1;rw[j0];intro y hy;rcases fH.1 hy with h1 | h1
 ·have:=h3 y.at_ (iT.2 ⟨y,h1,rfl⟩) x.at_ (.inl rfl);simpa using this
 ·simp only[beq_iff_eq];exact fun e=>h2 (e ▸ iT.2 ⟨y,h1,rfl⟩)
theorem NZ{α:Type}{f:Ln->α}{l1 l2:List Ln}{x:Ln}(h:((l1++x :: l2).map f).Nodup):((l1++l2).map f).Nodup:=by
 rw[cU,jb]at h;rw[cU];simp only[jJ,jo,jg]at h ⊢;obtain⟨h1,⟨_,h2⟩,h3⟩:=h;exact⟨h1,h2,fun a ha b hb=>h3 a ha b (.inr hb)⟩
theorem BA.link{H:Hp}{cb p:Nat}{size:Int}{row:List Ln}{mp:Nat}(h:BA H cb p size row mp){l1 l2:List Ln}{x:Ln}(e:row=l1++x :: l2):GR H x.nd=some (nT (match l2 with | []=>(cb,3) | y :: _=>y.nd))/\Ee H x:=by
 have hs:=h.ring.XP;subst e;rw[wj,Cj,jP,uk]at hs;obtain⟨_,hs⟩:=hs;refine⟨?_,h.ring.MI x (by simp)⟩;cases l2 with
 | nil=>exact hs.2.2.1
 | cons y l2=>exact hs.2.2.1
theorem BA.first{H:Hp}{cb p:Nat}{size:Int}{row:List Ln}{mp:Nat}(h:BA H cb p size row mp):GR H (cb,3)=some (nT (match row with | []=>(cb,3) | y :: _=>y.nd)):=by
 have hs:=h.ring.XP;cases row with
 | nil=>exact hs.1
 | cons y l2=>exact hs.1
theorem Vt(hc:BA H cb p size row mp)(lH:size<=4611686018427387904)
   (k0:size<=kZ row->R (.bool false) H)
   (k1:kZ row<size->(row.length:Int)<size->R (.bool true) H)
   (k2:∀ H' l1 x l2,kZ row<size->size<=row.length->row=l1++x :: l2->(∀ y∈l1,y.j7=true)->x.j7=false->H'.size=H.size->Kp (fun b=>b=cb\/b=mp\/b∈row.map (·.b)) H H'->BA H' cb p size (l1++l2) mp->R (.bool true) H') :
   Fc TP 106 #[zD cb] H R:=by
 refine fn106 ?_
 simp only[sh106,Ul,UA,Ub,UI,Uf,Uo,U1,U0,Ul,UA,Ub,UI,Uf,Uo,U1,U0]
 have hl:=MG hc.map
 simp only[sh106,Ul,UA,Ub,UI,Uf,Uo,U1,U0,zl,za,zc,aR,Nat.reduceAdd,yy,hc.j7,hc.sz,zN,zb,hc.has,hl,zk,zm]
 refine⟨k0,fun hf=>⟨fun hlen=>k1 (by omega) hlen,fun hlen=>?_⟩⟩
 have acX:lR H cb 1030=_:=hc.first
 simp only[acX,za]
 have jZ:row≠[]:=fun e=>by
   subst e
   have:kZ []=0:=rfl
   rw[this]at hf;simp only[jW]at hlen;omega
 refine zF.mk (fun t H'=>H'=H/\∃ l1 x l2,row=l1++x :: l2/\(∀ y∈l1,y.j7=true)/\t.1=zD x.b) (fun t _=>ajD row t.1) ⟨rfl,?_⟩ ?_
 · cases row with
   | nil=>exact absurd rfl jZ
   | cons y l=>exact⟨[],y,l,rfl,by simp,rfl⟩
 · rintro⟨t,u⟩ H1 ⟨rfl,l1,x,l2,kE,mc,ht⟩
   simp only at ht
   subst ht
   obtain⟨hn,c,gx,kx⟩:=hc.link kE
   have hcf:lR H1 x.b 1025=some (.bool x.j7):=by rw[tx gx];exact kx.j7
   have Su:lR H1 x.b 1027=_:=hn
   have hca:lR H1 x.b 0=some (.int .i64 x.at_):=by rw[tx gx];exact kx.num
   simp only[zl,za,zc,aR,yy,hcf,Su,Zj]
   refine⟨fun hx=>?_,fun hx=>?_⟩
   · cases l2 with
     | nil=>
       exfalso
       have:∀ y∈row,y.j7=true:=fun y hy=>by
         rw[kE]at hy
         rcases fH.1 hy with h1 | h1
         · exact mc y h1
         · simp only[eU]at h1;rw[h1];exact hx
       have:=SS this
       omega
     | cons y l2=>
       have kG:=tS (kE ▸ hc.ring.Dz)
       have CG:row=(l1++[x])++y :: l2:=by rw[kE];simp
       have akA:=tS (CG ▸ hc.ring.Dz)
       refine⟨⟨trivial,l1++[x],y,l2,CG,fun z hz=>?_,rfl⟩,?_⟩
       · rcases fH.1 hz with h1 | h1
         · exact mc z h1
         · simp only[eU]at h1;rw[h1];exact hx
       · show row.length - (row.map (·.b)).idxOf y.b<row.length - (row.map (·.b)).idxOf x.b
         have e1:(row.map (·.b)).idxOf x.b=l1.length:=by
           rw[kE,cU,jb,Ix kG.1,bR]
         have e2:(row.map (·.b)).idxOf y.b=l1.length+1:=by
           rw[CG,cU,jb,Ix akA.1,bR];simp
         have e3:row.length=l1.length+(l2.length+1+1):=by rw[kE];simp
         rw[e1,e2,e3];omega
   · have R3:=hc.ring
     rw[kE]at R3
     have kG:=tS R3.Dz
     refine Ik R3 fun H2 sH wF=>?_
     have hxo:x.b ∉ (l1++l2).map (·.b):=fun hm=>by
       rw[cU,fH]at hm
       rcases hm with h1 | h1
       · exact kG.1 h1
       · exact kG.2.1 h1
     have gx':H2[x.b]?=some (.cells c 171):=by rw[sH.kC x.b kG.2.2 hxo];exact gx
     have hx2:Ee H2 x:=⟨c,gx',kx⟩
     obtain⟨c2,gx2,kx2⟩:=hx2
     have EN:lR H2 cb 1031=some (.map (some mp)):=by rw[sH.top 1031 (by omega) (by omega)];exact hc.has
     have uM:lR H2 x.b 0=some (.int .i64 x.at_):=by rw[tx gx2];exact kx2.num
     have hB:∀ b,b∈(l1++l2).map (·.b)->b∈row.map (·.b):=fun b hb=>by
       rw[kE];simp only[cU,jb,fH,jg]at hb ⊢
       rcases hb with h1 | h1
       · exact .inl h1
       · exact .inr (.inr h1)
     have agL:kq H2 mp (fun k=>(Z1 row k).map fun x=>zD x.b) row.length:=hc.map.of (sH.kC mp hc.AP.1 fun hm=>hc.AP.2 (hB _ hm))
     simp only[EN,uM,za]
     refine HZ agL fun H3 k3 s3 m3=>?_
     have hA:=hc.F2
     rw[kE]at hA
     have hfx:=xX hA
     have EV:∀ b o,b≠mp->lR H3 b o=lR H2 b o:=fun b o hb=>ym (k3.all s3 fun e=>hb e)
     have hmc:cb≠mp:=fun e=>hc.AP.1 e.symm
     have hmr:∀ z∈l1++l2,z.b≠mp:=fun z hz e=>hc.AP.2 (e ▸ hB _ (iT.2 ⟨z,hz,rfl⟩))
     refine k2 H3 l1 x l2 (by omega) (by omega) kE mc hx (s3.trans sH.size) ?_ ?_
     · exact(sH.kp.mono fun b _ hb=>by
         rcases hb with h1 | h1
         · exact .inl h1
         · exact .inr (.inr (hB b h1))).trans (k3.mono fun b _ e=>.inr (.inl e))
     · refine⟨⟨?_,fun z hz=>?_,wF.XP.of (fun z hz=>?_) (fun z hz=>?_),wF.Dz⟩,?_,?_,?_,?_,?_,⟨hc.AP.1,fun hm=>hc.AP.2 (hB _ hm)⟩,NZ hA⟩
       · obtain⟨ct,g1,g2⟩:=wF.top
         exact⟨ct,k3.at g1 (fun e=>hmc e),g2⟩
       · obtain⟨cz,g1,g2⟩:=wF.MI z hz
         exact⟨cz,k3.at g1 (fun e=>hmr z hz e),g2⟩
       · have CA:z∈nF (l1++l2)\/z=(cb,3):=by simpa using hz
         refine EV _ _ ?_
         rcases CA with h1 | h1
         · intro e;obtain⟨y,hy,he⟩:=iT.1 (ZL.1 h1).2;exact hmr y hy (by rw[he,e])
         · rw[h1];exact hmc
       · have RZ:=rW _ hz
         have CA:z=(cb,3)\/z∈nF (l1++l2):=by
           rcases jg.1 RZ with h1 | h1
           · exact .inl h1
           · have:z∈nF (l1++l2)\/z=(cb,3):=by simpa using h1
             exact this.symm
         refine EV _ _ ?_
         rcases CA with h1 | h1
         · rw[h1];exact hmc
         · intro e;obtain⟨y,hy,he⟩:=iT.1 (ZL.1 h1).2;exact hmr y hy (by rw[he,e])
       · rw[EV _ _ hmc,sH.top 0 (by omega) (by omega)];exact hc.d
       · rw[EV _ _ hmc,sH.top 1 (by omega) (by omega)];exact hc.sz
       · rw[EV _ _ hmc,sH.top 2 (by omega) (by omega),hc.j7,kE,Yi,Yi,yY,hx];simp
       · rw[EV _ _ hmc];exact EN
       · have MW:(if (Z1 row x.at_).map (fun x=>zD x.b)=none then row.length else row.length - 1)=(l1++l2).length:=by
           rw[kE,hfx.1];simp
         rw[MW]at m3
         refine m3.congr fun k=>?_
         unfold sQ
         by_cases hk:k=x.at_
         · rw[aU hk,hk,OA hA];rfl
         · rw[aH hk,<- hfx.2 k hk,kE]
end
structure Pl where
 at_:Int
 data:jn
 j7:Bool
def Ln.pl(x:Ln):Pl:=⟨x.at_,x.data,x.j7⟩
def Zl(cs:List Pl)(k:Int):Option Pl:=cs.find? fun x=>x.at_ == k
def ZJ(cs:List Pl):Int:=((cs.filter (·.j7)).length:Nat)
def u0(cs:List Pl)(k:Int):List Pl:=cs.eraseP fun x=>x.at_ == k
def oH(size:Int)(cs:List Pl):Option (List Pl):=if size<=ZJ cs then none else if (cs.length:Int)<size then some cs else some (cs.eraseP fun x=>!x.j7)
theorem xY(row:List Ln):ZJ (row.map Ln.pl)=kZ row:=by
 unfold ZJ kZ;rw[List.filter_map,bR];rfl
theorem Yg(row:List Ln)(k:Int):Zl (row.map Ln.pl) k=(Z1 row k).map Ln.pl:=by
 unfold Zl Z1;rw[List.find?_map];rfl
theorem vy{α:Type}{f:α->Bool}{l1 l2:List α}{x:α}(h1:∀ y∈l1,f y=false)(h2:f x=true):(l1++x :: l2).eraseP f=l1++l2:=by
 induction l1 with
 | nil=>simp[h2]
 | cons a l ih=>
  rw[sG,List.eraseP_cons_of_neg (by rw[h1 a eH];decide),ih fun y hy=>h1 y (dH _ hy)];rfl
theorem tc{row:List Ln}{k:Int}{x:Ln}(h:Z1 row k=some x):∃ l1 l2,row=l1++x :: l2/\x.at_=k/\∀ y∈l1,y.at_≠k:=by
 unfold Z1 at h;rw[List.find?_eq_some_iff_append]at h;obtain⟨h1,l1,l2,h2,h3⟩:=h;exact⟨l1,l2,h2,by simpa using h1,fun y hy=>by simpa using h3 y hy⟩
def BB(cb mp:Nat)(row:List Ln):Nat->Prop:=fun b=>b=cb\/b=mp\/b∈row.map (·.b)
theorem nV.of{H H':Hp}{cb:Nat}{row:List Ln}(h:nV H cb row)(hb:∀ b,b=cb\/b∈row.map (·.b)->H'[b]?=H[b]?):nV H' cb row:=by
 refine⟨?_,fun z hz=>?_,h.XP.of (fun z hz=>?_) (fun z hz=>?_),h.Dz⟩
 ·obtain⟨ct,g1,g2⟩:=h.top;exact⟨ct,by rw[hb cb (.inl rfl)];exact g1,g2⟩
 ·obtain⟨cz,g1,g2⟩:=h.MI z hz;exact⟨cz,by rw[hb _ (.inr (iT.2 ⟨z,hz,rfl⟩))];exact g1,g2⟩
 ·have CA:z∈nF row\/z=(cb,3):=by simpa using hz
  refine ym (hb _ ?_);rcases CA with h1 | h1
  ·exact .inr (ZL.1 h1).2
  ·rw[h1];exact .inl rfl
 ·have RZ:=rW _ hz;have CA:z=(cb,3)\/z∈nF row:=by
   rcases jg.1 RZ with h1 | h1
   ·exact .inl h1
   ·have:z∈nF row\/z=(cb,3):=by simpa using h1
    exact this.symm
  refine ym (hb _ ?_);rcases CA with h1 | h1
  ·rw[h1];exact .inl rfl
  ·exact .inr (ZL.1 h1).2
theorem BA.of{H H':Hp}{cb p mp:Nat}{size:Int}{row:List Ln}(h:BA H cb p size row mp)(hb:∀ b,BB cb mp row b->H'[b]?=H[b]?):BA H' cb p size row mp:=by
 have hc:∀ o,lR H' cb o=lR H cb o:=fun o=>ym (hb cb (.inl rfl));exact⟨h.ring.of fun b e=>hb b (by rcases e with e | e;exact .inl e;exact .inr (.inr e)),by rw[hc];exact h.d,by rw[hc];exact h.sz,by rw[hc];exact h.j7,by rw[hc];exact h.has,h.map.of (hb mp (.inr (.inl rfl))),h.AP,h.F2⟩
theorem BA.lt{H:Hp}{cb p mp:Nat}{size:Int}{row:List Ln}(h:BA H cb p size row mp):∀ b,BB cb mp row b->b<H.size:=by
 rintro b (rfl | rfl | hb)
 ·obtain⟨c,g,_⟩:=h.ring.top;exact Zu g
 ·exact h.map.lt
 ·obtain⟨x,hx,rfl⟩:=iT.1 hb;obtain⟨c,g,_⟩:=h.ring.MI x hx;exact Zu g
structure TW(H:Hp)(cb p:Nat)(size:Int)(row:List Ln)(x:Ln)(mp:Nat):Prop where
 ring:nV H cb row
 lk:Ee H x
 xn:x.b≠cb/\x.b ∉ row.map (·.b)/\mp≠x.b
 d:lR H cb 0=some (zD p)
 sz:lR H cb 1=some (.int .i64 size)
 j7:lR H cb 2=some (.int .i64 (kZ (row++[x])))
 has:lR H cb 1031=some (.map (some mp))
 map:kq H mp (fun k=>(Z1 (row++[x]) k).map fun x=>zD x.b) (row.length+1)
 AP:mp≠cb/\mp ∉ row.map (·.b)
 F2:((row++[x]).map (·.at_)).Nodup
section
variable{H:Hp}{cb p mp:Nat}{size:Int}{R:Value->Hp->Prop}
theorem MM{l1 l2:List Ln}{x:Ln}(hc:BA H cb p size (l1++x :: l2) mp)(k:∀ H',H'.size=H.size->Kp (BB cb mp (l1++x :: l2)) H H'->TW H' cb p size (l1++l2) x mp->R (.tuple #[]) H') :
   Fc TP 104 #[zD x.b] H R:=by
 have kG:=tS hc.ring.Dz
 have hxo:x.b ∉ (l1++l2).map (·.b):=fun hm=>by
   rw[cU,fH]at hm
   rcases hm with h1 | h1
   · exact kG.1 h1
   · exact kG.2.1 h1
 have hB:∀ b,b∈(l1++l2).map (·.b)->b∈(l1++x :: l2).map (·.b):=fun b hb=>by
   simp only[cU,jb,fH,jg]at hb ⊢
   rcases hb with h1 | h1
   · exact .inl h1
   · exact .inr (.inr h1)
 have hA:=hc.F2
 have hfx:=xX hA
 have hAo:((l1++l2++[x]).map (·.at_)).Nodup:=by
   simp only[cU,jb,sF,jJ,jo,jg,fH,jP]at hA ⊢
   obtain⟨a1,⟨a2,a3⟩,a4⟩:=hA
   refine⟨a1,⟨a3,⟨by simp,rV⟩,fun a ha b hb e=>?_⟩,fun a ha b hb=>?_⟩
   · rcases hb with rfl | hb
     · subst e;exact a2 ha
     · simp at hb
   · rcases hb with h1 | h1
     · exact a4 a ha b (.inr h1)
     · rcases h1 with h1 | h1
       · exact a4 a ha b (.inl h1)
       · simp at h1
 have EP:∀ k,Z1 (l1++l2++[x]) k=Z1 (l1++x :: l2) k:=fun k=>by
   have h2:=xX hAo
   by_cases hk:k=x.at_
   · subst hk;rw[h2.1,hfx.1]
   · rw[h2.2 k hk,hfx.2 k hk,jY]
 refine Ik hc.ring fun H2 sH wF=>k H2 sH.size (sH.kp.mono fun b _ hb=>?_) ⟨wF,?_,⟨kG.2.2,hxo,fun e=>hc.AP.2 (by rw[e];simp)⟩,?_,?_,?_,?_,?_,⟨hc.AP.1,fun hm=>hc.AP.2 (hB _ hm)⟩,hAo⟩
 · rcases hb with h1 | h1
   · exact .inl h1
   · exact .inr (.inr (hB b h1))
 · obtain⟨c,gx,kx⟩:=hc.ring.MI x (by simp)
   exact⟨c,by rw[sH.kC x.b kG.2.2 hxo];exact gx,kx⟩
 · rw[sH.top 0 (by omega) (by omega)];exact hc.d
 · rw[sH.top 1 (by omega) (by omega)];exact hc.sz
 · rw[sH.top 2 (by omega) (by omega),hc.j7]
   simp only[Yi,yY]
   have:kZ []=0:=rfl
   rw[this]
   congr 2;omega
 · rw[sH.top 1031 (by omega) (by omega)];exact hc.has
 · have hm:=hc.map.of (H':=H2) (sH.kC mp hc.AP.1 fun hm=>hc.AP.2 (hB _ hm))
   have:(l1++x :: l2).length=(l1++l2).length+1:=by simp;omega
   rw[this]at hm
   exact hm.congr fun k=>by rw[EP k]
theorem Ky{row:List Ln}{x:Ln}(ho:TW H cb p size row x mp)(k:∀ H',H'.size=H.size->Kp (BB cb mp (row++[x])) H H'->BA H' cb p size (row++[x]) mp->R (.tuple #[]) H') :
   Fc TP 105 #[zD cb,zD x.b] H R:=by
 refine Wa ho.ring ho.lk ho.xn.1 ho.xn.2.1 fun H2 sH wF=>k H2 sH.size (sH.kp.mono fun b _ hb=>?_) ⟨wF,?_,?_,?_,?_,?_,⟨ho.AP.1,fun hm=>?_⟩,ho.F2⟩
 · rcases hb with h1 | h1
   · exact .inl h1
   · exact .inr (.inr h1)
 · rw[sH.top 0 (by omega) (by omega)];exact ho.d
 · rw[sH.top 1 (by omega) (by omega)];exact ho.sz
 · rw[sH.top 2 (by omega) (by omega)];exact ho.j7
 · rw[sH.top 1031 (by omega) (by omega)];exact ho.has
 · have kG:mp ∉ (row++[x]).map (·.b):=fun hm=>by
     rw[cU,fH]at hm
     rcases hm with h1 | h1
     · exact ho.AP.2 h1
     · simp only[jb,sF,eU]at h1;exact ho.xn.2.2 h1
   have hm:=ho.map.of (H':=H2) (sH.kC mp ho.AP.1 kG)
   rw[cR];exact hm
 · rw[cU,fH]at hm
   rcases hm with h1 | h1
   · exact ho.AP.2 h1
   · simp only[jb,sF,eU]at h1;exact ho.xn.2.2 h1
theorem QS{row:List Ln}(hc:BA H cb p size row mp)(lH:size<=4611686018427387904)
   (k0:oH size (row.map Ln.pl)=none->R (.bool false) H)
   (k1:∀ H' sq,H'.size=H.size->Kp (BB cb mp row) H H'->BA H' cb p size sq mp->oH size (row.map Ln.pl)=some (sq.map Ln.pl)->(∀ y∈sq,y∈row)->R (.bool true) H') :
   Fc TP 106 #[zD cb] H R:=by
 refine Vt hc lH (fun h=>k0 (by unfold oH;rw[xY,aU h])) (fun h1 h2=>k1 H row rfl (Kp.refl _ _) hc (by unfold oH;rw[xY,aH (by omega),bR,aU h2]) fun y hy=>hy)
   fun H' l1 x l2 h1 h2 h3 h4 h5 hs hk Ot=>k1 H' (l1++l2) hs hk Ot ?_ fun y hy=>?_
 · unfold oH
   rw[xY,aH (by omega),bR,aH (by omega),h3,cU,jb]
   rw[vy (fun y hy=>?_) (by simp[Ln.pl,h5]),cU]
   obtain⟨z,hz,rfl⟩:=iT.1 hy
   simp[Ln.pl,h4 z hz]
 · rw[h3]
   rcases fH.1 hy with h | h
   · exact jI _ h
   · exact km _ (dH _ h)
end
noncomputable def zLk:Array Value:=Nz (ZZ TP 171)
theorem PX:ZZ TP 171=some (.agg zLk):=by kernel_rfl
theorem sM:zLk.size=1028:=by kernel_rfl
theorem G6:zLk[1025]?=some (.bool false):=by kernel_rfl
theorem P0:(zLk.toList.drop 1).take 1024=zB.toList:=by kernel_rfl
theorem afF:rB TP 171=some [(0,1),(1,1024),(1025,1),(1026,1),(1027,1)]:=by kernel_rfl
noncomputable def rE(a:Int):Array Value:=zL zLk 0 #[.int .i64 a]
noncomputable def Ie(a:Int)(d:jn):Array Value:=zL (rE a) 1 d
theorem qD(a:Int):(rE a).size=1028:=by unfold rE;rw[zO (by rw[sM];simp),sM]
theorem qa(a:Int)(j:Nat):(rE a)[j]?=if j=0 then some (.int .i64 a) else zLk[j]?:=by
 unfold rE;rw[zH (by rw[sM];simp)];by_cases h:j=0
 ·subst h;simp
 ·rw[aH (by omega),aH (by simp;omega),aH h]
theorem RC(a:Int)(b:Nat):PB (rE a) ⟨b,a,zB,false⟩:=by
 refine⟨qD a,by rw[qa];rfl,?_,by rw[qa];exact G6,z6⟩;apply jm;intro j;rw[ji,qD];have:=congrArg (fun l=>l[j]?) P0;simp only[List.getElem?_take,LL,nj]at this;by_cases hj:j<1024
 ·rw[aU (by omega),qa,aH (by omega)];rw[aU hj]at this;exact this
 ·rw[aH (by omega),iQ (by rw[zw];omega)]
theorem V4(a:Int){d:jn}(hd:jR d)(b:Nat):PB (Ie a d) ⟨b,a,d,false⟩:=by
 have hs:=qD a;have h1:1+d.size<=(rE a).size:=by rw[hd.size,hs];omega
 refine⟨by unfold Ie;rw[zO h1,hs],?_,?_,?_,hd⟩
 ·unfold Ie;rw[zH h1,aU (by omega),qa];rfl
 ·exact yC (n:=1024) (by rw[hs];omega) hd.size
 ·unfold Ie;rw[zH h1,aH (by omega),aH (by rw[hd.size];omega),qa];exact G6
theorem Pb{a:Int}:zo TP 171 [(0,.int .i64 a)]=some (.agg (rE a)):=by
 refine yi PX afF ?_;exact ZC rfl rfl (by rw[sM];omega) rfl
theorem Tx{a:Int}{d:jn}(hd:jR d):zo TP 171 [(0,.int .i64 a),(1,.agg d)]=some (.agg (Ie a d)):=by
 refine yi PX afF ?_;refine ZC rfl rfl (by rw[sM];omega) ?_;exact ZC rfl hd.size (by have:=qD a;unfold rE at this;rw[ZV,this];omega) rfl
structure kJ(H:Hp)(cb p:Nat)(size:Int)(cs:List Pl)(O:Nat->Prop):Prop where
 is:∃ row mp,BA H cb p size row mp/\row.map Ln.pl=cs/\(∀ b,BB cb mp row b->O b)
 lt:∀ b,O b->b<H.size
theorem kJ.of{H H':Hp}{cb p:Nat}{size:Int}{cs:List Pl}{O:Nat->Prop}(h:kJ H cb p size cs O)(hb:∀ b,O b->H'[b]?=H[b]?)(hle:H.size<=H'.size):kJ H' cb p size cs O:=by
 obtain⟨⟨row,mp,h1,h2,h3⟩,hl⟩:=h;exact⟨⟨row,mp,h1.of fun b e=>hb b (h3 b e),h2,h3⟩,fun b ho=>jj (hl b ho) hle⟩
theorem kJ.ext{H H':Hp}{cb p:Nat}{size:Int}{cs:List Pl}{O:Nat->Prop}(h:kJ H cb p size cs O)(hx:Ext H H'):kJ H' cb p size cs O:=h.of (fun b ho=>hx.same b (h.lt b ho)) hx.le
theorem kJ.kp{H H':Hp}{cb p:Nat}{size:Int}{cs:List Pl}{O S:Nat->Prop}(h:kJ H cb p size cs O)(hk:Kp S H H')(hs:∀ b,O b->¬ S b):kJ H' cb p size cs O:=h.of (fun b ho=>hk.same b (h.lt b ho) (hs b ho)) hk.le
def Zk(size:Int)(s:DS)(cs:List Pl)(a:Int):DS × List Pl × jn × Int:=
 if s.ly a≠0 then(s,cs,zB,s.ly a) else
  match Zl cs a with
  | some x=>(s,u0 cs a++[x],x.data,0)
  | none=>match oH size cs with
   | none=>(s,cs,zB,160)
   | some PQ=>((s.read a).1,PQ++[⟨a,s.now a,false⟩],s.now a,0)
theorem xW{row:List Ln}{k:Int}(h:Z1 row k=none):k ∉ row.map (·.at_):=by
 unfold Z1 at h;rw[j0]at h;intro hm;obtain⟨x,hx,he⟩:=iT.1 hm;have:=h x hx;simp[he]at this
theorem xA{row:List Ln}{k:Int}(h:k ∉ row.map (·.at_)):Z1 row k=none:=by
 unfold Z1;rw[j0];intro x hx;simp only[beq_iff_eq];exact fun e=>h (iT.2 ⟨x,hx,e⟩)
theorem KW{row:List Ln}{x:Ln}(h:x.at_ ∉ row.map (·.at_))(k:Int):Z1 (row++[x]) k=if k=x.at_ then some x else Z1 row k:=by
 unfold Z1;rw[jH];by_cases hk:k=x.at_
 ·subst hk;have:=xA h;unfold Z1 at this;rw[this];simp
 ·rw[aH hk];have h2:(x.at_ == k)=false:=beq_eq_false_iff_ne.2 fun e=>hk e.symm;have:[x].find? (fun y=>y.at_ == k)=none:=by rw[List.find?_cons,h2];rfl
  rw[this];simp
theorem B7{l1 l2:List Ln}{x:Ln}(h:∀ y∈l1,y.at_≠x.at_):u0 ((l1++x :: l2).map Ln.pl) x.at_=(l1++l2).map Ln.pl:=by
 unfold u0;rw[cU,jb,vy (fun y hy=>?_) (by simp[Ln.pl]),cU];obtain⟨z,hz,rfl⟩:=iT.1 hy;simpa[Ln.pl]using h z hz
theorem HT{H H1 H2:Hp}{cb p mp:Nat}{size:Int}{row:List Ln}{x:Ln}{c:Array Value}(hc:BA H cb p size row mp)(hx:Ext H H1)(hb:H.size<=x.b)(g:H1[x.b]?=some (.cells c 171))(kx:PB c x)(hf:x.j7=false)(ha:Z1 row x.at_=none)
   (k2:Kp (·=mp) H1 H2) (s2:H2.size=H1.size) (m2:kq H2 mp (sQ (fun k=>(Z1 row k).map fun x=>zD x.b) x.at_ (some (zD x.b))) (if (Z1 row x.at_).map (fun x=>zD x.b)=none then row.length+1 else row.length)):TW H2 cb p size row x mp:=by
 have sa:∀ b,b=cb\/b∈row.map (·.b)->H2[b]?=H[b]?:=fun b hb=>by
   have kc:b<H.size:=hc.lt b (by rcases hb with e | e;exact .inl e;exact .inr (.inr e))
   rw[k2.all s2 (fun e=>by
     rcases hb with h1 | h1
     · exact hc.AP.1 (e ▸ h1)
     · exact hc.AP.2 (e ▸ h1)),hx.same b kc]
 have hcb:=hc.lt cb (.inl rfl)
 have hmp:=hc.lt mp (.inr (.inl rfl))
 have lI:∀ o,lR H2 cb o=lR H cb o:=fun o=>ym (sa cb (.inl rfl))
 have sw:=xW ha
 refine⟨hc.ring.of sa,⟨c,k2.at g (fun e=>by omega),kx⟩,⟨by omega,fun hm=>?_,by omega⟩,by rw[lI];exact hc.d,by rw[lI];exact hc.sz,?_,by rw[lI];exact hc.has,?_,hc.AP,?_⟩
 · have:=hc.lt x.b (.inr (.inr hm));omega
 · rw[lI,hc.j7,Yi,yY,hf]
   have:kZ []=0:=rfl
   rw[this];simp
 · have:(if (Z1 row x.at_).map (fun x=>zD x.b)=none then row.length+1 else row.length)=row.length+1:=by rw[ha];rfl
   rw[this]at m2
   refine m2.congr fun k=>?_
   rw[KW sw]
   unfold sQ
   split<;>rfl
 · rw[cU,jJ]
   refine⟨hc.F2,by simp,fun a ha b hb e=>?_⟩
   simp only[jb,sF,eU]at hb
   subst hb;subst e;exact sw ha
theorem Fx:ZZ TP 168=some (.pointer none):=by kernel_rfl
theorem DS.Vx{s:DS}{a:Int}(h:s.ly a=0):(s.read a).2.1=s.now a/\(s.read a).2.2=0:=by
 unfold DS.ly at h;unfold DS.read;by_cases h1:s.jt=true
 ·rw[aU h1]at h;cases h
 ·rw[aH h1]at h ⊢;by_cases h2:a<0\/s.n<=a
  ·rw[aU h2]at h;cases h
  ·rw[aH h2];exact⟨rfl,rfl⟩
section
variable{H:Hp}{cb p:Nat}{size:Int}{cs:List Pl}{s:DS}{Od Oc:Nat->Prop}{R:Value->Hp->Prop}
theorem Dm(hd:jQ H p s Od)(hc:kJ H cb p size cs Oc)(dis:∀ b,Od b->¬ Oc b)(hr:s.reads<4611686018427387904/\0<=s.reads)(lH:size<=4611686018427387904){a:Int}
   (k:∀ H' A0,Kp (fun b=>Od b\/Oc b) H H'->(∀ b,A0 b->Oc b\/H.size<=b)->jQ H' p (Zk size s cs a).1 Od->kJ H' cb p size (Zk size s cs a).2.1 A0 ->
     R (.tuple #[.agg (Zk size s cs a).2.2.1,.int .i64 (Zk size s cs a).2.2.2]) H') :
   Fc TP 47 #[zD cb,.int .i64 a] H R:=by
 refine fn47 ?_
 simp only[sh47,Ul,UL,UA,Us,Ub,Uz,Ux,UI,Uf,Uu,Uv,ZI,za]
 refine Z9 fun b H1 hb e1 s1 g1=>?_
 simp only[zI]at g1
 have PN:=hd.ext e1
 have hc1:=hc.ext e1
 have Um:¬ Od b:=fun ho=>by have:=hd.lt b ho;omega
 have WD:¬ Oc b:=fun ho=>by have:=hc.lt b ho;omega
 have out:∀ (H2:Hp) (c:jn) (e:Int) (s':DS) (ke:List Pl) (A0:Nat->Prop),Kp (fun b=>Od b\/Oc b) H1 H2->(∀ b,A0 b->Oc b\/H1.size<=b)->jQ H2 p s' Od->kJ H2 cb p size ke A0->(∃ c0,H2[b]?=some (.cells c0 65)/\c0.size=1024)->jR c->Zk size s cs a=(s',ke,c,e) ->
     Pu (zY (some 1024) (.pointer (some ⟨b,0,none⟩)) (.agg c) H2) fun H3=>Pu (zX (some (some 1024)) (.pointer (some ⟨b,0,none⟩)) H3) fun x6=>R (.tuple #[x6,.int .i64 e]) H3:=by
   intro H2 c e s' ke A0 hk hn AW Gm ⟨c0,g2,GV⟩ hcB heq
   refine Zc g2 GV hcB.size hcB.ok fun H3 k3 s3 g3=>?_
   rw[zV g3 hcB.size,za]
   have Wq:Kp (fun b=>Od b\/Oc b) H H3:=⟨kg e1.le (kg hk.le k3.le),fun j hj hn=>by rw[k3.same j (jj hj (kg e1.le hk.le)) (by omega),hk.same j (jj hj e1.le) hn,e1.same j hj]⟩
   have:=k H3 A0 Wq (fun j hj=>by
     rcases hn j hj with h1 | h1
     · exact .inl h1
     · exact .inr (by omega))
   rw[heq]at this
   have alj:¬ A0 b:=fun ho=>by
     rcases hn b ho with h1 | h1
     · exact WD h1
     · omega
   exact this (AW.kp k3 fun j hj e=>Um (e ▸ hj)) (Gm.kp k3 fun j hj e=>alj (e ▸ hj))
 obtain⟨⟨row,mp,hC,nX,hO⟩,kc⟩:=hc1
 refine tz PN hC ?_
 simp only[zn,za,zb]
 refine⟨fun hw=>?_,fun hw=>?_⟩
 · simp only[yP,za]
   exact out H1 zB (s.ly a) s cs Oc (Kp.refl _ _) (fun j hj=>.inl hj) PN ⟨⟨row,mp,hC,nX,hO⟩,kc⟩ ⟨_,g1,zw⟩ z6 (by unfold Zk;rw[aU hw])
 · have hw:s.ly a=0:=jh.1 hw
   simp only[zl,za,zc,aR,yy,hC.has]
   rw[YT hC.map]
   have hBO:∀ j,BB cb mp row j->¬ Od j:=fun j hj ho=>dis j ho (hO j hj)
   cases EP:Z1 row a with
   | some x=>
     obtain⟨l1,l2,kE,T5,Oi⟩:=tc EP
     simp only[iR,u7,ux,jO,za,zq,fR,dU,gH,zA]
     subst kE
     refine MM hC fun H2 s2 k2 ho2=>?_
     refine Ky ho2 fun H3 s3 k3 EV=>?_
     have mK:∀ j,BB cb mp (l1++l2++[x]) j->BB cb mp (l1++x :: l2) j:=fun j hj=>by
       rcases hj with h1 | h1 | h1
       · exact .inl h1
       · exact .inr (.inl h1)
       · refine .inr (.inr ?_)
         simp only[cU,jb,sF,fH,jg,List.not_mem_nil,or_false]at h1 ⊢
         rcases h1 with (h1 | h1) | h1
         · exact .inl h1
         · exact .inr (.inr h1)
         · exact .inr (.inl h1)
     have k13:Kp (BB cb mp (l1++x :: l2)) H1 H3:=k2.tr k3 (fun j _ h=>h) fun j _ h=>mK j h
     obtain⟨c,gx,kx⟩:=EV.ring.MI x (by simp)
     have CG:zX (some (some 1024)) (.pointer (some ⟨x.b,1,none⟩)) H3=some (.agg x.data):=by
       rw[Za gx (by rw[kx.size];omega)];rw[show(1+1024:Nat)=1025 from rfl,kx.data]
     simp only[zl,za,zc,aR,CG]
     have gb3:=k13.at g1 fun hj=>WD (hO b hj)
     refine out H3 x.data 0 s (u0 cs a++[x.pl]) Oc (k13.mono fun j _ hj=>.inr (hO j hj)) (fun j hj=>.inl hj) (PN.kp k13 fun j hj h=>hBO j h hj) ⟨⟨_,mp,EV,?_,fun j hj=>hO j (mK j hj)⟩,fun j hj=>by rw[s3,s2];exact kc j hj⟩ ⟨_,gb3,zw⟩ kx.isB ?_
     · rw[cU,<- nX,<- T5,B7 fun y hy=>by rw[T5];exact Oi y hy];rfl
     · unfold Zk
       rw[aH (by rw[hw];exact fun h=>h rfl),<- nX,Yg,EP]
       rfl
   | none=>
     simp only[uR,Fx,u9,ux,jO,za,zq,fR,dU,gH,zh]
     refine QS hC lH (fun hn=>?_) (fun H7 sq s7 k7 Uh hrm mK=>?_)
     · simp only[zx,za,jN,zA,yP]
       refine out H1 zB 160 s cs Oc (Kp.refl _ _) (fun j hj=>.inl hj) PN ⟨⟨row,mp,hC,nX,hO⟩,kc⟩ ⟨_,g1,zw⟩ z6 ?_
       unfold Zk
       rw[aH (by rw[hw];exact fun h=>h rfl),<- nX,Yg,EP,uR,hn]
     · have hBs:∀ j,BB cb mp sq j->BB cb mp row j:=fun j hj=>by
         rcases hj with h1 | h1 | h1
         · exact .inl h1
         · exact .inr (.inl h1)
         · obtain⟨y,hy,rfl⟩:=iT.1 h1
           exact .inr (.inr (iT.2 ⟨y,mK y hy,rfl⟩))
       simp only[zx,za,iW,zh,Uh.d]
       have PM:jQ H7 p s Od:=PN.kp k7 fun j hj h=>hBO j h hj
       obtain⟨KJ,wF⟩:=DS.Vx hw
       refine Ac PM hr fun H9 L5 hd9=>?_
       rw[KJ,wF]
       have DY:=PM.Kh a
       simp only[zq,fR,dU,gH,za,ZI]
       refine Z9 fun Xu mX aqs sA Vr SK=>?_
       simp only[zI]at SK
       refine Zc SK zw DY.size DY.ok fun mN PJ Dy SJ=>?_
       have W2:Ext H9 mN:=(sA.kp (·=Xu)).trans PJ |>.ext fun k hk e=>by omega
       simp only[zn,za,show decide ((0:Int)≠0)=false from rfl,zh,zV SJ DY.size,Tx DY]
       have KN:BA mN cb p size sq mp:=Uh.of fun j hj=>by
         rw[W2.same j (jj (Uh.lt j hj) L5.kp.le),L5.kp.same j (Uh.lt j hj) (hBO j (hBs j hj))]
       have WA:=hd9.ext W2
       refine Z9 fun Pr sD adj se s13 WK=>?_
       simp only[zI]at WK
       have acP:lR sD cb 1031=some (.map (some mp)):=by
         rw[ym (se.same cb (KN.lt cb (.inl rfl)))];exact KN.has
       simp only[acP,za]
       refine YU (KN.map.ext se) fun By k14 s14 m14=>?_
       have acY:Z1 sq a=none:=xA fun hm=>by
         obtain⟨y,hy,he⟩:=iT.1 hm
         exact xW EP (iT.2 ⟨y,mK y hy,he⟩)
       have hof:TW By cb p size sq ⟨Pr,a,s.now a,false⟩ mp:=HT (x:=⟨Pr,a,s.now a,false⟩) KN se (Nat.le_of_eq adj) WK (V4 a DY Pr) rfl acY k14 s14 m14
       refine Ky hof fun DH s15 k15 alf=>?_
       have l1:=L5.kp.le
       have l2:=W2.le
       have l3:=se.le
       have WI:∀ j,BB cb mp (sq++[⟨Pr,a,s.now a,false⟩]) j->BB cb mp sq j\/j=Pr:=fun j hj=>by
         rcases hj with h1 | h1 | h1
         · exact .inl (.inl h1)
         · exact .inl (.inr (.inl h1))
         · rw[cU,fH]at h1
           rcases h1 with h1 | h1
           · exact .inl (.inr (.inr h1))
           · exact .inr (by simpa using h1)
       have hmO:Oc mp:=hO mp (.inr (.inl rfl))
       have kk:Kp (fun b=>Od b\/Oc b) H1 DH:=by
         refine⟨by omega,fun j hj hn=>?_⟩
         have akQ:j<mN.size:=by omega
         have q1:¬ BB cb mp sq j:=fun h=>hn (.inr (hO j (hBs j h)))
         rw[k15.same j (by omega) (fun h=>by
           rcases WI j h with h1 | h1
           · exact q1 h1
           · omega),k14.same j (by omega) (fun e=>hn (.inr (e ▸ hmO))),se.same j akQ,W2.same j (by omega),L5.kp.same j (by omega) (fun h=>hn (.inl h)),k7.same j hj fun h=>hn (.inr (hO j h))]
       have gb:∃ c0,DH[b]?=some (.cells c0 65)/\c0.size=1024:=⟨_,kk.at g1 (fun h=>by rcases h with h | h;exact Um h;exact WD h),zw⟩
       have aag:∀ j,BB cb mp sq j->j≠Xu:=fun j hj e=>by have:=Uh.lt j hj;omega
       have am7:Pr≠Xu:=by omega
       have D9:DH[Xu]?=some (.cells (s.now a) 65):=by
         rw[k15.same Xu (by omega) (fun h=>by
           rcases WI Xu h with h1 | h1
           · exact aag Xu h1 rfl
           · omega),k14.same Xu (by omega) (fun e=>aag mp (.inr (.inl rfl)) e.symm),se.same Xu (by omega)]
         exact SJ
       simp only[zV D9 DY.size,za]
       have ak9:jQ DH p (s.read a).1 Od:=by
         refine WA.of (fun j hj=>?_) (by omega)
         have DC:=WA.lt j hj
         rw[k15.same j (by omega) (fun h=>by
           rcases WI j h with h1 | h1
           · exact hBO j (hBs j h1) hj
           · omega),k14.same j (by omega) (fun e=>hBO mp (.inr (.inl rfl)) (e ▸ hj)),se.same j DC]
       refine out DH (s.now a) 0 (s.read a).1 (sq.map Ln.pl++[⟨a,s.now a,false⟩]) (fun j=>Oc j\/j=Pr) kk (fun j hj=>?_) ak9 ⟨⟨_,mp,alf,by rw[cU];rfl,fun j hj=>?_⟩,fun j hj=>?_⟩ gb DY ?_
       · rcases hj with h1 | h1
         · exact .inl h1
         · exact .inr (by omega)
       · rcases WI j hj with h1 | h1
         · exact .inl (hO j (hBs j h1))
         · exact .inr h1
       · rcases hj with h1 | h1
         · have:=kc j h1;omega
         · omega
       · unfold Zk
         rw[aH (by rw[hw];exact fun h=>h rfl),<- nX,Yg,EP,uR,hrm]
end
theorem CU{l1 l2:List Ln}{x x':Ln}(hb:x'.b=x.b)(ha:x'.at_=x.at_)(k:Int):(Z1 (l1++x' :: l2) k).map (fun x=>zD x.b)=(Z1 (l1++x :: l2) k).map (fun x=>zD x.b):=by
 unfold Z1;rw[jH,jH,List.find?_cons,List.find?_cons,ha];cases l1.find? (fun y=>y.at_ == k) with
 | some y=>rfl
 | none=>
  by_cases hk:(x.at_ == k)=true
  ·simp only[hk];simp[hb]
  ·have:(x.at_ == k)=false:=by simpa using hk
   simp only[this]
theorem pW{α:Type}{f:Ln->α}{l1 l2:List Ln}{x x':Ln}(h:f x'=f x):(l1++x' :: l2).map f=(l1++x :: l2).map f:=by
 rw[cU,jb,cU,jb,h]
theorem TW.uU{H H':Hp}{cb p mp:Nat}{size:Int}{row:List Ln}{x x':Ln}(h:TW H cb p size row x mp)(hb:x'.b=x.b)(ha:x'.at_=x.at_)(hk:∀ b,b≠cb->b≠x.b->H'[b]?=H[b]?)(hl:Ee H' x')(hs:Sh H' cb 1032 174)
   (hc:∀ o,o≠2->lR H' cb o=lR H cb o) (hf:lR H' cb 2=some (.int .i64 (kZ (row++[x'])))):TW H' cb p size row x' mp:=by
 have hcr:cb ∉ row.map (·.b):=(jo.1 h.ring.Dz).1
 have Sx:∀ z:Nd,(z=(cb,3)\/z∈nF row)->(GR H' z=GR H z/\JH H' z=JH H z):=fun z hz=>by
   rcases hz with rfl | hz
   · exact⟨hc _ (by simp),hc _ (by simp)⟩
   · have hm:=(ZL.1 hz).2
     have e:=hk z.1 (fun e=>hcr (e ▸ hm)) (fun e=>h.xn.2.1 (e ▸ hm))
     exact⟨ym e,ym e⟩
 refine⟨⟨hs,fun z hz=>?_,h.ring.XP.of (fun z hz=>?_) (fun z hz=>?_),h.ring.Dz⟩,hl,?_,by rw[hc 0 (by omega)];exact h.d,by rw[hc 1 (by omega)];exact h.sz,hf,by rw[hc 1031 (by omega)];exact h.has,?_,h.AP,?_⟩
 · obtain⟨c,g1,g2⟩:=h.ring.MI z hz
   have hm:z.b∈row.map (·.b):=iT.2 ⟨z,hz,rfl⟩
   exact⟨c,by rw[hk z.b (fun e=>hcr (e ▸ hm)) (fun e=>h.xn.2.1 (e ▸ hm))];exact g1,g2⟩
 · have CA:z∈nF row\/z=(cb,3):=by simpa using hz
   exact(Sx z CA.symm).2
 · have RZ:=rW _ hz
   refine(Sx z ?_).1
   rcases jg.1 RZ with h1 | h1
   · exact .inl h1
   · have:z∈nF row\/z=(cb,3):=by simpa using h1
     exact this.symm
 · rw[hb];exact h.xn
 · have hm:=h.map.of (H':=H') (hk mp h.AP.1 h.xn.2.2)
   exact hm.congr fun k=>CU hb ha k
 · rw[pW (f:=(·.at_)) ha];exact h.F2
def uQ(size:Int)(cs:List Pl)(a:Int):Option (List Pl):=
 match Zl cs a with
 | some _=>some (u0 cs a)
 | none=>oH size cs
theorem Pq{size:Int}{cs c1:List Pl}{a:Int}(h:uQ size cs a=some c1):c1.length<=cs.length:=by
 unfold uQ at h;split at h
 ·injection h with h;subst h;exact List.length_eraseP_le
 ·unfold oH at h;split at h
  ·cases h
  ·split at h
   ·injection h with h;subst h;exact iU _
   ·injection h with h;subst h;exact List.length_eraseP_le
def pa(size:Int)(s:DS)(cs:List Pl)(a:Int)(b:jn):List Pl × Int:=
 if s.ly a≠0 then(cs,s.ly a) else
  match uQ size cs a with
  | none=>(cs,160)
  | some c1=>(c1++[⟨a,b,true⟩],0)
theorem PB.Me{c:Array Value}{x:Ln}(h:PB c x)(v:Bool):PB (c.setIfInBounds 1025 (.bool v)) { x with j7:=v }:=by
 obtain⟨h1,h2,h3,h4,h5⟩:=h;refine⟨by simpa using h1,?_,?_,?_,h5⟩
 ·rw[iY,aH (by omega)];exact h2
 ·rw[sc (o:=1) (n:=1024) (.inr (by omega))];exact h3
 ·rw[iY,aU rfl,aU (by rw[h1];omega)]
theorem PB.Vl{c:Array Value}{x:Ln}(h:PB c x){d:jn}(hd:jR d):PB (zL c 1 d) { x with data:=d }:=by
 obtain⟨h1,h2,h3,h4,h5⟩:=h;have hs:1+d.size<=c.size:=by rw[hd.size,h1];omega
 refine⟨by rw[zO hs,h1],?_,yC (n:=1024) (by omega) hd.size,?_,hd⟩
 ·rw[zH hs,aU (by omega)];exact h2
 ·rw[zH hs,aH (by omega),aH (by rw[hd.size];omega)];exact h4
section
variable{H:Hp}{cb p:Nat}{size:Int}{cs:List Pl}{s:DS}{Od Oc:Nat->Prop}{R:Value->Hp->Prop}
theorem OZ(hd:jQ H p s Od)(hc:kJ H cb p size cs Oc)(dis:∀ b,Od b->¬ Oc b)(lH:size<=4611686018427387904)(lI:(cs.length:Int)<4611686018427387904){a:Int}{d:jn}(hB:jR d)
   (k:∀ H' A0,Kp Oc H H'->(∀ b,A0 b->Oc b\/H.size<=b)->jQ H' p s Od->kJ H' cb p size (pa size s cs a d).1 A0 ->
     R (.int .i64 (pa size s cs a d).2) H') :
   Fc TP 100 #[zD cb,.int .i64 a,.agg d] H R:=by
 refine fn100 ?_
 simp only[sh100,Ul,UL,UA,Us,Ub,Ux,UI,Uf,Uu,Uj,Uv,U1,zm]
 refine Z9 fun b H1 hb e1 s1 g1=>?_
 simp only[zI]at g1
 have PN:=hd.ext e1
 have hc1:=hc.ext e1
 have WD:¬ Oc b:=fun ho=>by have:=hc.lt b ho;omega
 have out:∀ (H2:Hp) (e:Int) (ke:List Pl) (A0:Nat->Prop),Kp Oc H1 H2->(∀ b,A0 b->Oc b\/H1.size<=b)->kJ H2 cb p size ke A0->pa size s cs a d=(ke,e)->R (.int .i64 e) H2:=by
   intro H2 e ke A0 hk hn Gm heq
   have:=k H2 A0 ⟨kg e1.le hk.le,fun j hj hn=>by rw[hk.same j (jj hj e1.le) hn,e1.same j hj]⟩ (fun j hj=>by
     rcases hn j hj with h1 | h1
     · exact .inl h1
     · exact .inr (by omega)) (PN.kp hk fun j hj h=>dis j hj h)
   rw[heq]at this
   exact this Gm
 obtain⟨⟨row,mp,hC,nX,hO⟩,kc⟩:=hc1
 refine tz PN hC ?_
 simp only[zn,za,zb]
 refine⟨fun hw=>?_,fun hw=>?_⟩
 · exact out H1 (s.ly a) cs Oc (Kp.refl _ _) (fun j hj=>.inl hj) ⟨⟨row,mp,hC,nX,hO⟩,kc⟩ (by unfold pa;rw[aU hw])
 · have hw:s.ly a=0:=jh.1 hw
   simp only[zl,za,zc,aR,yy,hC.has]
   rw[YT hC.map]
   have lk:∃ v w,EC true (ZZ TP 168) ((Z1 row a).map fun x=>zD x.b)=some (.tuple #[v,.bool w])/\(∀ x,Z1 row a=some x->v=zD x.b/\w=true)/\(Z1 row a=none->w=false):=by
     cases EP:Z1 row a with
     | some x=>exact⟨_,_,rfl,fun y hy=>by injection hy with hy;subst hy;exact⟨rfl,rfl⟩,fun h=>by cases h⟩
     | none=>rw[Fx];exact⟨_,_,rfl,(fun y hy=>by cases hy),fun _=>rfl⟩
   obtain⟨v,w,T9,hv1,R1⟩:=lk
   rw[T9]
   simp only[za,zq,fR,dU,gH]
   refine Zg.mk (fun t H3=>∃ so x,t.1=zD x.b/\x.at_=a/\TW H3 cb p size so x mp/\uQ size cs a=some (so.map Ln.pl)/\Kp Oc H1 H3/\(∀ j,BB cb mp (so++[x]) j->(Oc j\/H1.size<=j)/\j<H3.size)/\(H1.size<=H3.size)) ?_ ?_
   · rintro⟨t,u⟩ H3 ⟨so,x,ht,T5,ho,MX,k3,hO3,hl3⟩
     simp only at ht
     subst ht
     obtain⟨cx,gx,kx⟩:=ho.lk
     have Ss:lR H3 x.b 1025=some (.bool x.j7):=by rw[tx gx];exact kx.j7
     have hcb:cb ∉ so.map (·.b):=(jo.1 ho.ring.Dz).1
     obtain⟨ct,gt,st⟩:=ho.ring.top
     have hxO:∀ j,(j=cb\/j=x.b)->Oc j\/H1.size<=j:=fun j hj=>by
       rcases hj with rfl | rfl
       · exact(hO3 _ (.inl rfl)).1
       · exact(hO3 _ (.inr (.inr (by simp)))).1
     refine Zg.mk (fun _ H4=>TW H4 cb p size so { x with j7:=true } mp/\Kp Oc H1 H4/\H4.size=H3.size) ?_ ?_
     · rintro _ H4 ⟨X5,k4,s4⟩
       have gb4:=k4.at g1 WD
       simp only[zV gb4 hB.size,za,zl,zc,aR]
       obtain⟨c4,gx4,kx4⟩:=X5.lk
       refine uW gx4 (by have:=kx4.size;omega) hB.size hB.ok fun H5 k5 s5 g5=>?_
       have mc:∀ j,j≠x.b->H5[j]?=H4[j]?:=fun j hj=>k5.all s5 hj
       have ho5:TW H5 cb p size so ⟨x.b,x.at_,d,true⟩ mp:=by
         refine X5.uU (x':=⟨x.b,x.at_,d,true⟩) rfl rfl (fun j _ hj=>mc j hj) ⟨_,g5,kx4.Vl hB⟩ ?_ (fun o _=>ym (mc cb (fun e=>ho.xn.1 e.symm))) ?_
         · obtain⟨c,q1,q2⟩:=X5.ring.top
           exact⟨c,by rw[mc cb (fun e=>ho.xn.1 e.symm)];exact q1,q2⟩
         · rw[ym (mc cb (fun e=>ho.xn.1 e.symm)),X5.j7]
           simp only[Yi,yY]
       refine Ky (x:=⟨x.b,x.at_,d,true⟩) ho5 fun H6 s6 k6 hc6=>?_
       have sa:∀ j,BB cb mp (so++[⟨x.b,x.at_,d,true⟩]) j->BB cb mp (so++[x]) j:=fun j hj=>by
         rcases hj with h1 | h1 | h1
         · exact .inl h1
         · exact .inr (.inl h1)
         · exact .inr (.inr (by rw[cU]at h1 ⊢;exact h1))
       refine out H6 0 (so.map Ln.pl++[⟨a,d,true⟩]) (fun j=>Oc j\/BB cb mp (so++[x]) j) ⟨by have:=k4.le;omega,fun j hj hn=>?_⟩ (fun j hj=>?_) ⟨⟨_,mp,hc6,?_,fun j hj=>.inr (sa j hj)⟩,fun j hj=>?_⟩ ?_
       · have hjx:j≠x.b:=fun e=>by
           rcases hxO j (.inr e) with h1 | h1
           · exact hn h1
           · omega
         rw[k6.same j (by have:=k4.le;omega) (fun h=>by
           rcases(hO3 j (sa j h)).1 with h1 | h1
           · exact hn h1
           · omega),mc j hjx,k4.same j hj hn]
       · rcases hj with h1 | h1
         · exact .inl h1
         · exact(hO3 j h1).1
       · rw[cU,<- T5];rfl
       · rcases hj with h1 | h1
         · have:=kc j h1;omega
         · have:=(hO3 j h1).2;omega
       · unfold pa
         rw[aH (by rw[hw];exact fun h=>h rfl),MX]
     · simp only[zl,za,zc,aR,yy,Ss,zx,Zm]
       refine⟨fun hf=>?_,fun hf=>?_⟩
       · refine qx (n:=0) gx (by rw[kx.size];omega) rfl rfl fun H4 q4 g4=>?_
         have D7:cb≠x.b:=fun e=>ho.xn.1 e.symm
         have Wy:lR H4 cb 2=some (.int .i64 (kZ (so++[x]))):=by rw[q4.lR,aH (fun e=>D7 e.1)];exact ho.j7
         have uK:kZ (so++[x])=kZ so:=by
           rw[Yi,yY,hf]
           have:kZ []=0:=rfl
           rw[this];simp
         have hft:kZ (so++[{ x with j7:=true }])=kZ so+1:=by
           rw[Yi,yY]
           have:kZ []=0:=rfl
           rw[this];simp
         have hfb:=CW so
         have hlen:(so.length:Int)<4611686018427387904:=by
           have:=Pq MX
           rw[bR]at this;omega
         simp only[zl,za,zc,aR,yy,Wy,ze,uK]
         rw[zd (by omega) (by omega)]
         have gt4:H4[cb]?=some (.cells ct 174):=by rw[q4.kC cb D7];exact gt
         refine qx (n:=0) gt4 (by omega) rfl rfl fun H5 q5 g5=>?_
         refine⟨ho.uU (x':={ x with j7:=true }) rfl rfl (fun j h1 h2=>by rw[q5.kC j h1,q4.kC j h2]) ⟨_,by rw[q5.kC x.b (fun e=>D7 e.symm)];exact g4,kx.Me true⟩ ⟨_,g5,by simpa using st⟩ (fun o ho=>?_) ?_,⟨by rw[q5.size,q4.size];exact k3.le,fun j hj hn=>?_⟩,by rw[q5.size,q4.size]⟩
         · rw[q5.lR,aH (by omega),q4.lR,aH (fun e=>D7 e.1)]
         · rw[q5.lR,aU ⟨rfl,rfl⟩,hft]
         · have h1:j≠cb:=fun e=>by
             rcases hxO j (.inl e) with h | h
             · exact hn h
             · omega
           have h2:j≠x.b:=fun e=>by
             rcases hxO j (.inr e) with h | h
             · exact hn h
             · omega
           rw[q5.kC j h1,q4.kC j h2,k3.same j hj hn]
       · have:({ x with j7:=true }:Ln)=x:=by
           obtain⟨x1,x2,x3,x4⟩:=x
           simp only at hf
           subst hf;rfl
         rw[this]
         exact⟨ho,k3,trivial⟩
   · cases EP:Z1 row a with
     | some x=>
       obtain⟨l1,l2,kE,T5,Oi⟩:=tc EP
       obtain⟨rfl,rfl⟩:=hv1 x EP
       simp only[zA]
       subst kE
       refine MM hC fun H2 s2 k2 ho2=>?_
       have mK:∀ j,BB cb mp (l1++l2++[x]) j->BB cb mp (l1++x :: l2) j:=fun j hj=>by
         rcases hj with h1 | h1 | h1
         · exact .inl h1
         · exact .inr (.inl h1)
         · refine .inr (.inr ?_)
           simp only[cU,jb,sF,fH,jg,List.not_mem_nil,or_false]at h1 ⊢
           rcases h1 with (h1 | h1) | h1
           · exact .inl h1
           · exact .inr (.inr h1)
           · exact .inr (.inl h1)
       refine⟨l1++l2,x,rfl,T5,ho2,?_,k2.mono fun j _ hj=>hO j hj,fun j hj=>⟨.inl (hO j (mK j hj)),by rw[s2];exact kc j (hO j (mK j hj))⟩,Nat.le_of_eq s2.symm⟩
       unfold uQ
       rw[<- nX,Yg,EP,iR,<- T5,B7 fun y hy=>by rw[T5];exact Oi y hy]
     | none=>
       have:=R1 EP
       subst this
       simp only[zh]
       refine QS hC lH (fun hn=>?_) (fun H7 sq s7 k7 Uh hrm mK=>?_)
       · simp only[zx,za,jN,zA]
         refine out H1 160 cs Oc (Kp.refl _ _) (fun j hj=>.inl hj) ⟨⟨row,mp,hC,nX,hO⟩,kc⟩ ?_
         unfold pa uQ
         rw[aH (by rw[hw];exact fun h=>h rfl),<- nX,Yg,EP,uR,hn]
       · have hBs:∀ j,BB cb mp sq j->BB cb mp row j:=fun j hj=>by
           rcases hj with h1 | h1 | h1
           · exact .inl h1
           · exact .inr (.inl h1)
           · obtain⟨y,hy,rfl⟩:=iT.1 h1
             exact .inr (.inr (iT.2 ⟨y,mK y hy,rfl⟩))
         simp only[zx,za,iW,zh,Pb]
         refine Z9 fun Pr sD adj se s13 WK=>?_
         simp only[zI]at WK
         have acP:lR sD cb 1031=some (.map (some mp)):=by
           rw[ym (se.same cb (Uh.lt cb (.inl rfl)))];exact Uh.has
         simp only[acP,za]
         refine YU (Uh.map.ext se) fun By k14 s14 m14=>?_
         have acY:Z1 sq a=none:=xA fun hm=>by
           obtain⟨y,hy,he⟩:=iT.1 hm
           exact xW EP (iT.2 ⟨y,mK y hy,he⟩)
         have hof:TW By cb p size sq ⟨Pr,a,zB,false⟩ mp:=HT (x:=⟨Pr,a,zB,false⟩) Uh se (Nat.le_of_eq adj) WK (RC a Pr) rfl acY k14 s14 m14
         have hmO:Oc mp:=hO mp (.inr (.inl rfl))
         refine⟨sq,⟨Pr,a,zB,false⟩,rfl,rfl,hof,?_,⟨by have:=se.le;omega,fun j hj hn=>?_⟩,fun j hj=>?_,by have:=se.le;omega⟩
         · unfold uQ
           rw[<- nX,Yg,EP,uR];exact hrm
         · rw[k14.same j (by have:=se.le;omega) (fun e=>hn (e ▸ hmO)),se.same j (by omega),k7.same j hj fun h=>hn (hO j h)]
         · rcases hj with h1 | h1 | h1
           · exact⟨.inl (hO j (.inl h1)),by have:=kc j (hO j (.inl h1));have:=se.le;omega⟩
           · exact⟨.inl (hO j (.inr (.inl h1))),by have:=kc j (hO j (.inr (.inl h1)));have:=se.le;omega⟩
           · rw[cU,fH]at h1
             rcases h1 with h1 | h1
             · have h2:=hO j (hBs j (.inr (.inr h1)))
               exact⟨.inl h2,by have:=kc j h2;have:=se.le;omega⟩
             · have:j=Pr:=by simpa using h1
               exact⟨.inr (by omega),by omega⟩
end
theorem BA.uU{H H':Hp}{cb p mp:Nat}{size:Int}{l1 l2:List Ln}{x x':Ln}(h:BA H cb p size (l1++x :: l2) mp)(hb:x'.b=x.b)(ha:x'.at_=x.at_)(hk:∀ b,b≠cb->b≠x.b->H'[b]?=H[b]?)(hl:Ee H' x')(hn:∀ o,1026<=o->lR H' x.b o=lR H x.b o)(hs:Sh H' cb 1032 174)
   (hc:∀ o,o≠2->lR H' cb o=lR H cb o) (hf:lR H' cb 2=some (.int .i64 (kZ (l1++x' :: l2)))):BA H' cb p size (l1++x' :: l2) mp:=by
 have kG:=tS h.ring.Dz
 have hcr:cb ∉ (l1++x :: l2).map (·.b):=(jo.1 h.ring.Dz).1
 have lj:nF (l1++x' :: l2)=nF (l1++x :: l2):=pW (f:=(·.nd)) (by show(x'.b,0)=(x.b,0);rw[hb])
 have Sx:∀ z:Nd,(z=(cb,3)\/z∈nF (l1++x :: l2))->(GR H' z=GR H z/\JH H' z=JH H z):=fun z hz=>by
   rcases hz with rfl | hz
   · exact⟨hc _ (by simp),hc _ (by simp)⟩
   · obtain⟨h0,hm⟩:=ZL.1 hz
     by_cases hx:z.1=x.b
     · unfold GR JH;rw[hx];exact⟨hn _ (by omega),hn _ (by omega)⟩
     · have e:=hk z.1 (fun e=>hcr (e ▸ hm)) hx
       exact⟨ym e,ym e⟩
 refine⟨⟨hs,fun z hz=>?_,?_,?_⟩,by rw[hc 0 (by omega)];exact h.d,by rw[hc 1 (by omega)];exact h.sz,hf,by rw[hc 1031 (by omega)];exact h.has,?_,?_,?_⟩
 · have KE:z=x'\/z∈l1\/z∈l2:=by
     rcases fH.1 hz with h1 | h1
     · exact .inr (.inl h1)
     · rcases jg.1 h1 with h2 | h2
       · exact .inl h2
       · exact .inr (.inr h2)
   rcases KE with rfl | h1
   · exact hl
   · have hm:z∈l1++x :: l2:=by
       rcases h1 with h1 | h1
       · exact jI _ h1
       · exact km _ (dH _ h1)
     have hzx:z.b≠x.b:=fun e=>by
       rcases h1 with h1 | h1
       · exact kG.1 (e ▸ iT.2 ⟨z,h1,rfl⟩)
       · exact kG.2.1 (e ▸ iT.2 ⟨z,h1,rfl⟩)
     obtain⟨c,g1,g2⟩:=h.ring.MI z hm
     exact⟨c,by rw[hk z.b (fun e=>hcr (e ▸ iT.2 ⟨z,hm,rfl⟩)) hzx];exact g1,g2⟩
 · rw[lj]
   refine h.ring.XP.of (fun z hz=>?_) (fun z hz=>?_)
   · have CA:z∈nF (l1++x :: l2)\/z=(cb,3):=by simpa using hz
     exact(Sx z CA.symm).2
   · have RZ:=rW _ hz
     refine(Sx z ?_).1
     rcases jg.1 RZ with h1 | h1
     · exact .inl h1
     · have:z∈nF (l1++x :: l2)\/z=(cb,3):=by simpa using h1
       exact this.symm
 · rw[pW (f:=(·.b)) hb];exact h.ring.Dz
 · have hm:=h.map.of (H':=H') (hk mp h.AP.1 fun e=>h.AP.2 (e ▸ by simp))
   rw[show(l1++x' :: l2).length=(l1++x :: l2).length by simp]
   exact hm.congr fun k=>CU hb ha k
 · rw[pW (f:=(·.b)) hb];exact h.AP
 · rw[pW (f:=(·.at_)) ha];exact h.F2
def qV(cs:List Pl)(a:Int):List Pl:=cs.map fun y=>if y.at_=a then { y with j7:=false } else y
def Zw(s:DS)(cs:List Pl)(a:Int):DS × List Pl × Int:=
 if s.ly a≠0 then(s,cs,s.ly a) else
  match Zl cs a with
  | none=>(s,cs,0)
  | some x=>if x.j7=false then(s,cs,0) else
   if (s.write a x.data).2≠0 then((s.write a x.data).1,cs,(s.write a x.data).2) else((s.write a x.data).1,qV cs a,0)
theorem Lq{l1 l2:List Ln}{x:Ln}(h:((l1++x :: l2).map (·.at_)).Nodup):qV ((l1++x :: l2).map Ln.pl) x.at_=(l1++{ x with j7:=false } :: l2).map Ln.pl:=by
 unfold qV;rw[cU,jb,jJ,jo]at h;obtain⟨_,⟨h2,_⟩,h3⟩:=h;have key:∀ l:List Ln,(∀ y∈l,y.at_≠x.at_)->(l.map Ln.pl).map (fun y=>if y.at_=x.at_ then { y with j7:=false } else y)=l.map Ln.pl:=by
  intro l hl;rw[ad8];apply List.map_congr_left;intro y hy;show(if y.pl.at_=x.at_ then _ else y.pl)=y.pl;rw[aH (show ¬ y.pl.at_=x.at_ from hl y hy)]
 rw[cU,jb,cU,jb,cU,jb];rw[key l1 fun y hy e=>h3 y.at_ (iT.2 ⟨y,hy,rfl⟩) x.at_ eH e,key l2 fun y hy e=>h2 (e ▸ iT.2 ⟨y,hy,rfl⟩)];congr 2;show(if x.pl.at_=x.at_ then _ else _)=_;rw[aU (show x.pl.at_=x.at_ from rfl)];rfl
theorem IQ{s:DS}{cs:List Pl}{a:Int}{y:Pl}(hw:s.ly a=0)(hy:Zl cs a=some y)(hf:y.j7=false):Zw s cs a=(s,cs,0):=by
 unfold Zw;rw[aH (by rw[hw];exact fun h=>h rfl),hy];simp only;rw[aU hf]
theorem IP{s:DS}{cs:List Pl}{a:Int}(hw:s.ly a=0)(hy:Zl cs a=none):Zw s cs a=(s,cs,0):=by
 unfold Zw;rw[aH (by rw[hw];exact fun h=>h rfl),hy]
theorem CT{s:DS}{cs:List Pl}{a:Int}{y:Pl}(hw:s.ly a=0)(hy:Zl cs a=some y)(hf:y.j7=true)(he:(s.write a y.data).2≠0):Zw s cs a=((s.write a y.data).1,cs,(s.write a y.data).2):=by
 unfold Zw;rw[aH (by rw[hw];exact fun h=>h rfl),hy];simp only;rw[aH (by rw[hf];decide),aU he]
theorem AF{s:DS}{cs:List Pl}{a:Int}{y:Pl}(hw:s.ly a=0)(hy:Zl cs a=some y)(hf:y.j7=true)(he:(s.write a y.data).2=0):Zw s cs a=((s.write a y.data).1,qV cs a,0):=by
 unfold Zw;rw[aH (by rw[hw];exact fun h=>h rfl),hy];simp only;rw[aH (by rw[hf];decide),aH (by rw[he];exact fun h=>h rfl)]
section
variable{H:Hp}{cb p:Nat}{size:Int}{cs:List Pl}{s:DS}{Od Oc:Nat->Prop}{R:Value->Hp->Prop}
theorem Jq(hd:jQ H p s Od)(hc:kJ H cb p size cs Oc)(dis:∀ b,Od b->¬ Oc b){kf:Nat}(hft:s.fit kf)(Sc:kf<100000000000)(lI:(cs.length:Int)<4611686018427387904){a:Int}
   (k:∀ H' JB,Kp (fun b=>Od b\/Oc b) H H'->(∀ b,JB b->Od b\/H.size<=b)->jQ H' p (Zw s cs a).1 JB->kJ H' cb p size (Zw s cs a).2.1 Oc ->
     R (.int .i64 (Zw s cs a).2.2) H') :
   Fc TP 97 #[zD cb,.int .i64 a] H R:=by
 have GV:=hc
 obtain⟨⟨row,mp,hC,nX,hO⟩,kc⟩:=hc
 refine fn97 ?_
 simp only[sh97,Ul,UL,UA,Us,Ub,Ux,UI,Uf,Uu,Uj,Uv,U1,U0,zm]
 refine tz hd hC ?_
 simp only[zn,za,zb]
 have stay:∀ e,Zw s cs a=(s,cs,e)->R (.int .i64 e) H:=fun e he=>by
   have:=k H Od (Kp.refl _ _) (fun j hj=>.inl hj)
   rw[he]at this
   exact this hd GV
 refine⟨fun hw=>stay _ (by unfold Zw;rw[aU hw]),fun hw=>?_⟩
 have hw:s.ly a=0:=jh.1 hw
 simp only[zl,za,zc,aR,yy,hC.has]
 rw[YT hC.map]
 cases EP:Z1 row a with
 | none=>
   simp only[uR,Fx,u9,ux,jO,za,zq,fR,dU,gH]
   refine Zg.mk (fun t H'=>H'=H/\t.1=.bool true) ?_ ?_
   · rintro⟨t,u⟩ H1 ⟨rfl,ht⟩
     simp only at ht
     subst ht
     simp only[zA]
     exact stay 0 (IP hw (by rw[<- nX,Yg,EP];rfl))
   · simp only[zx,za,jN,zA]
     exact⟨trivial,trivial⟩
 | some x=>
   obtain⟨l1,l2,kE,T5,Oi⟩:=tc EP
   subst kE
   obtain⟨cx,gx,kx⟩:=hC.ring.MI x (by simp)
   have Ss:lR H x.b 1025=some (.bool x.j7):=by rw[tx gx];exact kx.j7
   simp only[iR,u7,ux,jO,za,zq,fR,dU,gH]
   have Si:Zl cs a=some x.pl:=by rw[<- nX,Yg,EP];rfl
   refine Zg.mk (fun t H'=>H'=H/\t.1=.bool (!x.j7)) ?_ ?_
   · rintro⟨t,u⟩ H1 ⟨rfl,ht⟩
     simp only at ht
     subst ht
     simp only[Zm]
     refine⟨fun hf=>stay 0 (IQ hw Si hf),fun hf=>?_⟩
     have ac8:zX (some (some 1024)) (.pointer (some ⟨x.b,1,none⟩)) H1=some (.agg x.data):=by
       rw[Za gx (by rw[kx.size];omega)];rw[show(1+1024:Nat)=1025 from rfl,kx.data]
     simp only[hC.d,zl,za,zc,aR,ac8]
     refine Db hd hft Sc kx.isB fun H3 JB mJ qN=>?_
     have hC3:BA H3 cb p size (l1++x :: l2) mp:=hC.of fun j hj=>mJ.kp.same j (hC.lt j hj) fun h=>dis j h (hO j hj)
     have ahc:∀ j,JB j->¬ Oc j:=fun j hj ho=>by
       rcases mJ.new j hj with h1 | h1
       · exact dis j h1 ho
       · have:=kc j ho;omega
     simp only[zn,za,zb]
     refine⟨fun jZ=>?_,fun heq=>?_⟩
     · have:=k H3 JB (mJ.kp.mono fun j _ h=>.inl h) mJ.new
       have he:Zw s cs a=((s.write a x.data).1,cs,(s.write a x.data).2):=CT hw Si hf jZ
       rw[he]at this
       exact this qN ⟨⟨_,mp,hC3,nX,hO⟩,fun j hj=>jj (kc j hj) mJ.kp.le⟩
     · have heq:=jh.1 heq
       obtain⟨cx3,gx3,kx3⟩:=hC3.ring.MI x (by simp)
       have kG:=tS hC3.ring.Dz
       have D7:cb≠x.b:=fun e=>kG.2.2 e.symm
       refine qx (n:=0) gx3 (by rw[kx3.size];omega) rfl rfl fun H4 q4 g4=>?_
       have Wy:lR H4 cb 2=some (.int .i64 (kZ (l1++x :: l2))):=by rw[q4.lR,aH (fun e=>D7 e.1)];exact hC3.j7
       have uK:kZ (l1++x :: l2)=kZ (l1++{ x with j7:=false } :: l2)+1:=by
         simp only[Yi,yY,hf];simp;omega
       have hfb:=CW (l1++x :: l2)
       have aqd:=CW (l1++{ x with j7:=false } :: l2)
       have hlen:((l1++x :: l2).length:Int)<4611686018427387904:=by
         have:=congrArg List.length nX
         rw[bR]at this
         rw[this];exact lI
       simp only[Wy,za,zP,uK]
       rw[zd (by omega) (by omega),show kZ (l1++{ x with j7:=false } :: l2)+1 - 1=kZ (l1++{ x with j7:=false } :: l2) by omega]
       obtain⟨ct,gt,st⟩:=hC3.ring.top
       have gt4:H4[cb]?=some (.cells ct 174):=by rw[q4.kC cb D7];exact gt
       refine qx (n:=0) gt4 (by omega) rfl rfl fun H5 q5 g5=>?_
       have hxO:Oc x.b:=hO x.b (.inr (.inr (by simp)))
       have hcO:Oc cb:=hO cb (.inl rfl)
       have k35:Kp Oc H3 H5:=⟨by rw[q5.size,q4.size];exact iU _,fun j _ hn=>by rw[q5.kC j (fun e=>hn (e ▸ hcO)),q4.kC j (fun e=>hn (e ▸ hxO))]⟩
       have hC5:BA H5 cb p size (l1++{ x with j7:=false } :: l2) mp:=by
         refine hC3.uU (x':={ x with j7:=false }) rfl rfl (fun j h1 h2=>by rw[q5.kC j h1,q4.kC j h2]) ⟨_,by rw[q5.kC x.b (fun e=>D7 e.symm)];exact g4,kx3.Me false⟩ (fun o ho=>?_) ⟨_,g5,by simpa using st⟩ (fun o ho=>?_) ?_
         · rw[q5.lR,aH (fun e=>D7 e.1.symm),q4.lR,aH (by omega)]
         · rw[q5.lR,aH (by omega),q4.lR,aH (fun e=>D7 e.1)]
         · rw[q5.lR,aU ⟨rfl,rfl⟩]
       have:=k H5 JB ((mJ.kp.mono fun j _ h=>.inl h).trans (k35.mono fun j _ h=>.inr h)) mJ.new
       have he:Zw s cs a=((s.write a x.data).1,qV cs a,0):=AF hw Si hf heq
       rw[he]at this
       refine this (qN.kp k35 ahc) ⟨⟨_,mp,hC5,?_,fun j hj=>hO j ?_⟩,fun j hj=>by have:=kc j hj;have:=mJ.kp.le;rw[q5.size,q4.size];omega⟩
       · rw[<- nX,<- T5,Lq hC.F2]
       · rcases hj with h1 | h1 | h1
         · exact .inl h1
         · exact .inr (.inl h1)
         · exact .inr (.inr (by rw[pW (f:=(·.b)) (x:=x) (x':={ x with j7:=false }) rfl]at h1;exact h1))
   · simp only[zx,za,iW,zh,zl,zc,aR,yy,Ss]
     exact⟨trivial,trivial⟩
end
def DS.new(n:Int):DS:=⟨n,fun _=>zB,fun _=>zB,-1,false,0,0,0,0,0,0⟩
theorem Lr(n:Int)(a b:Nat):zo TP 115 [(0,.int .i64 n),(1,.map (some a)),(2,.map (some b)),(5,.int .i64 (-1))]=some (.agg (wO (DS.new n) a b (.slice none 0 0) (.slice none 0 0))):=by kernel_rfl
theorem HE:pN TP 65 1024 .u8:=⟨⟨5,by kernel_rfl,by kernel_rfl,by kernel_rfl,by kernel_rfl⟩,by kernel_rfl⟩
theorem E4{c:jn}(hc:jR c)(jZ:c≠zB){lit:Bool}{H:Hp}:ya TP 65 lit .eql (.agg c) (.agg zB) H=some (.bool false):=by
 rw[YX,OH HE hc z6 jZ];rfl
theorem SU{lit:Bool}{H:Hp}:ya TP 65 lit .eql (.agg zB) (.agg zB) H=some (.bool true):=by
 rw[YX,I1 HE z6];rfl
theorem Ext.Kz{H H1 H2:Hp}{b:Nat}(h:Ext H H1)(k:Kp (·=b) H1 H2)(hb:H.size<=b):Ext H H2:=(h.kp (·=b)).trans k |>.ext fun j hj e=>by omega
section
variable{H:Hp}{R:Value->Hp->Prop}
theorem ON{n:Int}(h1:1<=n)(h2:n<=1048576)(k:∀ H' p a b,Ext H H'->H.size<=a->a<b->b<p->p+1=H'.size->H'[p]?=some (.cells (wO (DS.new n) a b (.slice none 0 0) (.slice none 0 0)) 115)->kq H' a (fun _=>none) 0->kq H' b (fun _=>none) 0->R (.tuple #[zD p,.int .i64 0]) H'):Fc TP 82 #[.int .i64 n] H R:=by
 refine fn82 ?_;simp only[sh82,Ub,Uj,Uv,U1,zm];refine Zg.mk (fun x H'=>H'=H/\x.1=.bool false) ?_ ?_
 ·rintro⟨x,u⟩ H1 ⟨rfl,hx⟩;simp only at hx;subst hx;simp only[zh];refine yL fun a G1 ha x1 t1 f1=>?_;refine yL fun b G2 hb x2 t2 f2=>?_;simp only[Lr,za];refine Z9 fun p G3 hp x3 t3 f3=>?_;simp only[zI]at f3;exact k G3 p a b (x1.trans (x2.trans x3)) (by omega) (by omega) (by omega) (by omega) f3 (kq.new ((x2.trans x3).at f1)) (kq.new (x3.at f2))
 ·simp only[zk,za,zb,zJ];exact⟨fun h=>absurd h (by omega),fun _=>⟨trivial,by simp;omega⟩⟩
theorem DI.fresh{n:Int}{p a b nh:Nat}{f:Int->Option jn}(h1:1<=n)(top:H[p]?=some (.cells (wO (DS.new n) a b (.slice none 0 0) (.slice none 0 0)) 115))(ma:kq H a (fun k=>(f k).map .agg) nh)(mb:kq H b (fun _=>none) 0)
   (hp:p≠a/\p≠b/\a≠b) (hb:∀ k c,f k=some c->jR c) {g:Int->jn} (hg:∀ k,g k=(f k).getD zB):DI H p ⟨n,g,g,-1,false,0,0,0,0,0,0⟩ a b (.slice none 0 0) (.slice none 0 0) f (fun _=>none) nh 0 [] []:=
 { top:=top,LD:=ma,LC:=mb,LA:=Sv.nil _ _ _,Pw:=Sv.nil _ _ _,df:=hp,S9:=fun j e=>(by cases e),GY:=fun j e=>(by cases e),bh:=hb,bl:=fun j c e=>(by cases e),bp:=fun x hx=>(by cases hx),now:=hg,held:=hg,wait:=rfl,pl:=rfl,hl:=rfl,pos:=h1 }
def HN(n:Int):Int->List (Int × jn)->Prop
 | _,[]=>True
 | b,x :: l=>b<x.1/\x.1<n/\x.2≠zB/\jR x.2/\HN n x.1 l
def Uy(l:List (Int × jn)):Int->Option jn:=l.foldl (fun f x=>fun k=>if k=x.1 then some x.2 else f k) fun _=>none
def ET(l:List (Int × jn)):Int->jn:=l.foldl (fun g x=>nG g x.1 x.2) fun _=>zB
def DS.load(n:Int)(l:List (Int × jn)):DS:=⟨n,ET l,ET l,-1,false,0,0,0,0,0,0⟩
theorem SR(l:List (Int × jn))(x:Int × jn):Uy (l++[x])=fun k=>if k=x.1 then some x.2 else Uy l k:=by unfold Uy;rw[List.foldl_append];rfl
def TM(l:List (Int × jn))(b:Int):Nat->Int
 | 0=>b
 | j+1=>((l[j]?).map (·.1)).getD b
theorem F1{n:Int}:∀ {l:List (Int × jn)} {b:Int} {i:Nat} {x:Int × jn},HN n b l->l[i]?=some x->TM l b i<x.1/\x.1<n/\x.2≠zB/\jR x.2
 | [],_,_,_,_,h=>by simp at h
 | y :: l,b,0,x,h,hi=>by
  simp only[dU,iH]at hi;subst hi;exact⟨h.1,h.2.1,h.2.2.1,h.2.2.2.1⟩
 | y :: l,b,i+1,x,h,hi=>by
  have:=F1 (i:=i) h.2.2.2.2 (by simpa using hi);refine⟨?_,this.2⟩;have h1:=this.1;cases i with
  | zero=>simpa[TM]using h1
  | succ j=>
   simp only[TM,gH]at h1 ⊢;have hj:j<l.length:=by
    have:j+1<l.length:=by
     rcases jx (j+1) l.length with h2 | h2
     ·exact h2
     ·rw[gH,eR h2]at hi;cases hi
    omega
   simp only[bU hj,iR,Option.getD_some]at h1 ⊢;exact h1
theorem adw{l:List (Int × jn)}(h:∀ x∈l,jR x.2):∀ k c,Uy l k=some c->jR c:=by
 suffices ∀ (l:List (Int × jn)) (f:Int->Option jn),(∀ x∈l,jR x.2)->(∀ k c,f k=some c->jR c)->∀ k c,l.foldl (fun f x=>fun k=>if k=x.1 then some x.2 else f k) f k=some c->jR c from
  this l _ h fun k c e=>by cases e
 intro l;induction l with
 | nil=>intro f _ hf k c e;exact hf k c e
 | cons x l ih=>
  intro f h hf k c e;refine ih _ (fun y hy=>h y (dH _ hy)) (fun k c e=>?_) k c e;have e:(if k=x.1 then some x.2 else f k)=some c:=e;split at e
  ·injection e with e;subst e;exact h x eH
  ·exact hf k c e
theorem Sn(l:List (Int × jn)):∀ k,ET l k=(Uy l k).getD zB:=by
 suffices ∀ (l:List (Int × jn)) (g:Int->jn) (f:Int->Option jn),(∀ k,g k=(f k).getD zB)->∀ k,l.foldl (fun g x=>nG g x.1 x.2) g k=(l.foldl (fun f x=>fun k=>if k=x.1 then some x.2 else f k) f k).getD zB from
  this l _ _ fun k=>rfl
 intro l;induction l with
 | nil=>intro g f h k;exact h k
 | cons x l ih=>
  intro g f h k;refine ih _ _ (fun k=>?_) k;show(if k=x.1 then x.2 else g k)=(if k=x.1 then some x.2 else f k).getD zB;split
  ·rfl
  ·exact h k
theorem Gx:TP.underlying 79=some (.slice 149):=by kernel_rfl
theorem tX{x:Int × jn}:(zy x)[0]?=some (.int .i64 x.1):=by
 unfold zy;rw[nc (by simp)];rfl
theorem vr{x:Int × jn}(h:jR x.2):(zy x).extract 1 (1+1024)=x.2:=by
 refine qk h.size (by rw[zZ h];omega) fun j hj=>?_;unfold zy;rw[lS (by simp)];congr 1;simp
theorem OO{n:Int}{s:Value}{l:List (Int × jn)}(h1:1<=n)(h2:n<=1048576)(hs:Sv 149 1025 H s (l.map zy))(hl:HN n (-1) l)(hlen:l.length<=1048576)
   (k:∀ H' p,Ext H H'->jQ H' p (DS.load n l) (fun b=>H.size<=b/\b<H'.size)->R (.tuple #[zD p,.int .i64 0]) H'):Fc TP 30 #[.agg #[.int .i64 n,s]] H R:=by
 refine fn30 ?_
 simp only[sh30,Ul,UL,UA,Us,Ub,Uz,Ux,UI,Uf,Ui,Ug,Uj,Uo,Uv,U1,zm]
 refine Z9 fun b H1 hb e1 s1 g1=>?_
 simp only[zI]at g1
 simp only[zc,aR,za,zi g1,fR,dU,gH]
 refine ON h1 h2 fun H2 p ma mb e2 ha II hbp hp top hma hmb=>?_
 have g2:=e2.at g1
 simp only[zq,fR,dU,gH,za,zn,show decide ((0:Int)≠0)=false from rfl,zh,zi g2]
 have e02:=e1.trans e2
 have sH:=hs.ext e02
 rw[sH.j9 Gx,za,bR]
 have hlB:∀ x∈l,jR x.2:=fun x hx=>by
   obtain⟨i,hi⟩:=List.mem_iff_getElem?.1 hx
   exact(F1 hl hi).2.2.2
 refine zF.mk (fun t H'=>∃ (i nh:Nat),i<=l.length/\t.1=.int .i64 (TM l (-1) i)/\t.2.1=.int .i64 i/\Ext H H'/\H2.size<=H'.size/\H'[b]?=some (.cells #[.int .i64 n,s] 81) /\
     H'[p]?=some (.cells (wO (DS.new n) ma mb (.slice none 0 0) (.slice none 0 0)) 115)/\kq H' ma (fun k=>(Uy (l.take i) k).map .agg) nh/\kq H' mb (fun _=>none) 0)
   (fun t _=>match t.2.1 with | .int _ i=>((l.length:Int) - i).toNat | _=>0) ⟨0,0,by omega,rfl,rfl,e02,iU _,g2,top,hma,hmb⟩ ?_
 rintro⟨t1,t2,u⟩ H3 ⟨i,nh,hi,hbe,hti,e3,l3,g3,aa9,ma3,mb3⟩
 simp only at hbe hti
 subst hbe hti
 simp only[zk,za,zb]
 have sz1:=e2.le
 refine⟨fun kc=>?_,fun lA=>?_⟩
 · have kI:i<l.length:=by omega
   have hx:=bU kI
   generalize l[i]=x at hx
   obtain⟨ok1,ok2,ok3,Rl⟩:=F1 hl hx
   have hs3:=hs.ext e3
   obtain⟨bs,os,SD,kE⟩:=hs3.row (i:=i) (v:=zy x) (by rw[dR,hx];rfl)
   simp only[SD,za,kE,sL]
   refine Z9 fun b4 H4 hb4 e4 s4 g4=>?_
   simp only[zI]at g4
   refine Zc g4 Zh (zZ Rl) (Z8 Rl) fun H5 k5 s5 g5=>?_
   have Gy:Ext H3 H5:=e4.Kz k5 (by omega)
   generalize TM l (-1) i=before at ok1
   refine Zg.mk (fun t H'=>H'=H5/\t.1=.bool false) ?_ ?_
   · rintro⟨t,u⟩ H6 ⟨rfl,ht⟩
     simp only at ht
     subst ht
     have ld0:zX (some none) (.pointer (some ⟨b4,0,none⟩)) H6=some (.int .i64 x.1):=by rw[zi g5];exact tX
     have ld1:zX (some (some 1024)) (.pointer (some ⟨b4,1,none⟩)) H6=some (.agg x.2):=by rw[Za g5 (by rw[zZ Rl];omega),vr Rl]
     simp only[zh,zl,za,zc,aR,zi (Gy.at aa9),Zn,ld0,ld1]
     refine YU (ma3.ext Gy) fun H7 k7 s7 m7=>?_
     have hnb:b4≠ma:=by have:=ma3.lt;omega
     have ld7:zX (some none) (.pointer (some ⟨b4,0,none⟩)) H7=some (.int .i64 x.1):=by rw[zi (k7.at g5 hnb)];exact tX
     simp only[ld7,za,ze]
     rw[zd (by omega) (by omega)]
     refine⟨⟨i+1,if Option.map Value.agg (Uy (l.take i) x.1)=none then nh+1 else nh,by omega,?_,rfl,(e3.trans Gy).Kz k7 (by have:=e1.le;omega),by have:=Gy.le;omega,k7.at (Gy.at g3) (by omega),k7.at (Gy.at aa9) (by omega),?_,(mb3.ext Gy).kp k7 (by omega)⟩,by show((l.length:Int) - (i+1)).toNat<((l.length:Int) - i).toNat;omega⟩
     · show Value.int .i64 x.1=.int .i64 (((l[i]?).map (·.1)).getD (-1))
       rw[hx];rfl
     · refine m7.congr fun k=>?_
       rw[List.take_add_one,hx]
       show Option.map Value.agg (Uy (l.take i++[x]) k)=_
       rw[SR]
       unfold sQ
       show Option.map Value.agg (if k=x.1 then some x.2 else Uy (l.take i) k)=_
       split<;>rfl
   · have ld0:zX (some none) (.pointer (some ⟨b4,0,none⟩)) H5=some (.int .i64 x.1):=by rw[zi g5];exact tX
     have ld1:zX (some (some 1024)) (.pointer (some ⟨b4,1,none⟩)) H5=some (.agg x.2):=by rw[Za g5 (by rw[zZ Rl];omega),vr Rl]
     simp only[zc,aR,za,ld0,yp,zi (Gy.at g3),fR,dU,zN,zb,ld1,yP,E4 Rl ok3]
     exact⟨fun h=>absurd h (by omega),fun _=>⟨fun h=>absurd h (by omega),fun _=>⟨trivial,trivial⟩⟩⟩
 · have kI:i=l.length:=by omega
   subst kI
   rw[jk]at ma3
   refine k H3 p e3 ⟨⟨ma,mb,_,_,Uy l,fun _=>none,nh,0,[],[],DI.fresh h1 aa9 ma3 mb3 ⟨by omega,by omega,by omega⟩ (adw hlB) (Sn l),⟨?_,?_⟩,⟨?_,?_⟩,⟨?_,?_⟩,fun j e=>(by cases e),fun j e=>(by cases e)⟩,fun j h=>h.2⟩
   all_goals (have:=e1.le;omega)
end
noncomputable def UM:Array Value:=Nz (ZZ TP 174)
theorem aaQ:ZZ TP 174=some (.agg UM):=by kernel_rfl
theorem pR:UM.size=1032:=by kernel_rfl
theorem P1:UM[2]?=some (.int .i64 0):=by kernel_rfl
theorem ajF:rB TP 174=some [(0,1),(1,1),(2,1),(3,1028),(1031,1)]:=by kernel_rfl
noncomputable def uP(p:Nat)(size:Int)(mp:Nat):Array Value:=zL (zL (zL UM 0 #[zD p]) 1 #[.int .i64 size]) 1031 #[.map (some mp)]
theorem Xh(p:Nat)(size:Int)(mp:Nat):(uP p size mp).size=1032/\(uP p size mp)[0]?=some (zD p)/\(uP p size mp)[1]?=some (.int .i64 size)/\(uP p size mp)[2]?=some (.int .i64 0)/\(uP p size mp)[1031]?=some (.map (some mp)):=by
 have q1:(zL UM 0 #[zD p]).size=1032:=by rw[zO (by rw[pR];simp),pR]
 have q2:(zL (zL UM 0 #[zD p]) 1 #[Value.int .i64 size]).size=1032:=by rw[zO (by rw[q1];simp),q1]
 have g:∀ j,(uP p size mp)[j]?=if j=1031 then some (.map (some mp)) else if j=1 then some (.int .i64 size) else if j=0 then some (zD p) else UM[j]?:=fun j=>by
  unfold uP;rw[zH (by rw[q2];simp),zH (by rw[q1];simp),zH (by rw[pR];simp)];simp only[nN,gR,jW];by_cases h1:j=1031
  ·subst h1;simp
  ·rw[aH h1];by_cases h2:j=1
   ·subst h2;simp
   ·rw[aH h2];by_cases h3:j=0
    ·subst h3;simp
    ·rw[aH h3];by_cases h4:j<1031
     ·rw[aU h4,aH (by omega),aH (by omega),aH (by omega),aH (by omega)]
     ·rw[aH h4,aH (by omega),aH (by omega),aH (by omega),aH (by omega),aH (by omega)]
 refine⟨by unfold uP;rw[zO (by rw[q2];simp),q2],?_,?_,?_,?_⟩
 ·rw[g];rfl
 ·rw[g];rfl
 ·rw[g];exact P1
 ·rw[g];rfl
theorem Tz{p mp:Nat}{size:Int}:zo TP 174 [(0,zD p),(1,.int .i64 size),(4,.map (some mp))]=some (.agg (uP p size mp)):=by
 refine yi aaQ ajF ?_;have q1:(zL UM 0 (zD p).cells).size=1032:=by rw[zO (by rw[pR];simp[Value.cells]),pR]
 have q2:(zL (zL UM 0 (zD p).cells) 1 (Value.int .i64 size).cells).size=1032:=by rw[zO (by rw[q1];simp[Value.cells]),q1]
 refine ZC rfl rfl (by rw[pR];omega) ?_;refine ZC rfl rfl (by rw[q1];omega) ?_;exact ZC rfl rfl (by rw[q2];omega) rfl
section
variable{H:Hp}{p:Nat}{s:DS}{O:Nat->Prop}{R:Value->Hp->Prop}
theorem O0(hd:jQ H p s O){size:Int}(h1:1<=size)(h2:size<=4096)(k:∀ H' cb,Ext H H'->kJ H' cb p size [] (fun b=>H.size<=b/\b<H'.size)->R (.tuple #[zD cb,.int .i64 0]) H') :
   Fc TP 84 #[zD p,.int .i64 size] H R:=by
 refine fn84 ?_
 simp only[sh84,UA,Us,Ub,UI,Uf,Uj,Uv,U1,zm]
 refine tk hd ?_
 have acG:0<s.n:=by
   obtain⟨⟨_,_,_,_,_,_,_,_,_,_,h,_⟩,_⟩:=hd
   exact h.pos
 simp only[zp,za,zb]
 refine⟨fun h=>absurd h (by omega),fun _=>?_⟩
 refine Zg.mk (fun x H'=>H'=H/\x.1=.bool false) ?_ ?_
 · rintro⟨x,u⟩ H1 ⟨rfl,hx⟩
   simp only at hx
   subst hx
   simp only[zh]
   refine yL fun mp G1 hm x1 t1 f1=>?_
   simp only[Tz,za]
   refine Z9 fun cb G2 hc x2 t2 f2=>?_
   simp only[zI]at f2
   obtain⟨c1,c2,c3,c4,c5⟩:=Xh p size mp
   simp only[zl,za,zc,aR,Nat.reduceAdd]
   refine qx (n:=0) (v:=nT (cb,3)) f2 (by omega) rfl rfl fun G3 q3 f3=>?_
   refine qx (n:=0) (v:=nT (cb,3)) f3 (by rw[lL];omega) rfl rfl fun G4 q4 f4=>?_
   have TY:Ext H1 G4:=⟨by rw[q4.size,q3.size];exact(x1.trans x2).le,fun j hj=>by rw[q4.kC j (by omega),q3.kC j (by omega)];exact(x1.trans x2).same j hj⟩
   have cc:∀ o,lR G4 cb o=if o=1030 then some (nT (cb,3)) else if o=1029 then some (nT (cb,3)) else(uP p size mp)[o]?:=fun o=>by
     rw[q4.lR,q3.lR,tx f2]
     by_cases h1:o=1030
     · rw[aU ⟨rfl,h1⟩,aU h1]
     · rw[aH (fun e=>h1 e.2),aH h1]
       by_cases h2:o=1029
       · rw[aU ⟨rfl,h2⟩,aU h2]
       · rw[aH (fun e=>h2 e.2),aH h2]
   have nU:mp≠cb:=by omega
   refine k G4 cb TY ⟨⟨[],mp,⟨⟨⟨_,f4,by simpa using c1⟩,fun z hz=>(by cases hz),⟨?_,?_,trivial⟩,by simp⟩,?_,?_,?_,?_,?_,⟨nU,by simp⟩,by simp⟩,rfl,?_⟩,fun j h=>h.2⟩
   · show lR G4 cb 1030=_
     rw[cc];rfl
   · show lR G4 cb 1029=_
     rw[cc];rfl
   · rw[cc];exact c2
   · rw[cc];exact c3
   · rw[cc];exact c4
   · rw[cc];exact c5
   · have m1:kq G4 mp (fun _=>none) 0:=kq.new (by rw[q4.kC mp nU,q3.kC mp nU];exact x2.at f1)
     exact m1.congr fun k=>rfl
   · rintro j (h | h | h)
     · rw[q4.size,q3.size];omega
     · rw[q4.size,q3.size];omega
     · simp at h
 · simp only[zk,za,zb,zJ]
   exact⟨fun h=>absurd h (by omega),fun _=>⟨trivial,by simp;omega⟩⟩
end
end Go.Vc
namespace Go.Proofs
open Go.Vc
section
variable(v0 v1 v2 v3 v4 v5 v6 v7 v8:Value)(H:Hp)(R:Value->Hp->Prop)
def sh113:Prop:=kT 149 v1 H fun b a=>UA 1 b fun c=>UL 1024 c a fun d=>Pu (zo TP 65 []) fun e=>Pu (ya TP 65 false .eql d e a) fun f=>hU f (UI v0 fun g=>UA 1 g fun h=>Ul h a fun i=>UA 0 b fun j=>Ul j a fun k=>Pu (rC (some (3,.int .i64,65)) i k a) fun l=>R (.tuple #[]) l) (UI v0 fun m=>UA 1 m fun n=>Ul n a fun o=>UA 0 b fun p=>Ul p a fun q=>UA 1 b fun r=>UL 1024 r a fun s=>Pu (yM (some (3,.int .i64,65)) o q s a) fun t=>R (.tuple #[]) t)
def sh96:Prop:=Uf 102 #[v0] H fun d e=>Ub .neq d (Uv 0) fun k=>hU k (R d e) (Uf 138 #[v0] e fun l a=>Uu l fun m=>hU m (R (Uv 3) a) (UI v0 fun o=>UA 3 o fun p=>Ul p a fun f=>Ug 79 f fun q=>Uo (n:=1) ((Uv 0),()) a (fun r b c=>Ub .lss b.1 q fun s=>hU s (Ui 1025 f b.1 fun t=>UL 1025 t c fun u=>Uz 149 c fun g v=>Us 1025 g u v fun h=>UL 1025 g h fun w=>Uf 113 #[v0,w] h fun O x=>Ub .add b.1 (Uv 1) fun y=>r (y,()) x) (UI v0 fun z=>UA 3 z fun A=>Us 1 A (.slice none 0 0) c fun i=>UI v0 fun B=>UA 2 B fun C=>Ul C i fun D=>Pu (rD D i) fun j=>UI v0 fun E=>UA 4 E fun F=>Ul F j fun G=>Pu (zo TP 211 [(0,(.int .u8 2))]) fun I=>Uq 113 I G j fun J K=>UI v0 fun L=>UA 4 L fun M=>Us 1 M J K fun N=>R (Uv 0) N))))
def sh63:Prop:=Uf 102 #[v0] H fun b a=>Ub .eql b (Uv 0) fun c=>hU c (Pu (xB v1 (Uv (-1))) fun d=>UI v0 fun e=>UA 5 e fun f=>Us 1 f d a fun g=>R (.tuple #[]) g) (R (.tuple #[]) a)
def sh65:Prop:=Uf 49 #[v0] H fun k b=>Uu k fun l=>hU l (R (Uv 1) b) (UI v0 fun m=>UA 3 m fun o=>Ul o b fun f=>Ug 79 f fun p=>Uo (n:=1) ((Uv 0),()) b (fun g a c=>Ub .lss a.1 p fun q=>hU q (Ui 1025 f a.1 fun r=>UL 1025 r c fun s=>Uz 149 c fun h t=>Us 1025 h s t fun d=>Uj (n:=1) (fun u e=>hU u.1 (UL 1025 h e fun v=>Uf 113 #[v0,v] e fun Z w=>Ub .add a.1 (Uv 1) fun x=>g (x,()) w) (Ub .add a.1 (Uv 1) fun y=>g (y,()) e)) (fun i=>Ug 136 v1 fun z=>Ub .lss a.1 z fun A=>hU A (Ui 1 v1 a.1 fun B=>Ul B d fun C=>i (C,()) d) (i (U0,()) d))) (UI v0 fun D=>UA 3 D fun E=>Us 1 E (.slice none 0 0) c fun F=>UI v0 fun G=>UA 4 G fun I=>Us 1 I (.slice none 0 0) F fun j=>UI v0 fun J=>UA 2 J fun K=>Ul K j fun L=>Pu (rD L j) fun M=>UI v0 fun N=>UA 6 N fun O=>Us 1 O U0 M fun P=>UI v0 fun Q=>UA 5 Q fun T=>Us 1 T (Uv (-1)) P fun V=>UI v0 fun W=>UA 10 W fun X=>Us 1 X (Uv 0) V fun Y=>R (Uv 0) Y)))
end
variable{v0 v1 v2 v3 v4 v5 v6 v7 v8:Value}{H:Hp}{R:Value->Hp->Prop}
theorem fn113(h:sh113 v0 v1 H R):Fc TP 113 #[v0,v1] H R:=
 mr UQ .nil Tryz.func113 h
theorem fn96(h:sh96 v0 H R):Fc TP 96 #[v0] H R:=
 mU UQ (.seq .nil (.seq .nil (.seq .nil (.seq (.seq .nil (.loop [19] ([20,21,22,5]++Ur 23 4) .nil)) .nil)))) Tryz.func96 h
theorem fn63(h:sh63 v0 v1 H R):Fc TP 63 #[v0,v1] H R:=
 mr UQ .nil Tryz.func63 h
theorem fn65(h:sh65 v0 v1 H R):Fc TP 65 #[v0,v1] H R:=
 mr UQ (.seq .nil (.seq .nil (.seq (.seq .nil (.loop [15] (Ur 16 4++[6,5]++Ur 20 14) (.seq .nil (.seq .nil (.seq (.seq .nil (.join [29] (Ur 20 9) .nil .nil)) .nil))))) .nil))) Tryz.func65 h
end Go.Proofs
namespace Go.Vc
open Go.Proofs
section
variable{H:Hp}{p:Nat}{s:DS}{O:Nat->Prop}{R:Value->Hp->Prop}
theorem OP{mh nh:Nat}{fh:Int->Option jn}{top:Array Value}{T:TypeId}(ht:H[p]?=some (.cells top T))(h1:top[1]?=some (.map (some mh)))(hm:kq H mh (fun k=>(fh k).map .agg) nh){x:Int × jn}(hx:jR x.2)
   (k:∀ (H':Hp) (WQ:Int->Option jn) (Rr:Nat),Kp (·=mh) H H'->kq H' mh (fun k=>(WQ k).map .agg) Rr->(∀ k,(WQ k).getD zB=if k=x.1 then x.2 else(fh k).getD zB)->((∀ k c,fh k=some c->jR c)->∀ k c,WQ k=some c->jR c)->R (.tuple #[]) H') :
   Fc TP 113 #[zD p,.agg (zy x)] H R:=by
 refine fn113 ?_
 simp only[sh113,Ul,UL,UA,UI]
 refine Z9 fun b H1 hb e1 s1 g1=>?_
 simp only[zI]at g1
 have ld0:zX (some none) (.pointer (some ⟨b,0,none⟩)) H1=some (.int .i64 x.1):=by rw[zi g1];exact tX
 have ld1:zX (some (some 1024)) (.pointer (some ⟨b,1,none⟩)) H1=some (.agg x.2):=by rw[Za g1 (by rw[zZ hx];omega),vr hx]
 simp only[zc,aR,za,ld1,yP]
 by_cases hz:x.2=zB
 · rw[hz,SU]
   simp only[za,zA,zl,zc,aR,zi (e1.at ht),h1,ld0]
   refine HZ (hm.ext e1) fun H2 k2 s2 m2=>?_
   refine k H2 (fun k=>if k=x.1 then none else fh k) _ ((e1.kp _).trans k2) (m2.congr fun k=>?_) (fun k=>?_) fun hB k c e=>?_
   · unfold sQ;split<;>rfl
   · by_cases h:k=x.1
     · rw[aU h,aU h,hz];rfl
     · rw[aH h,aH h]
   · split at e
     · cases e
     · exact hB k c e
 · rw[E4 hx hz]
   simp only[za,zh,zl,zc,aR,zi (e1.at ht),h1,ld0,ld1]
   refine YU (hm.ext e1) fun H2 k2 s2 m2=>?_
   refine k H2 (fun k=>if k=x.1 then some x.2 else fh k) _ ((e1.kp _).trans k2) (m2.congr fun k=>?_) (fun k=>?_) fun hB k c e=>?_
   · unfold sQ;split<;>rfl
   · by_cases h:k=x.1
     · rw[aU h,aU h];rfl
     · rw[aH h,aH h]
   · split at e
     · injection e with e;subst e;exact hx
     · exact hB k c e
end
def DS.ja(s:DS):DS × Int:=
 if s.jt then(s,3) else if s.jC=0 then({ s with jt:=true },3) else({ s.mM.1 with held:=s.now,pl:=0,hl:=s.hl+1 },0)
theorem DS.pC{s:DS}{k:Nat}(h:s.fit k):s.ja.1.fit (k+1):=by
 have h0:=h.mono (mC k);obtain⟨h1,h2,h3,h4,h5⟩:=h;unfold DS.ja DS.mM;split
 ·exact h0
 ·split
  ·exact⟨h0.made,h0.reads,h3,h0.pl,h0.hl⟩
  ·refine⟨by simp only;omega,by simp only;omega,?_,by simp only;omega,by simp only;omega⟩;simp only;split<;>omega
noncomputable def NW:Array Value:=zL zOp 0 #[.int .u8 2]
theorem Ca:NW.size=1026:=by unfold NW;rw[zO (by rw[Yu];simp),Yu]
theorem aaR:(zOp.toList.all fun v=>v.oneCell')=true:=by kernel_rfl
theorem Rj:zv NW:=by
 unfold zv;rw[<- iV,kl];intro v hv;have h0:=kl.1 aaR;obtain⟨i,hi⟩:=List.mem_iff_getElem?.1 hv;rw[nj]at hi;unfold NW at hi;rw[zH (by rw[Yu];simp)]at hi;simp only[nN,gR,jW]at hi;by_cases h:i=0
 ·subst h;simp at hi;subst hi;rfl
 ·rw[aH (by omega),aH (by omega)]at hi;exact h0 v (jV (by rw[nj];exact hi))
theorem Fj:zo TP 211 [(0,.int .u8 2)]=some (.agg NW):=by
 refine yi PW afE ?_;exact ZC rfl rfl (by rw[Yu];omega) rfl
section
variable{H:Hp}{p:Nat}{s:DS}{O:Nat->Prop}{R:Value->Hp->Prop}
theorem GB(h:jQ H p s O){kf:Nat}(hf:s.fit kf)(hk:kf<100000000000)
   (kk:∀ H' O',kS O O' H H'->jQ H' p s.ja.1 O'->R (.int .i64 s.ja.2) H'):Fc TP 96 #[zD p] H R:=by
 obtain⟨hm,hr,Bl,nX,hhl⟩:=hf
 refine fn96 ?_
 simp only[sh96,Ul,UL,UA,Us,Ub,Uz,UI,Uf,Ui,Ug,Uu,Uo,Uq,Uv,zm]
 refine YC h ?_
 simp only[zn,za,zb]
 refine⟨fun jZ=>?_,fun heq=>?_⟩
 · have kH:s.jt=true:=by
     cases hs:s.jt with
     | true=>rfl
     | false=>rw[hs]at jZ;exact absurd rfl jZ
   have hw:s.ja=(s,3):=by simp[DS.ja,kH]
   have:=kk H O (kS.refl O H)
   rw[hw]at this
   rw[kH];exact this h
 · have kH:s.jt=false:=by
     cases hs:s.jt with
     | false=>rfl
     | true=>rw[hs]at heq;exact absurd (show(3:Int)≠0 by decide) heq
   obtain⟨⟨mh,ml,ps,hs,fh,fl,nh,nl,kK,lJ,hd,o1,o2,o3,o4,o5⟩,kc⟩:=h
   refine E7 hd (by omega) Bl fun H3 k3 s3 qN=>?_
   have mJ:kS O O H H3:=k3.oF fun j _ e=>e ▸ o1
   by_cases hz:s.jC=0
   · have qO:s.mM=({ s with jt:=true },false):=by simp[DS.mM,hz]
     rw[qO]at qN ⊢
     simp only[zx,za,jN,zA]
     have hw:s.ja=({ s with jt:=true },3):=by simp only[DS.ja,kH,jl,jD,hz,jO]
     have:=kk H3 O mJ
     rw[hw]at this
     exact this ⟨⟨mh,ml,ps,hs,fh,fl,nh,nl,kK,lJ,qN,o1,o2,o3,o4,o5⟩,fun j hj=>by rw[s3];exact kc j hj⟩
   · have qO:s.mM.2=true:=by simp[DS.mM,hz]
     have hw:s.ja=({ s.mM.1 with held:=s.now,pl:=0,hl:=s.hl+1 },0):=by simp only[DS.ja,kH,jl,jD,aH hz]
     have agB:kK.length=s.pl:=hd.pl.symm
     have acU:lJ.length=s.hl:=hd.hl.symm
     have q2:=Nc
     obtain⟨d1,d2,d3⟩:=hd.df
     rw[qO]
     simp only[zx,za,iW,zh,zl,zc,aR,zi qN.top,Zn]
     rw[qN.LA.j9 Gx,za,bR]
     refine zF.mk (fun t H'=>∃ (i Rr:Nat) (WQ:Int->Option jn),i<=kK.length/\t.1=.int .i64 i/\Kp (·=mh) H3 H'/\kq H' mh (fun k=>(WQ k).map .agg) Rr /\
         (∀ k,(WQ k).getD zB=((kK.take i).foldl (fun g x=>nG g x.1 x.2) s.held) k)/\(∀ k c,WQ k=some c->jR c))
       (fun t _=>match t.1 with | .int _ i=>((kK.length:Int) - i).toNat | _=>0)
       ⟨0,nh,fh,by omega,rfl,Kp.refl _ _,qN.LD,fun k=>(hd.held k).symm,hd.bh⟩ ?_
     rintro⟨t1,u⟩ H4 ⟨i,Rr,WQ,hi,hti,k4,m4,v4,b4⟩
     simp only at hti
     subst hti
     simp only[zk,za,zb]
     have ae7:=k4.at qN.top (fun e=>d1 e)
     have ps4:=qN.LA.kp k4 (fun j e e'=>(hd.S9 j e).2.1 e')
     refine⟨fun apN=>?_,fun lA=>?_⟩
     · have kI:i<kK.length:=by omega
       have hx:=bU kI
       generalize kK[i]=x at hx
       have hxB:jR x.2:=hd.bp x (jV hx)
       obtain⟨bs,os,SD,kE⟩:=ps4.row (i:=i) (v:=zy x) (by rw[dR,hx];rfl)
       simp only[SD,za,kE,sL]
       refine Z9 fun b5 H5 hb5 e5 s5 g5=>?_
       simp only[zI]at g5
       refine Zc g5 Zh (zZ hxB) (Z8 hxB) fun H6 k6 s6 g6=>?_
       have e46:Ext H4 H6:=e5.Kz k6 (by omega)
       simp only[zV g6 (zZ hxB),za]
       refine OP (e46.at ae7) Zn.2.1 (m4.ext e46) hxB fun H7 fh7 nh7 k7 m7 v7 b7=>?_
       simp only[ze,za]
       rw[zd (by omega) (by omega)]
       refine⟨⟨i+1,nh7,fh7,by omega,rfl,(k4.trans (e46.kp _)).trans k7,m7,fun k=>?_,b7 b4⟩,by show((kK.length:Int) - (i+1)).toNat<((kK.length:Int) - i).toNat;omega⟩
       rw[v7 k,List.take_add_one,hx]
       show _=((kK.take i++[x]).foldl (fun(g:Int->jn) (x:Int × jn)=>nG g x.1 x.2) s.held) k
       rw[List.foldl_append]
       show _=nG _ x.1 x.2 k
       unfold nG
       split
       · rfl
       · exact v4 k
     · have kI:i=kK.length:=by omega
       subst kI
       rw[jk,hd.wait]at v4
       have ml4:=qN.LC.kp k4 (fun e=>d3 e.symm)
       have hs4:=qN.Pw.kp k4 (fun j e e'=>(hd.GY j e).2.1 e')
       have xh:=mJ.trans (k4.oF fun j _ e=>e ▸ o2)
       refine ZQ (v:=.slice none 0 0) ae7 (by simp[Zn]) rfl rfl fun H7 k7 s7 g7=>?_
       have ae6:H7[p]?=some (.cells (wO s.mM.1 mh ml (.slice none 0 0) hs) 115):=g7
       have NK:=xh.trans (k7.oF fun j _ e=>e ▸ o1)
       simp only[zi ae6,Zn,za]
       refine Ia (ml4.kp k7 (fun e=>d2 e.symm)) fun H8 k8 s8 ml8=>?_
       have PG:=NK.trans (k8.oF fun j _ e=>e ▸ o3)
       have Qi:=k8.at ae6 (fun e=>d2 e)
       have mh8:=(m4.kp k7 (fun e=>d1 e.symm)).kp k8 d3
       have hs8:=(hs4.kp k7 (fun j e e'=>(hd.GY j e).1 e')).kp k8 (fun j e e'=>(hd.GY j e).2.2 e')
       simp only[zi Qi,Zn,za,Fj,W0]
       rw[YS (by rw[q2.2.1];decide) (by rw[q2.2.1];decide) (by rw[zI,Ca,q2.2.1]),za]
       refine pK fun b9 H9 hb9 e9 s9 g9=>?_
       refine tE (us:=[NW]) q2.1 q2.2.1 q2.2.2.1 (by rw[q2.2.2.2];decide) (hs8.ext e9) (Sv.single g9 Ca) (by simpa using Rj) (by
         rw[q2.2.2.2];simp only[gR,jW];omega) fun KH mX acB N6 agG=>?_
       have Qo:=(PG.trans (e9.oF O)).trans (N6.oF fun j _ e=>o5 j e)
       have L2:=N6.at (e9.at Qi) (fun e=>(hd.GY p e).1 rfl)
       have abX:=(mh8.ext e9).kp N6 (fun e=>(hd.GY mh e).2.1 rfl)
       have abU:=(ml8.ext e9).kp N6 (fun e=>(hd.GY ml e).2.2 rfl)
       have Ro:∀ j,ZH KH=some j->j≠p/\j≠mh/\j≠ml:=fun j e=>by
         rcases agG j e with h1 | h1
         · exact hd.GY j h1
         · have l1:=Zu (e9.at Qi)
           have l2:=(mh8.ext e9).lt
           have l3:=(ml8.ext e9).lt
           exact⟨by omega,by omega,by omega⟩
       refine ZQ L2 (by simp[Zn]) acB.one.2 acB.one.1 fun mN PJ Dy SJ=>?_
       have afa:mN[p]?=some (.cells (wO s.mM.1 mh ml (.slice none 0 0) KH) 115):=SJ
       have afk:=Qo.trans (PJ.oF fun j _ e=>e ▸ o1)
       have fin:=kk mN (fun j=>O j\/ZH KH=some j) ⟨afk.kp,fun j hj=>by
         rcases hj with h1 | h1
         · exact .inl h1
         · rcases agG j h1 with h2 | h2
           · exact .inl (o5 j h2)
           · exact .inr (kg (PG.trans (e9.oF O)).kp.le h2)⟩
       rw[hw]at fin
       have ah0:=acB.kp PJ (fun j e e'=>(Ro j e).1 e')
       refine fin ⟨⟨mh,ml,.slice none 0 0,KH,WQ,fun _=>none,Rr,0,[],lJ++[NW],?_,.inl o1,.inl o2,.inl o3,fun j e=>(by cases e),fun j e=>.inr e⟩,fun j hj=>?_⟩
       · exact {
           top:=afa
           LD:=abX.kp PJ (fun e=>d1 e.symm)
           LC:=abU.kp PJ (fun e=>d2 e.symm)
           LA:=Sv.nil _ _ _
           Pw:=ah0
           df:=hd.df
           S9:=fun j e=>(by cases e)
           GY:=Ro
           bh:=b4
           bl:=fun j c e=>(by cases e)
           bp:=fun x hx=>(by cases hx)
           now:=fun k=>by
             show(s.mM.1).now k=_
             rw[show(s.mM.1).now=s.now by simp[DS.mM,hz]]
             exact(v4 k).symm
           held:=fun k=>(v4 k).symm
           wait:=by
             show s.now=(s.mM.1).now
             simp[DS.mM,hz]
           pl:=rfl
           hl:=by rw[cR,acU];rfl
           pos:=qN.pos }
       · rcases hj with h1 | h1
         · exact jj (kc j h1) afk.kp.le
         · exact ah0.lt h1
end
end Go.Vc
namespace Go.Proofs
open Go.Vc
section
variable(v0 v1 v2 v3 v4 v5 v6 v7 v8:Value)(H:Hp)(R:Value->Hp->Prop)
def sh85:Prop:=Uf 102 #[v0] H fun d a=>Ub .neq d (Uv 0) fun e=>hU e (R (Uv 0) a) (UI v0 fun f=>UA 9 f fun g=>Ul g a fun h=>Ub .add h (Uv 1) fun i=>UI v0 fun j=>UA 9 j fun k=>Us 1 k i a fun b=>UI v0 fun l=>UA 9 l fun m=>Ul m b fun n=>UI v0 fun o=>UA 10 o fun p=>Us 1 p n b fun c=>UI v0 fun q=>UA 10 q fun r=>Ul r c fun s=>R s c)
def sh92:Prop:=Uf 102 #[v0] H fun b a=>Ub .eql b (Uv 0) fun c=>hU c (Ub .gtr v1 (Uv 0) fun d=>hU d (UI v0 fun e=>UA 10 e fun f=>Ul f a fun g=>Ub .eql g v1 fun h=>R h a) (R U0 a)) (R U0 a)
def sh127:Prop:=Uf 129 #[v0] H fun a b=>Ub .gtr a (Uv 0) fun c=>R c b
def sh128:Prop:=kT 23 v0 H fun b p=>Uz 62 p fun d a=>Uj (n:=1) (fun q g=>hU q.1 (Pu (zo TP 62 []) fun r=>Us 9 d r g fun j=>UL 9 d j fun s=>R (.tuple #[s,(Uv 2)]) j) (UL 3 b g fun t=>UA 1 b fun u=>Ul u g fun v=>Ub .add (Uv 1) v fun w=>Pu (zo TP 62 [(0,t),(1,(Uv 1)),(2,w)]) fun x=>Uz 62 g fun c y=>Us 9 c x y fun k=>UA 2 b fun z=>Ul z k fun A=>Ub .add A (Uv 16) fun B=>Ub .quo B (Uv 16) fun C=>UA 5 c fun D=>Us 1 D C k fun h=>UA 4 c fun E=>Ul E h fun F=>UA 5 c fun G=>Ul G h fun I=>Ub .add F I fun J=>UA 6 c fun K=>Us 1 K J h fun l=>UA 0 b fun L=>Ul L l fun M=>Ub .add M (Uv 8192) fun N=>Ub .sub N (Uv 1) fun O=>Ub .quo O (Uv 8192) fun P=>UA 7 c fun Q=>Us 1 Q P l fun i=>UA 6 c fun T=>Ul T i fun V=>UA 7 c fun W=>Ul W i fun X=>Ub .add V X fun Y=>UA 8 c fun Z=>Us 1 Z Y i fun f=>UA 8 c fun aa=>Ul aa f fun ab=>UA 0 b fun ac=>Ul ac f fun ad=>Ub .geq ab ad fun ae=>hU ae (Pu (zo TP 62 []) fun af=>Us 9 d af f fun m=>UL 9 d m fun ag=>R (.tuple #[ag,(Uv 2)]) m) (UL 9 c f fun ah=>Us 9 d ah f fun o=>UL 9 d o fun ai=>R (.tuple #[ai,(Uv 0)]) o))) (fun e=>UA 1 b fun aj=>Ul aj a fun ak=>Ub .lss ak (Uv 32) fun al=>hU al (e (U1,()) a) (UA 1 b fun am=>Ul am a fun an=>Ub .gtr an (Uv 256) fun ao=>hU ao (e (U1,()) a) (UA 2 b fun ap=>Ul ap a fun aq=>Ub .lss aq (Uv 1) fun ar=>hU ar (e (U1,()) a) (UA 2 b fun au=>Ul au a fun av=>Ub .gtr av (Uv 65535) fun aw=>hU aw (e (U1,()) a) (UA 0 b fun ax=>Ul ax a fun ay=>Ub .lss ay (Uv 1) fun az=>hU az (e (U1,()) a) (UA 0 b fun aA=>Ul aA a fun aB=>Ub .gtr aB (Uv 1048576) fun aC=>e (aC,()) a))))))
def sh141:Prop:=Ub .geq v0 (Uv 0) fun a=>hU a (Ub .sub (Uv 1024) v1 fun b=>Ub .leq v0 b fun c=>R c H) (R U0 H)
def sh135:Prop:=kT 65 v0 H fun b c=>Uf 141 #[v1,(Uv 2)] c fun d a=>Uu d fun e=>hU e (R (.int .u16 0) a) (Uk 1024 1 b v1 fun f=>Ul f a fun g=>Pu (Ze (some (.int .u8)) (some (.int .u16)) g) fun h=>Ub .add v1 (Uv 1) fun i=>Uk 1024 1 b i fun j=>Ul j a fun k=>Pu (Ze (some (.int .u8)) (some (.int .u16)) k) fun l=>Pu (z8 (some (.int .u16)) .shl l (.int .u64 8)) fun m=>Pu (z8 (some (.int .u16)) .or h m) fun n=>R n a)
def sh136:Prop:=kT 65 v0 H fun b c=>Uf 141 #[v1,(Uv 4)] c fun d a=>Uu d fun e=>hU e (R (.int .u32 0) a) (Uk 1024 1 b v1 fun f=>Ul f a fun g=>Pu (Ze (some (.int .u8)) (some (.int .u32)) g) fun h=>Ub .add v1 (Uv 1) fun i=>Uk 1024 1 b i fun j=>Ul j a fun k=>Pu (Ze (some (.int .u8)) (some (.int .u32)) k) fun l=>Pu (z8 (some (.int .u32)) .shl l (.int .u64 8)) fun m=>Pu (z8 (some (.int .u32)) .or h m) fun n=>Ub .add v1 (Uv 2) fun o=>Uk 1024 1 b o fun p=>Ul p a fun q=>Pu (Ze (some (.int .u8)) (some (.int .u32)) q) fun r=>Pu (z8 (some (.int .u32)) .shl r (.int .u64 16)) fun s=>Pu (z8 (some (.int .u32)) .or n s) fun t=>Ub .add v1 (Uv 3) fun u=>Uk 1024 1 b u fun v=>Ul v a fun w=>Pu (Ze (some (.int .u8)) (some (.int .u32)) w) fun x=>Pu (z8 (some (.int .u32)) .shl x (.int .u64 24)) fun y=>Pu (z8 (some (.int .u32)) .or t y) fun z=>R z a)
def sh139:Prop:=kT 62 v0 H fun b c=>UA 0 b fun f=>UL 3 f c fun g=>Uf 128 #[g] c fun d h=>Ux d 0 fun i=>Ux d 1 fun j=>Uz 62 h fun e k=>Us 9 e i k fun a=>Ub .eql j (Uv 0) fun l=>hU l (UL 9 e a fun m=>UL 9 b a fun n=>Pu (ya TP 62 false .eql m n a) fun o=>R o a) (R U0 a)
def sh140:Prop:=kT 62 v0 H fun d e=>Ug 29 v1 fun k=>UA 0 d fun l=>UA 1 l fun m=>Ul m e fun o=>Ub .sub o (Uv 1) fun p=>Ub .gtr k p fun q=>hU q (R U0 e) (oY e fun h r=>Ug 29 v1 fun s=>Uo (n:=1) ((Uv 0),()) r (fun t f b=>Ub .lss f.1 s fun u=>hU u (Ui 1 v1 f.1 fun v=>Ul v b fun c=>Pu (yf TP (some (3,.int .i64,165)) true h c b) fun i=>Ux i 0 fun w=>Ux i 1 fun x=>Uz 165 b fun y z=>Us 0 y w z fun a=>Uj (n:=1) (fun A j=>hU A.1 (R U0 j) (Pu (zo TP 165 []) fun B=>Pu (yM (some (3,.int .i64,165)) h c B j) fun C=>Ub .add f.1 (Uv 1) fun D=>t (D,()) C)) (fun g=>hU x (g (U1,()) a) (UA 0 d fun E=>UA 1 E fun F=>Ul F a fun G=>Ub .add (Uv 1) G fun I=>Ub .lss c I fun J=>hU J (g (U1,()) a) (UA 0 d fun K=>UA 0 K fun L=>Ul L a fun M=>Ub .geq c M fun N=>g (N,()) a)))) (R U1 b)))
def sh130:Prop:=kT 62 v0 H fun e x=>kT 65 v1 x fun i y=>Uz 151 y fun a j=>UL 9 e j fun z=>Uf 139 #[z] j fun A f=>Uu A fun B=>hU B (Pu (zo TP 151 []) fun C=>Us 1 a C f fun k=>UL 1 a k fun D=>R (.tuple #[D,(Uv 2)]) k) (UL 1024 i f fun E=>Uf 136 #[E,(Uv 0)] f fun l g=>Pu (Ze (some (.int .u32)) (some (.int .i64)) l) fun F=>UA 0 e fun G=>UA 1 G fun I=>Ul I g fun J=>Ub .sub J (Uv 1) fun K=>Ub .gtr F K fun L=>hU L (Pu (zo TP 151 []) fun M=>Us 1 a M g fun m=>UL 1 a m fun N=>R (.tuple #[N,(Uv 4)]) m) (Uz 151 g fun c O=>Pu (Ze (some (.int .u32)) (some (.int .i64)) l) fun P=>Uo (n:=1) ((Uv 0),()) O (fun o d b=>Ub .lss d.1 P fun Q=>hU Q (UA 0 c fun p=>UL 1024 i b fun q=>Ub .add d.1 (Uv 1) fun T=>Ub .mul (Uv 4) T fun r=>And (Ul p b fun V=>Uw b fun W=>Uf 136 #[q,r] W fun X Y=>Pu (Ze (some (.int .u32)) (some (.int .i64)) X) fun Z=>Uw Y fun aa=>Pu (zQ TP 29) fun s=>Pu (zT (some s) 1 [(0,Z)]) fun ab=>nK s.type 1 ab aa fun ac ad=>Uw ad fun ae=>mD (zQ TP 29) V ac ae fun af ag=>UA 0 c fun ah=>Uw ag fun ai=>Us 1 ah af ai fun aj=>Uw aj fun ak=>Ub .add d.1 (Uv 1) fun al=>o (al,()) ak) (And (Uw b fun am=>Uf 136 #[q,r] am fun an t=>Ul p t fun ao=>Pu (Ze (some (.int .u32)) (some (.int .i64)) an) fun ap=>Uw t fun aq=>Pu (zQ TP 29) fun u=>Pu (zT (some u) 1 [(0,ap)]) fun ar=>nK u.type 1 ar aq fun au av=>Uw av fun aw=>mD (zQ TP 29) ao au aw fun ax ay=>UA 0 c fun az=>Uw ay fun aA=>Us 1 az ax aA fun aB=>Uw aB fun aC=>Ub .add d.1 (Uv 1) fun aD=>o (aD,()) aC) (True))) (UL 9 e b fun aE=>UA 0 c fun aF=>Ul aF b fun aG=>Uf 140 #[aE,aG] b fun aI h=>Uu aI fun aJ=>hU aJ (Pu (zo TP 151 []) fun aK=>Us 1 a aK h fun v=>UL 1 a v fun aL=>R (.tuple #[aL,(Uv 4)]) v) (UL 1 c h fun aM=>Us 1 a aM h fun w=>UL 1 a w fun aN=>R (.tuple #[aN,(Uv 0)]) w)))))
def sh83:Prop:=kT 62 v1 H fun d t=>Uz 151 t fun b u=>Uf 127 #[v0] u fun v f=>Uu v fun w=>hU w (Pu (zo TP 151 []) fun x=>Us 1 b x f fun h=>UL 1 b h fun y=>R (.tuple #[y,(Uv 1)]) h) (UA 0 d fun z=>UL 3 z f fun A=>Uf 128 #[A] f fun i B=>Ux i 0 fun C=>Ux i 1 fun D=>Uz 62 B fun j E=>Us 9 j C E fun a=>Uj (n:=1) (fun F g=>hU F.1 (Pu (zo TP 151 []) fun G=>Us 1 b G g fun k=>UL 1 b k fun I=>R (.tuple #[I,(Uv 2)]) k) (UA 3 d fun J=>Ul J g fun K=>Uf 46 #[v0,K] g fun l L=>Ux l 0 fun M=>Ux l 1 fun N=>Uz 65 L fun m O=>Us 1024 m M O fun e=>Ub .neq N (Uv 0) fun P=>hU P (Pu (zo TP 151 []) fun Q=>Us 1 b Q e fun o=>UL 1 b o fun T=>R (.tuple #[T,(Uv 3)]) o) (UL 9 d e fun V=>UL 1024 m e fun W=>Uf 130 #[V,W] e fun p X=>Ux p 0 fun Y=>Ux p 1 fun Z=>Us 1 b Y X fun q=>UL 1 b q fun aa=>R (.tuple #[aa,Z]) q))) (fun c=>Ub .neq D (Uv 0) fun ab=>hU ab (And (Uw a fun ac=>c (U1,()) ac) (And (Uw a fun ad=>c (U1,()) ad) (True))) (UL 9 j a fun ae=>UL 9 d a fun af=>Pu (ya TP 62 false .neq ae af a) fun ag=>hU ag (And (Uw a fun ah=>c (U1,()) ah) (And (Uw a fun ai=>c (U1,()) ai) (True))) (UA 0 d fun aj=>UA 0 aj fun r=>And (Ul r a fun ak=>Uw a fun al=>Uf 129 #[v0] al fun am an=>Ub .gtr ak am fun ao=>Uw an fun ap=>c (ao,()) ap) (And (Uw a fun aq=>Uf 129 #[v0] aq fun ar s=>Ul r s fun au=>Ub .gtr au ar fun av=>Uw s fun aw=>c (av,()) aw) (True))))))
def sh31:Prop:=kT 62 v1 H fun a f=>UL 9 a f fun p=>Uf 83 #[v0,p] f fun g q=>Ux g 0 fun r=>Ux g 1 fun h=>Uz 151 q fun i s=>Us 1 i r s fun c=>Ub .neq h (Uv 0) fun t=>hU t (R (.tuple #[(.pointer none),h]) c) (UA 0 i fun u=>Ul u c fun v=>Ug 29 v fun w=>Ub .gtr w (Uv 0) fun x=>hU x (R (.tuple #[(.pointer none),(Uv 4)]) c) (UA 0 a fun y=>UA 1 y fun z=>Ul z c fun A=>Ub .add A (Uv 32) fun B=>Uf 84 #[v0,B] c fun j b=>Ux j 0 fun d=>Ux j 1 fun k=>Ub .neq k (Uv 0) fun C=>hU C (R (.tuple #[(.pointer none),k]) b) (And (UL 9 a b fun l=>And (Uw b fun D=>oY D fun E F=>Pu (zo TP 97 [(1,E)]) fun G=>Uw F fun I=>Uf 85 #[v0] I fun J K=>Pu (zo TP 100 [(1,v0),(2,d),(3,l),(4,J),(0,G)]) fun L=>Uw K fun M=>kT 100 L M fun N O=>Uw O fun P=>R (.tuple #[N,(Uv 0)]) P) (And (Uw b fun Q=>Uf 85 #[v0] Q fun T V=>Uw V fun W=>oY W fun X Y=>Pu (zo TP 97 [(1,X)]) fun Z=>Pu (zo TP 100 [(1,v0),(2,d),(3,l),(4,T),(0,Z)]) fun aa=>Uw Y fun ab=>kT 100 aa ab fun ac ad=>Uw ad fun ae=>R (.tuple #[ac,(Uv 0)]) ae) (True))) (And (Uw b fun af=>oY af fun ag e=>Pu (zo TP 97 [(1,ag)]) fun m=>And (UL 9 a e fun ah=>Uw e fun ai=>Uf 85 #[v0] ai fun aj ak=>Pu (zo TP 100 [(1,v0),(2,d),(3,ah),(4,aj),(0,m)]) fun al=>Uw ak fun am=>kT 100 al am fun an ao=>Uw ao fun ap=>R (.tuple #[an,(Uv 0)]) ap) (And (Uw e fun aq=>Uf 85 #[v0] aq fun ar n=>UL 9 a n fun au=>Pu (zo TP 100 [(1,v0),(2,d),(3,au),(4,ar),(0,m)]) fun av=>Uw n fun aw=>kT 100 av aw fun ax ay=>Uw ay fun az=>R (.tuple #[ax,(Uv 0)]) az) (True))) (And (Uw b fun aA=>Uf 85 #[v0] aA fun aB o=>UL 9 a o fun aC=>Uw o fun aD=>oY aD fun aE aF=>Pu (zo TP 97 [(1,aE)]) fun aG=>Pu (zo TP 100 [(1,v0),(2,d),(3,aC),(4,aB),(0,aG)]) fun aI=>Uw aF fun aJ=>kT 100 aI aJ fun aK aL=>Uw aL fun aM=>R (.tuple #[aK,(Uv 0)]) aM) (True))))))
def sh36:Prop:=Uj (n:=1) (fun d a=>hU d.1 (R (Uv 1) a) (UI v0 fun e=>UA 2 e fun f=>Ul f a fun g=>UI v0 fun h=>UA 13 h fun i=>Ul i a fun j=>Uf 92 #[g,j] a fun k b=>Uu k fun l=>hU l (R (Uv 3) b) (R (Uv 0) b))) (fun c=>Pu (ya TP 38 true .eql v0 (.pointer none) H) fun m=>hU m (c (U1,()) H) (UI v0 fun o=>UA 2 o fun p=>Ul p H fun q=>Pu (ya TP 37 true .eql q (.pointer none) H) fun r=>c (r,()) H))
def sh45:Prop:=UI v0 fun a=>UA 4 a fun b=>UA 3 b fun c=>Ul c H fun d=>Ub .geq v1 d fun e=>hU e (UI v0 fun f=>UA 4 f fun g=>UA 3 g fun h=>Ul h H fun i=>UI v0 fun j=>UA 4 j fun k=>UA 0 k fun l=>UA 1 l fun m=>Ul m H fun n=>Ub .add i n fun o=>Ub .lss v1 o fun p=>R p H) (R U0 H)
def sh18:Prop:=Uz 65 H fun a m=>Uf 36 #[v0] m fun d b=>Ub .neq d (Uv 0) fun o=>hU o (Pu (zo TP 65 []) fun p=>Us 1024 a p b fun e=>UL 1024 a e fun q=>R (.tuple #[q,d]) e) (Uj (n:=1) (fun r f=>hU r.1 (Pu (zo TP 65 []) fun s=>Us 1024 a s f fun g=>UL 1024 a g fun t=>R (.tuple #[t,(Uv 2)]) g) (Uf 45 #[v0,v1] f fun u c=>hU u (UI v0 fun v=>UA 2 v fun w=>Ul w c fun x=>Uf 46 #[x,v1] c fun h y=>Ux h 0 fun z=>Ux h 1 fun A=>Us 1024 a z y fun i=>UL 1024 a i fun B=>R (.tuple #[B,A]) i) (UI v0 fun C=>UA 3 C fun D=>Ul D c fun E=>Uf 47 #[E,v1] c fun j F=>Ux j 0 fun G=>Ux j 1 fun I=>Us 1024 a G F fun k=>UL 1024 a k fun J=>R (.tuple #[J,I]) k))) (fun l=>Ub .lss v1 (Uv 0) fun K=>hU K (l (U1,()) b) (UI v0 fun L=>UA 4 L fun M=>UA 0 M fun N=>UA 0 N fun O=>Ul O b fun P=>Ub .geq v1 P fun Q=>l (Q,()) b)))
end
variable{v0 v1 v2 v3 v4 v5 v6 v7 v8:Value}{H:Hp}{R:Value->Hp->Prop}
theorem fn85(h:sh85 v0 H R):Fc TP 85 #[v0] H R:=
 mU UQ .nil Tryz.func85 h
theorem fn92(h:sh92 v0 v1 H R):Fc TP 92 #[v0,v1] H R:=
 mr UQ .nil Tryz.func92 h
theorem fn127(h:sh127 v0 H R):Fc TP 127 #[v0] H R:=
 mU UQ .nil Tryz.func127 h
theorem fn128(h:sh128 v0 H R):Fc TP 128 #[v0] H R:=
 mU UQ (.seq .nil (.seq (.join [32] (Ur 5 27) .nil .nil) .nil)) Tryz.func128 h
theorem fn141(h:sh141 v0 v1 H R):Fc TP 141 #[v0,v1] H R:=
 mr UQ .nil Tryz.func141 h
theorem fn135(h:sh135 v0 v1 H R):Fc TP 135 #[v0,v1] H R:=
 mr UQ .nil Tryz.func135 h
theorem fn136(h:sh136 v0 v1 H R):Fc TP 136 #[v0,v1] H R:=
 mr UQ .nil Tryz.func136 h
theorem fn139(h:sh139 v0 H R):Fc TP 139 #[v0] H R:=
 mU UQ .nil Tryz.func139 h
theorem fn140(h:sh140 v0 v1 H R):Fc TP 140 #[v0,v1] H R:=
 mr UQ (.seq .nil (.seq .nil (.seq .nil (.seq (.seq .nil (.loop [20] ([21,22,23,7,25,26,27,24,28,29,8,9]++Ur 30 16++[4]++Ur 46 4) (.seq .nil (.seq .nil (.seq (.seq .nil (.seq (.seq .nil (.join [45] (Ur 30 15) .nil .nil)) .nil)) .nil))))) .nil)))) Tryz.func140 h
theorem fn130(h:sh130 v0 v1 H R):Fc TP 130 #[v0,v1] H R:=
 ZM UQ [(10,(.fork [0,2,3,4,5] (.cons 1 (.line (Ur 6 6)) (.cons 6 (.line ([1]++Ur 7 5)) .nil))))] (.seq .nil (.seq .nil (.seq .nil (.seq .nil (.seq .nil (.seq (.seq .nil (.loop [25] ([26,27,8]++Ur 28 12) .nil)) .nil)))))) Tryz.func130 (args:=[v0,v1]) (UE (by kernel_rfl) h)
theorem fn83(h:sh83 v0 v1 H R):Fc TP 83 #[v0,v1] H R:=
 ZM UQ [(4,(.fork (Ur 0 10++[11]) (.cons 10 (.line [12,13,14]) (.cons 12 (.line [10,13,14]) .nil))))] (.seq .nil (.seq .nil (.seq (.seq .nil (.join [34] (Ur 20 14) .nil .nil)) .nil))) Tryz.func83 (args:=[v0,v1]) (UE (by kernel_rfl) h)
theorem fn31(h:sh31 v0 v1 H R):Fc TP 31 #[v0,v1] H R:=
 ZM UQ [(9,(.fork [0,1,3] (.cons 2 (.fork [] (.cons 5 (.line [6,4,7,8,9,10]) (.cons 4 (.line (Ur 5 6)) .nil))) (.cons 5 (.fork [6] (.cons 2 (.line [4,7,8,9,10]) (.cons 4 (.line [2,7,8,9,10]) .nil))) (.cons 4 (.line ([2]++Ur 5 6)) .nil)))))] .nil Tryz.func31 (args:=[v0,v1]) (UE (by kernel_rfl) h)
theorem fn36(h:sh36 v0 H R):Fc TP 36 #[v0] H R:=
 mU UQ (.seq .nil (.seq (.join [11] (Ur 3 8) .nil .nil) .nil)) Tryz.func36 h
theorem fn45(h:sh45 v0 v1 H R):Fc TP 45 #[v0,v1] H R:=
 mr UQ .nil Tryz.func45 h
theorem fn18(h:sh18 v0 v1 H R):Fc TP 18 #[v0,v1] H R:=
 mr UQ (.seq .nil (.seq .nil (.seq (.join [24] (Ur 13 11) .nil .nil) .nil))) Tryz.func18 h
end Go.Proofs
namespace Go.Vc
open Go.Proofs
abbrev zg(n:Int):Value:=.int .i64 n
structure kh where
 B:Int
 L:Int
 I:Int
 logAt:Int
 nodeAt:Int
 kO:Int
 lM:Int
 lF:Int
 kb:Int
def kh.cells(x:kh):Array Value:=#[zg x.B,zg x.L,zg x.I,zg x.logAt,zg x.nodeAt,zg x.kO,zg x.lM,zg x.lF,zg x.kb]
def zf(B L I:Int):kh:=⟨B,L,I,1,1+L,(I+16) / 16,1+L+(I+16) / 16,(B+8191) / 8192,1+L+(I+16) / 16+(B+8191) / 8192⟩
def Zy(B L I:Int):Prop:=32<=L/\L<=256/\1<=I/\I<=65535/\1<=B/\B<=1048576/\(zf B L I).kb<B
def vQ:Array Value:=#[zg 0,zg 0,zg 0,zg 0,zg 0,zg 0,zg 0,zg 0,zg 0]
theorem yq:ZZ TP 62=some (.agg vQ):=by kernel_rfl
theorem tC:zo TP 62 []=some (.agg vQ):=by kernel_rfl
theorem Fk(B L I n:Int):zo TP 62 [(0,.agg #[zg B,zg L,zg I]),(1,zg 1),(2,zg n)]=some (.agg #[zg B,zg L,zg I,zg 1,zg n,zg 0,zg 0,zg 0,zg 0]):=by kernel_rfl
theorem LF(a b c d e f g h i:Int):((#[zg a,zg b,zg c,zg d,zg e,zg f,zg g,zg h,zg i]:Array Value).all fun v=>v.oneCell')=true:=by rw[<- iV];rfl
theorem kh.ok(x:kh):(x.cells.all fun v=>v.oneCell')=true:=LF ..
section
variable{H:Hp}{R:Value->Hp->Prop}
theorem Hv{B L I:Int}(hB : -9223372036854775808<=B/\B<=9223372036854775807)(k:∀ H',Ext H H'->Zy B L I->R (.tuple #[.agg (zf B L I).cells,.int .i64 0]) H')(k2:∀ H',Ext H H'->¬ Zy B L I->R (.tuple #[.agg vQ,.int .i64 2]) H') :
   Fc TP 128 #[.agg #[zg B,zg L,zg I]] H R:=by
 refine fn128 ?_
 simp only[sh128,Ul,UL,UA,Us,Ub,Uz,Uj,Uv,U1,yq,za,zm]
 refine Z9 fun b1 H1 SA e1 s1 g1=>?_
 refine Z9 fun b2 H2 qO e2 s2 g2=>?_
 simp only[zI]at g1 g2
 have g1':=e2.at g1
 have e02:=e1.trans e2
 have bad:∀ H',Ext H2 H'->¬ Zy B L I->Pu (zo TP 62 []) fun x6=>Pu (zY (some 9) (.pointer (some ⟨b2,0,none⟩)) x6 H') fun H4=>Pu (zX (some (some 9)) (.pointer (some ⟨b2,0,none⟩)) H4) fun x7=>R (.tuple #[x7,.int .i64 2]) H4:=fun H' hx kG=>by
   simp only[tC,za]
   refine Zc (hx.at g2) rfl rfl (LF ..) fun H4 k4 s4 g4=>?_
   simp only[zV g4 (show vQ.size=9 from rfl),za]
   exact k2 H4 ((e02.trans hx).Kz k4 (by omega)) kG
 refine Zg.mk (fun x H'=>H'=H2/\x.1=.bool (decide (¬ (32<=L/\L<=256/\1<=I/\I<=65535/\1<=B/\B<=1048576)))) ?_ ?_
 · rintro⟨x,u⟩ H3 ⟨rfl,hx⟩
   simp only at hx
   subst hx
   simp only[zb]
   refine⟨fun kG=>bad _ (Ext.refl _) fun h=>kG ⟨h.1,h.2.1,h.2.2.1,h.2.2.2.1,h.2.2.2.2.1,h.2.2.2.2.2.1⟩,fun pf=>?_⟩
   have pf:=jh.1 pf
   obtain⟨y1,y2,y3,y4,y5,y6⟩:=pf
   simp only[zc,aR,za,zV g1' (show(#[zg B,zg L,zg I]:Array Value).size=3 from rfl),zi g1',fR,dU,gH,ze]
   rw[zd (x:=1+L) (by omega) (by omega),Fk,za]
   refine Z9 fun b5 H5 hb5 e5 s5 g5=>?_
   simp only[zI]at g5
   refine Zc g5 rfl rfl (LF ..) fun H6 k6 s6 g6=>?_
   have e36:Ext H3 H6:=e5.Kz k6 (by omega)
   have Ut:=e36.at g1'
   have d1:(I+16).tdiv 16=(I+16) / 16:=Zx (by omega)
   have d2:(B+8192 - 1).tdiv 8192=(B+8191) / 8192:=by rw[Zx (by omega)];congr 1;omega
   simp only[zc,aR,za,zi Ut,fR,dU,gH,za,ze]
   rw[zd (x:=I+16) (by omega) (by omega),Zp (show(16:Int)≠0 by decide),za,d1,zd (by omega) (by omega)]
   refine ZQ (i:=5) (v:=zg ((I+16) / 16)) g6 (by simp) rfl rfl fun H7 k7 s7 g7=>?_
   simp only[lr,na,mZ]at g7
   simp only[zc,aR,za,zi g7,fR,dU,gH,za,ze]
   rw[zd (x:=1+L+(I+16) / 16) (by omega) (by omega)]
   refine ZQ (i:=6) (v:=zg (1+L+(I+16) / 16)) g7 (by simp) rfl rfl fun H8 k8 s8 g8=>?_
   simp only[lr,na,mZ]at g8
   have k68:Kp (·=b5) H6 H8:=k7.trans k8
   have g18:=k68.at Ut (by omega)
   simp only[zc,aR,za,zi g18,fR,dU,gH,za,ze,zP]
   rw[zd (x:=B+8192) (by omega) (by omega),zd (x:=B+8192 - 1) (by omega) (by omega),Zp (show(8192:Int)≠0 by decide),za,d2,zd (by omega) (by omega)]
   refine ZQ (i:=7) (v:=zg ((B+8191) / 8192)) g8 (by simp) rfl rfl fun H9 k9 s9 g9=>?_
   simp only[lr,na,mZ]at g9
   simp only[zc,aR,za,zi g9,fR,dU,gH,za,ze]
   rw[zd (x:=1+L+(I+16) / 16+(B+8191) / 8192) (by omega) (by omega)]
   refine ZQ (i:=8) (v:=zg (1+L+(I+16) / 16+(B+8191) / 8192)) g9 (by simp) rfl rfl fun mX N6 Vr SK=>?_
   simp only[lr,na,mZ]at SK
   have W3:Ext H3 mX:=((e36.Kz (k7.trans k8) (by omega)).Kz k9 (by omega)).Kz N6 (by omega)
   have adq:=W3.at g1'
   simp only[zc,aR,za,zi SK,zi adq,fR,dU,gH,za,zN,zb]
   refine⟨fun lA=>bad _ W3 fun h=>by have:=h.2.2.2.2.2.2;simp only[zf]at this;omega,fun kc=>?_⟩
   simp only[zV SK (show(#[zg B,zg L,zg I,zg 1,zg (1+L),zg ((I+16) / 16),zg (1+L+(I+16) / 16),zg ((B+8191) / 8192),zg (1+L+(I+16) / 16+(B+8191) / 8192)]:Array Value).size=9 from rfl),za]
   refine Zc (W3.at g2) rfl rfl (LF ..) fun mN PJ Dy SJ=>?_
   simp only[zV SJ (show(#[zg B,zg L,zg I,zg 1,zg (1+L),zg ((I+16) / 16),zg (1+L+(I+16) / 16),zg ((B+8191) / 8192),zg (1+L+(I+16) / 16+(B+8191) / 8192)]:Array Value).size=9 from rfl),za]
   exact k mN ((e02.trans W3).Kz PJ (by omega)) ⟨y1,y2,y3,y4,y5,y6,by simp only[zf];omega⟩
 · simp only[zc,aR,za,zi g1',fR,dU,gH,zk,zJ,zb]
   refine⟨fun h=>⟨trivial,?_⟩,fun h1=>⟨fun h=>⟨trivial,?_⟩,fun h2=>⟨fun h=>⟨trivial,?_⟩,fun h3=>⟨fun h=>⟨trivial,?_⟩,fun h4=>⟨fun h=>⟨trivial,?_⟩,fun h5=>⟨trivial,?_⟩⟩⟩⟩⟩⟩
   all_goals (congr 1;simp only[kr,eq_iff_iff,true_iff,iS,Bool.true_eq,eq_comm (a:=true)];omega)
end
section
variable{H:Hp}{R:Value->Hp->Prop}
theorem p0{a n:Int}(hn:0<=n/\n<=1024)(h:R (.bool (decide (0<=a/\a<=1024 - n))) H):Fc TP 141 #[.int .i64 a,.int .i64 n] H R:=by
 refine fn141 ?_;simp only[sh141,Ub,Uv,U0,zN,za,zb];refine⟨fun h1=>?_,fun h1=>?_⟩
 ·rw[zP,za,zd (by omega) (by omega),yp,za];have e:decide (a<=1024 - n)=decide (0<=a/\a<=1024 - n):=by rw[kr];omega
  rw[e];exact h
 ·have e:false=decide (0<=a/\a<=1024 - n):=by symm;rw[jq];omega
  rw[e];exact h
theorem BD{j:Nat}(h:j<1024):zB[j]?=some (.int .u8 0):=by
 unfold zB;rw[kX,aU h]
theorem Qg{a:Int}(h0:0<=a)(h1:a<=1020)(h:∀ H',Ext H H'->R (.int .u32 0) H'):Fc TP 136 #[.agg zB,.int .i64 a] H R:=by
 refine fn136 ?_;simp only[sh136,Ul,Ub,Uf,Uk,Uu,Uv];refine Z9 fun b H1 hb e1 s1 g1=>?_;simp only[zI]at g1;refine p0 (by omega) ?_;have ed:decide (0<=a/\a<=1024 - 4)=true:=by rw[iS];omega
 rw[ed];have ld:∀ j:Nat,j<1024->zX (some none) (.pointer (some ⟨b,0+j*1,none⟩)) H1=some (.int .u8 0):=fun j hj=>by
  rw[zi g1,aR,iX,BD hj]
 simp only[zx,iW,za,zh];rw[wE h0 (by omega),za,ld _ (by omega),za];simp only[zz,za,ze];rw[zd (x:=a+1) (by omega) (by omega),wE (by omega) (by omega),za,ld _ (by omega),za];simp only[zz,za,ze];rw[zd (x:=a+2) (by omega) (by omega),zd (x:=a+3) (by omega) (by omega)];rw[wE (j:=a+2) (by omega) (by omega),wE (j:=a+3) (by omega) (by omega)];simp only[za];rw[ld (a+2).toNat (by omega),ld (a+3).toNat (by omega)];have w0:IntKind.u32.wrap 0=0:=by decide
 have sh:∀ n:Int,0<=n->z8 (some (.int .u32)) .shl (.int .u32 0) (.int .u64 n)=some (.int .u32 0):=fun n hn=>by rw[Dq hn,Int.zero_mul,w0]
 have or0:z8 (some (.int .u32)) .or (.int .u32 0) (.int .u32 0)=some (.int .u32 0):=by rw[GJ,show tD .or .u32 0 0=0 from by decide]
 simp only[za,zz,w0,sh 8 (by decide),sh 16 (by decide),sh 24 (by decide),or0];exact h H1 e1
theorem kh.size(x:kh):x.cells.size=9:=rfl
theorem ahu(a b c d e f g h i a' b' c' d' e' f' g' h' i':Int)(H:Hp):CZ TP 62 false (.agg (kh.cells ⟨a,b,c,d,e,f,g,h,i⟩)) (.agg (kh.cells ⟨a',b',c',d',e',f',g',h',i'⟩)) H =
 Y5 (fun x=>x) [Y5 (fun x=>x) [some (decide (a=a')),some (decide (b=b')),some (decide (c=c'))],some (decide (d=d')),some (decide (e=e')),some (decide (f=f')),some (decide (g=g')),some (decide (h=h')),some (decide (i=i'))]:=by kernel_rfl
theorem vA(x:kh)(H:Hp):CZ TP 62 false (.agg x.cells) (.agg x.cells) H=some true:=by
 obtain⟨a,b,c,d,e,f,g,h,i⟩:=x;rw[ahu];simp[Y5]
theorem M5{B L I:Int}(hB : -9223372036854775808<=B/\B<=9223372036854775807)(hg:Zy B L I)(h:∀ H',Ext H H'->R (.bool true) H'):Fc TP 139 #[.agg (zf B L I).cells] H R:=by
 refine fn139 ?_;simp only[sh139,UL,UA,Us,Ub,Uz,Ux,Uf,Uv,U0,yq,za];refine Z9 fun b H1 hb e1 s1 g1=>?_;simp only[zI]at g1;simp only[zc,aR,za];rw[Za g1 (show 0+3<=(zf B L I).cells.size from by rw[kh.size];decide),za];rw[show((zf B L I).cells.extract 0 (0+3))=#[zg B,zg L,zg I] from by simp[kh.cells,zf]];refine Hv hB (fun H2 e2 _=>?_) (fun H2 e2 kG=>absurd hg kG);simp only[zq,fR,dU,gH,za];refine Z9 fun b3 H3 hb3 e3 s3 g3=>?_;simp only[zI]at g3;refine Zc g3 rfl rfl (kh.ok _) fun H4 k4 s4 g4=>?_;have Nf:Ext H1 H4:=(e2.trans e3).Kz k4 (by have:=e2.le;omega);simp only[zp,za,decide_true,zA];rw[zV g4 (kh.size _),za,zV (Nf.at g1) (kh.size _),za,YX,vA,iR,za];exact h H4 (e1.trans Nf)
theorem VW{x:kh}(hL:1<=x.L/\x.L<=9223372036854775807)(h:∀ H',Ext H H'->R (.bool true) H'):Fc TP 140 #[.agg x.cells,.slice none 0 0] H R:=by
 refine fn140 ?_;simp only[sh140,Ul,UA,Us,Ub,Uz,Ux,Ui,Ug,Uj,Uo,Uv,U1,U0];refine Z9 fun b H1 hb e1 s1 g1=>?_;simp only[zI]at g1;have hl:j9 TP 29 (.slice none 0 0)=some (.int .i64 0):=by kernel_rfl
 simp only[hl,zc,aR,za,zi g1];rw[show x.cells[1]?=some (zg x.L) from rfl,za,zP,za,zd (by omega) (by omega),zJ,za,zb];refine⟨fun hh=>by omega,fun _=>?_⟩;refine yL fun m H2 hm e2 s2 g2=>?_;refine zF.mk (fun t H'=>t.1=.int .i64 0/\H'=H2) (fun t _=>0) ⟨rfl,rfl⟩ ?_;rintro⟨t,u⟩ H3 ⟨ht,rfl⟩;simp only at ht;subst ht;simp only[zm,zk,za,show decide ((0:Int)<0)=false from rfl,zh];exact h H3 (e1.trans e2)
def Dx:Array Value:=#[.slice none 0 0]
theorem oN:ZZ TP 151=some (.agg Dx):=by kernel_rfl
theorem Xm:zo TP 151 []=some (.agg Dx):=by kernel_rfl
theorem Jf{B L I:Int}(hB : -9223372036854775808<=B/\B<=9223372036854775807)(hg:Zy B L I)(h:∀ H',Ext H H'->R (.tuple #[.agg Dx,.int .i64 0]) H'):Fc TP 130 #[.agg (zf B L I).cells,.agg zB] H R:=by
 refine fn130 ?_;simp only[sh130,Ul,UL,UA,Us,Ub,Uz,Uf,Uw,Uu,Uo,Uv,oN,za];refine Z9 fun b1 H1 SA e1 s1 g1=>?_;refine Z9 fun b2 H2 qO e2 s2 g2=>?_;refine Z9 fun b3 H3 hb3 e3 s3 g3=>?_;simp only[zI]at g1 g2 g3;have g1':=(e2.trans e3).at g1;rw[zV g1' (kh.size _),za];refine M5 hB hg fun H4 e4=>?_;simp only[zx,iW,za,zh];rw[zV ((e3.trans e4).at g2) zw,za];refine Qg (by decide) (by decide) fun H5 e5=>?_;have JE:=(e2.trans e3).trans (e4.trans e5);have hL:=hg.1;have hL2:=hg.2.1;simp only[zz,zc,aR,za,zi (JE.at g1)];rw[show(zf B L I).cells[1]?=some (zg L) from rfl,za,zP,za,zd (x:=0) (by omega) (by omega),zd (x:=L - 1) (by omega) (by omega),zJ,za,zb];refine⟨fun hh=>by omega,fun _=>?_⟩;refine Z9 fun b6 H6 hb6 e6 s6 g6=>?_;simp only[zI]at g6;refine zF.mk (fun t H'=>t.1=.int .i64 0/\H'=H6) (fun t _=>0) ⟨rfl,rfl⟩ ?_;rintro⟨t,u⟩ H7 ⟨ht,rfl⟩;simp only at ht;subst ht;simp only[zm,zk,za,show decide ((0:Int)<0)=false from rfl,zh];rw[zV ((JE.trans e6).at g1) (kh.size _),za];simp only[zc,aR,za,zi g6,Dx,fR,dU];refine VW (show 1<=L/\L<=9223372036854775807 by omega) fun H8 e8=>?_;simp only[zx,iW,za,zh];rw[zV (e8.at g6) (show Dx.size=1 from rfl),za];have e38:Ext H3 H8:=(e4.trans e5).trans (e6.trans e8);refine Zc (e38.at g3) rfl rfl (by rw[<- iV];rfl) fun H9 k9 s9 g9=>?_;rw[zV g9 (show Dx.size=1 from rfl),za];exact h H9 (((e1.trans (e2.trans e3)).trans e38).Kz k9 (by omega))
end
end Go.Vc
