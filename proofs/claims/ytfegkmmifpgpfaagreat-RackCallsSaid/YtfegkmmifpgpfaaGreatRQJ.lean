/- Parts of a proof, joined in build order: a calculus of contracts, contracts of functions. -/
import Derived.Test.YtfegkmmifpgpfaaGreatRQI
import Derived.Test.YtfegkmmifpgpfaaGreatRQF
import Derived.Test.YtfegkmmifpgpfaaGreatRQG
set_option linter.unusedVariables false
set_option linter.unusedSimpArgs false
set_option maxHeartbeats 8000000
set_option maxRecDepth 100000
namespace Go.Vc
open Go.Proofs Classical
structure nw(D:kj)(k:Nat):Prop where
 held:∀ x∈D.held,jR x.2
 wait:∀ x∈D.wait,jR x.2
 sum:D.held.length+D.wait.length<=1048576+k
 ow:D.wait.length<=k
 u1:D.ops.length<=k
 left:D.kF=true->0<=D.left/\D.left<=9223372036854775807
 count:0<=D.count/\D.count<=k
theorem nw.mono{D:kj}{k k':Nat}(h:nw D k)(hk:k<=k'):nw D k':=⟨h.held,h.wait,by have:=h.sum;omega,by have:=h.ow;omega,by have:=h.u1;omega,h.left,by have:=h.count;omega⟩
theorem nw.lets{D:kj}{k:Nat}(h:nw D k):nw D.lets.1 (k+1):=by
 have h0:=h.mono (mC k);have hc:=h.count;unfold kj.lets;split
 ·exact⟨h0.held,h0.wait,h0.sum,h0.ow,h0.u1,h0.left,h0.count⟩
 ·rename_i hn;refine⟨h0.held,h0.wait,h0.sum,h0.ow,h0.u1,fun hf=>?_,by show 0<=D.count+1/\D.count+1<=((k+1:Nat):Int);omega⟩;have hf:D.kF=true:=hf;have:=h.left hf;have jZ:D.left≠0:=fun e=>hn ⟨hf,e⟩;show 0<=(if D.kF=true then D.left - 1 else D.left)/\(if D.kF=true then D.left - 1 else D.left)<=_;rw[aU hf];omega
theorem tT(D:kj):D.lets.1.wait=D.wait/\D.lets.1.ops=D.ops/\D.lets.1.held=D.held:=by unfold kj.lets;split<;>exact⟨rfl,rfl,rfl⟩
theorem nw.write{D:kj}{k:Nat}(h:nw D k)(a:Int){b:jn}(hb:jR b):nw (D.write a b).1 (k+1):=by
 have h0:=h.mono (mC k);have h1:=h.lets;obtain⟨e1,e2,e3⟩:=tT D;unfold kj.write;split
 ·exact h0
 ·split
  ·exact h0
  ·split
   ·exact h1
   ·refine⟨h1.held,fun x hx=>?_,?_,?_,?_,h1.left,h1.count⟩
    ·rcases fH.1 hx with hh | hh
     ·exact h1.wait x hh
     ·rw[eU.1 hh];exact hb
    ·show D.lets.1.held.length+(D.lets.1.wait++[(a,b)]).length<=_;rw[cR,e1,e3];have:=h.sum;simp;omega
    ·show(D.lets.1.wait++[(a,b)]).length<=_;rw[cR,e1];have:=h.ow;simp;omega
    ·show(D.lets.1.ops++[Mt a b]).length<=_;rw[cR,e2];have:=h.u1;simp;omega
theorem Ay:∀ (w g:List (Int × jn)),(yX g w).length<=g.length+w.length
 | [],g=>iU _
 | x :: w,g=>by
  have h1:=Ay w (pw g x.1 x.2);have h2:=EI g x.1 x.2;show(yX (pw g x.1 x.2) w).length<=_;rw[gR];omega
theorem Cu:∀ (w g:List (Int × jn)),(∀ x∈w,jR x.2)->(∀ x∈g,jR x.2)->∀ x∈yX g w,jR x.2
 | [],g,_,hg=>hg
 | x :: w,g,hw,hg=>Cu w _ (fun y hy=>hw y (dH _ hy)) (Ip hg (hw x eH))
theorem nw.ja{D:kj}{k:Nat}(h:nw D k):nw D.ja.1 (k+1):=by
 have h0:=h.mono (mC k);have h1:=h.lets;obtain⟨e1,e2,e3⟩:=tT D;unfold kj.ja;split
 ·exact h0
 ·split
  ·exact h1
  ·refine⟨Cu _ _ h1.wait h1.held,fun x hx=>(by cases hx),?_,mT _,?_,h1.left,h1.count⟩
   ·show(yX D.lets.1.held D.lets.1.wait).length+0<=_;have:=Ay D.lets.1.wait D.lets.1.held;have:=h1.sum;omega
   ·show(D.lets.1.ops++[NW]).length<=_;rw[cR,e2];have:=h.u1;simp;omega
noncomputable def Jh(at0:Int):List (Int × jn)->Nat->kj->kj × Bool
 | [],_,D=>(D,true)
 | x :: l,i,D=>if (D.write (at0+(i:Int)) x.2).2≠0 then((D.write (at0+(i:Int)) x.2).1,false) else Jh at0 l (i+1) (D.write (at0+(i:Int)) x.2).1
noncomputable def sC(D:kj)(a:Int)(c:jn):kj × Bool:=
 if D.ja.2≠0 then(D.ja.1,false) else
 if (D.ja.1.write a c).2≠0 then((D.ja.1.write a c).1,false) else
 ((D.ja.1.write a c).1.ja.1,decide ((D.ja.1.write a c).1.ja.2=0))
noncomputable def Nn:List (Int × jn)->kj->kj × Bool
 | [],D=>(D,true)
 | x :: l,D=>if (D.write x.1 x.2).2≠0 then((D.write x.1 x.2).1,false) else Nn l (D.write x.1 x.2).1
noncomputable def vH(x:kh)(D:kj)(G:mW):kj × mW × Int:=
 let a:=Jh (x.logAt+1) G.group 0 D
 if a.2=false then(a.1,G,3) else
 let b:=sC a.1 x.logAt (if mF x (G.group.map (·.1)) then sZ (G.group.map (·.1)) else zB)
 if b.2=false then(b.1,G,3) else
 let f:=Nn G.group b.1
 if f.2=false then(f.1,G,3) else
 let d:=sC f.1 x.logAt zB
 if d.2=false then(d.1,G,3) else(d.1,{ G with group:=[],me:=G.me+1 },0)
theorem aaE{x:kh}{D a:kj}{G:mW}(h:Jh (x.logAt+1) G.group 0 D=(a,false)):vH x D G=(a,G,3):=by
 unfold vH;simp only[h,jO]
theorem aaD{x:kh}{D a b:kj}{G:mW}(h:Jh (x.logAt+1) G.group 0 D=(a,true))(hb:sC a x.logAt (if mF x (G.group.map (·.1)) then sZ (G.group.map (·.1)) else zB)=(b,false)):vH x D G=(b,G,3):=by
 unfold vH;simp only[h,mj,jD,hb,jO]
theorem aaC{x:kh}{D a b f:kj}{G:mW}(h:Jh (x.logAt+1) G.group 0 D=(a,true))(hb:sC a x.logAt (if mF x (G.group.map (·.1)) then sZ (G.group.map (·.1)) else zB)=(b,true))(hf:Nn G.group b=(f,false)):vH x D G=(f,G,3):=by
 unfold vH;simp only[h,mj,jD,hb,hf,jO]
theorem aaB{x:kh}{D a b f d:kj}{G:mW}(h:Jh (x.logAt+1) G.group 0 D=(a,true))(hb:sC a x.logAt (if mF x (G.group.map (·.1)) then sZ (G.group.map (·.1)) else zB)=(b,true))(hf:Nn G.group b=(f,true))(hd:sC f x.logAt zB=(d,false)):vH x D G=(d,G,3):=by
 unfold vH;simp only[h,mj,jD,hb,hf,hd,jO]
theorem aaA{x:kh}{D a b f d:kj}{G:mW}(h:Jh (x.logAt+1) G.group 0 D=(a,true))(hb:sC a x.logAt (if mF x (G.group.map (·.1)) then sZ (G.group.map (·.1)) else zB)=(b,true))(hf:Nn G.group b=(f,true))(hd:sC f x.logAt zB=(d,true)):vH x D G=(d,{ G with group:=[],me:=G.me+1 },0):=by
 unfold vH;simp only[h,mj,jD,hb,hf,hd]
theorem FE:TP.underlying 126=some (.slice 161):=by kernel_rfl
theorem QT(r:Nat)(x:kh)(G:mW)(gv tv:Value):(yx r x G gv tv).extract 1 (1+9)=x.cells:=by simp[yx,kh.cells]
section
variable{H:Hp}{R:Value->Hp->Prop}{w r:Nat}{D:kj}{G:mW}{O:Nat->Prop}{B L I:Int}
theorem Da(hB : -9223372036854775808<=B/\B<=9223372036854775807)(hg:Zy B L I)(h:(ZN w r D (zf B L I) G).at_ H O){kf:Nat}(ob:nw D kf)(Sc:kf<900000000)(hgi:∀ x∈G.group,jR x.2)(GU:G.group.length<=100000)(hco : -9223372036854775808<=G.me/\G.me<9223372036854775807)
   (k:∀ H' O',kS O O' H H'->(ZN w r (vH (zf B L I) D G).1 (zf B L I) (vH (zf B L I) D G).2.1).at_ H' O'->R (.int .i64 (vH (zf B L I) D G).2.2) H'):Fc TP 107 #[zD w] H R:=by
 have MY:(zf B L I).logAt=1:=rfl
 have y3:∀ {a b:Value},zq (.tuple #[a,b]) 0=some a:=rfl
 have y4:∀ {a b:Value},zq (.tuple #[a,b]) 1=some b:=rfl
 obtain⟨gv,tv,ha⟩:=h
 have l0:Lo O H H [Zd r D,.box w (yx r (zf B L I) G gv tv) 128,.sl 161 1025 gv (G.group.map zy),.sl 3 1 tv (G.wrote.map nI)]:=Lo.open ha
 have g0:(yx r (zf B L I) G gv tv)[0]?=some (zD r):=rfl
 have g4:(yx r (zf B L I) G gv tv)[4]?=some (zg 1):=rfl
 have KR:(yx r (zf B L I) G gv tv)[12]?=some gv:=rfl
 have Ut:∀ {gv:Value},(yx r (zf B L I) { G with group:=[] } gv tv)[16]?=some (zg G.me):=rfl
 have b0:∀ {v:Value},(#[v]:Array Value)[0]?=some v:=rfl
 refine fn107 ?_
 simp only[sh107,Ul,UL,UA,Us,Ub,Uz,Ux,UI,Uf,Uw,Ui,Ug,Uj,Uo,Uv,U1,oN,ZI,Bu,zm,zl,zc,aR,bH,Nat.reduceAdd,za]
 rw[l0.ld (i:=1) rfl,KR,za,(l0.sv (i:=2) rfl).sr.j9 FE,za,bR]
 refine l0.jc fun b1 H1 _ l1=>?_
 have l1:=l1.nt 3 1
 have leave:∀ {H':Hp} {D':kj} {rest:List Ob},Lo O H H' ([Zd r D',.box w (yx r (zf B L I) G gv tv) 128,.sl 161 1025 gv (G.group.map zy),.sl 3 1 tv (G.wrote.map nI)]++rest)->vH (zf B L I) D G=(D',G,3)->R (.int .i64 3) H':=by
   intro H' D' rest l' hc
   obtain⟨O',st,mq⟩:=Lo.close (l:=yT w r D' (zf B L I) G gv tv) (r:=rest) l'
   have:=k H' O' st
   rw[hc]at this
   exact this ⟨gv,tv,mq⟩
 obtain⟨cA,Ue⟩:∃ c,c=Jh 2 G.group 0 D:=⟨_,rfl⟩
 refine zF.mk (fun t H'=>∃ (pre post:List (Int × jn)) (D':kj) (hv:Value),G.group=pre++post/\t=(zg (pre.length:Nat),())/\Jh 2 post pre.length D'=cA/\nw D' (kf+pre.length)/\Lo O H H' [Zd r D',.box w (yx r (zf B L I) G gv tv) 128,.sl 161 1025 gv (G.group.map zy),.sl 3 1 tv (G.wrote.map nI),.box b1 #[hv] 151,.sl 3 1 hv ((pre.map (·.1)).map nI)])
   (fun t _=>mi t.1 fun i=>(G.group.length - i).toNat) ⟨[],G.group,D,.slice none 0 0,rfl,rfl,Ue.symm,ob,l1⟩ ?_
 clear l1 l0
 rintro _ H3 ⟨pre,post,D3,hv,mO,rfl,nU,D5,l3⟩
 have hl:G.group.length=pre.length+post.length:=by rw[mO,cR]
 rw[zk,za,zb]
 refine⟨fun kc=>?_,fun lA=>?_⟩
 · match post,mO,hl,nU with
   | [],_,hl,_=>simp at hl;omega
   | x :: post,mO,hl,nU=>
     rw[gR]at hl
     have hx:jR x.2:=hgi x (by rw[mO];simp)
     have wG:(G.group.map zy)[pre.length]?=some (zy x):=by rw[mO,cU,jB (by simp)];simp
     obtain⟨bb,oo,Gn,r9,kE⟩:=(l3.sv (i:=2) rfl).sr.el wG
     have r1:=kE 1 1024 (by omega)
     rw[Ym hx]at r1
     rw[l3.ld (i:=1) rfl,g0,za,l3.ld (i:=1) rfl,g4,za,ze,za,zd (by omega) (by omega),ze,za,zd (by omega) (by omega),l3.ld (i:=1) rfl,KR,za,show zG (some (none,1025)) gv (zg (pre.length:Nat))=_ from Gn .i64,za,zc,za,r1,za,show(1:Int)+1+(pre.length:Int)=2+(pre.length:Int) by omega]
     obtain⟨O3,h3,mJ⟩:=l3.call (i:=0) rfl
     refine A4 h3 (fun hf=>by have:=D5.left hf;omega) (by have:=D5.count;omega) (by have:=D5.ow;omega) (by have:=D5.u1;omega) hx fun H4 O4 s4 h4=>?_
     have l4:=mJ H4 _ O4 s4 h4
     have hf4:=D5.write (2+(pre.length:Int)) hx
     have CL:Jh 2 (x :: post) pre.length D3=if (D3.write (2+(pre.length:Int)) x.2).2≠0 then((D3.write (2+(pre.length:Int)) x.2).1,false) else Jh 2 post (pre.length+1) (D3.write (2+(pre.length:Int)) x.2).1:=rfl
     rw[CL]at nU
     clear CL h4
     have l4:Lo O H H4 [Zd r (D3.write (2+(pre.length:Int)) x.2).1,.box w (yx r (zf B L I) G gv tv) 128,.sl 161 1025 gv (G.group.map zy),.sl 3 1 tv (G.wrote.map nI),.box b1 #[hv] 151,.sl 3 1 hv ((pre.map (·.1)).map nI)]:=l4
     generalize D3.write (2+(pre.length:Int)) x.2=q at hf4 nU l4 ⊢
     rw[zn,za,zb]
     refine⟨fun jZ=>?_,fun heq=>?_⟩
     · rw[aU jZ]at nU
       exact leave (rest:=[_,_]) l4 (aaE (by rw[MY];exact Ue.symm.trans nU.symm))
     · rw[aH heq]at nU
       obtain⟨bb4,oo4,PO,ade,_⟩:=(l4.sv (i:=2) rfl).sr.el wG
       have c0:=ade 0 (by omega)
       rw[bH]at c0
       rw[zc,za,bH,l4.ld (i:=4) rfl,b0,za,l4.ld (i:=1) rfl,KR,za,show zG (some (none,1025)) gv (zg (pre.length:Nat))=_ from PO .i64,za,zc,za,bH,c0,yg,za,zj]
       intro H5 e5
       refine(l4.ext e5).Jy Lb C7 (i:=5) (c:=nI x.1) rfl rfl (by omega) (by omega) rfl (by unfold zv;rw[<- iV];rfl) (by rw[bR,bR];omega) fun xL H6 l6=>?_
       rw[za,zj]
       intro H7 e7
       have l7:=l6.ext e7
       have lT:=(l7.sv (i:=5) rfl).one
       refine l7.st (i:=4) (j:=0) (v:=xL) rfl (by exact(by decide:0<1)) lT.2 lT.1 fun H8 l8=>?_
       rw[zj]
       intro H9 e9
       rw[ze,za,zE,zr (by omega)]
       refine⟨⟨pre++[x],post,q.1,xL,by rw[mO];simp,by rw[cR];rfl,by rw[cR];exact nU,by rw[cR];exact hf4.mono (by simp;omega),?_⟩,by simp only[zu];exact yR (by omega)⟩
       rw[cU,cU]
       exact l8.ext e9
 have:post=[]:=jz (by omega)
 subst this
 have acF:pre=G.group:=by rw[mO,jY]
 have nU:cA=(D3,true):=nU.symm
 have hA:Jh ((zf B L I).logAt+1) G.group 0 D=(D3,true):=by rw[MY];exact Ue.symm.trans nU
 subst acF
 clear nU Ue hl lA mO
 obtain⟨hb,hhb⟩:∃ b:jn,b=if mF (zf B L I) (G.group.map (·.1)) then sZ (G.group.map (·.1)) else zB:=⟨_,rfl⟩
 have lK:jR hb:=by
   rw[hhb]
   split
   · exact Gj _
   · exact z6
 refine Zg.mk (fun t H'=>∃ b4:Nat,t.1=zD b4/\Lo O H H' [Zd r D3,.box w (yx r (zf B L I) G gv tv) 128,.sl 161 1025 gv (G.group.map zy),.sl 3 1 tv (G.wrote.map nI),.box b4 hb 65]) ?_ ?_
 rotate_left
 · rw[Za (l3.at (i:=1) rfl) (show 1+9<=18 by omega),za,QT,l3.je (i:=4) (n:=1) rfl rfl,za]
   have mL:(G.group.map (·.1)).length<281474976710656:=by rw[bR];omega
   refine⟨?_,?_,trivial⟩
   · rw[zj]
     intro H4 e4
     have l4:=l3.ext e4
     refine aas hB hg (l4.sv (i:=5) rfl).sr mL fun H5 e5=>?_
     rw[<- hhb,y3,za,y4,za,zj]
     intro H6 e6
     refine((l4.ext e5).ext e6).jc fun b4 H7 _ l7=>?_
     rw[zj]
     intro H8 e8
     refine(l7.ext e8).jE (i:=6) rfl zw lK.size lK.ok fun H9 l9=>?_
     rw[zj]
     intro mX sA
     exact⟨b4,rfl,(l9.ext sA).pick [0,1,2,3,6] (by decide) (by simp)⟩
   · rw[zj]
     intro H4 e4
     refine(l3.ext e4).jc fun b4 H7 _ l7=>?_
     rw[zj]
     intro H8 e8
     have l8:=l7.ext e8
     refine aas hB hg (l8.sv (i:=5) rfl).sr mL fun H5 e5=>?_
     rw[<- hhb,y3,za,y4,za,zj]
     intro H6 e6
     refine((l8.ext e5).ext e6).jE (i:=6) rfl zw lK.size lK.ok fun H9 l9=>?_
     rw[zj]
     intro mX sA
     exact⟨b4,rfl,(l9.ext sA).pick [0,1,2,3,6] (by decide) (by simp)⟩
 rintro⟨t,u⟩ H4 ⟨b4,ht,l4⟩
 simp only at ht
 subst ht
 clear l3
 have hk3:∃ k3,k3=kf+G.group.length/\k3<=900100000:=⟨_,rfl,by omega⟩
 obtain⟨k3,hk3,apX⟩:=hk3
 rw[<- hk3]at D5
 obtain⟨rb,DB⟩:∃ q,q=sC D3 1 hb:=⟨_,rfl⟩
 refine Zg.mk (fun t H'=>t.1=.bool (!rb.2)/\nw rb.1 (k3+3)/\Lo O H H' [Zd r rb.1,.box w (yx r (zf B L I) G gv tv) 128,.sl 161 1025 gv (G.group.map zy),.sl 3 1 tv (G.wrote.map nI)]) ?_ ?_
 rotate_left
 · have apo:=DB
   rw[l4.ld (i:=1) rfl,g0,za]
   obtain⟨O4,h4,xh⟩:=l4.call (i:=0) rfl
   refine uj h4 D5.held D5.wait (by have:=D5.sum;omega) (fun hf=>by have:=D5.left hf;omega) (by have:=D5.count;omega) (by have:=D5.ow;omega) (by have:=D5.u1;omega) fun H5 O5 s5 h5=>?_
   have l5:Lo O H H5 [Zd r D3.ja.1,.box w (yx r (zf B L I) G gv tv) 128,.sl 161 1025 gv (G.group.map zy),.sl 3 1 tv (G.wrote.map nI),.box b4 hb 65]:=xh H5 _ O5 s5 h5
   have tW:=D5.ja
   clear h5
   unfold sC at DB
   rw[zn,za,zb]
   refine⟨fun jZ=>?_,fun heq=>?_⟩
   · have jZ:D3.ja.2≠0:=jZ
     rw[aU jZ]at DB
     subst DB
     exact⟨rfl,tW.mono (by omega),l5.takeN 4⟩
   have heq:D3.ja.2=0:=by exact jh.1 heq
   rw[aH (by omega)]at DB
   rw[l5.ld (i:=1) rfl,g0,za,l5.ld (i:=1) rfl,g4,za,l5.je (i:=4) (n:=1024) rfl lK.size,za]
   obtain⟨O6,h6,Ho⟩:=l5.call (i:=0) rfl
   refine A4 h6 (fun hf=>by have:=tW.left hf;omega) (by have:=tW.count;omega) (by have:=tW.ow;omega) (by have:=tW.u1;omega) lK fun H7 O7 s7 h7=>?_
   have l7:Lo O H H7 [Zd r (D3.ja.1.write 1 (hb)).1,.box w (yx r (zf B L I) G gv tv) 128,.sl 161 1025 gv (G.group.map zy),.sl 3 1 tv (G.wrote.map nI),.box b4 hb 65]:=Ho H7 _ O7 s7 h7
   have sJ:=tW.write 1 lK
   clear h7
   rw[zn,za,zb]
   refine⟨fun jZ=>?_,fun AU=>?_⟩
   · have jZ:(D3.ja.1.write 1 (hb)).2≠0:=jZ
     rw[aU jZ]at DB
     subst DB
     exact⟨rfl,sJ.mono (by omega),l7.takeN 4⟩
   have AU:(D3.ja.1.write 1 (hb)).2=0:=by exact jh.1 AU
   rw[aH (by omega)]at DB
   rw[l7.ld (i:=1) rfl,g0,za]
   obtain⟨O8,h8,PG⟩:=l7.call (i:=0) rfl
   refine uj h8 sJ.held sJ.wait (by have:=sJ.sum;omega) (fun hf=>by have:=sJ.left hf;omega) (by have:=sJ.count;omega) (by have:=sJ.ow;omega) (by have:=sJ.u1;omega) fun H9 O9 s9 h9=>?_
   have l9:Lo O H H9 [Zd r (D3.ja.1.write 1 (hb)).1.ja.1,.box w (yx r (zf B L I) G gv tv) 128,.sl 161 1025 gv (G.group.map zy),.sl 3 1 tv (G.wrote.map nI),.box b4 hb 65]:=PG H9 _ O9 s9 h9
   have hf9:=sJ.ja
   rw[zn,za]
   subst DB
   refine⟨?_,hf9.mono (by omega),l9.takeN 4⟩
   show Value.bool _=Value.bool (!(decide _))
   rw[<- decide_not]
 rintro⟨t,u⟩ H5 ⟨ht,tW,l5⟩
 simp only at ht
 subst ht
 clear l4
 cases qO:rb.2 with
 | false=>
   rw[jN,zA]
   exact leave (rest:=[]) l5 (aaD hA (by rw[MY,<- hhb,<- DB,<- qO]))
 | true=>
 rw[iW,zh]
 have hBW:sC D3 (zf B L I).logAt (if mF (zf B L I) (G.group.map (·.1)) then sZ (G.group.map (·.1)) else zB)=(rb.1,true):=by rw[MY,<- hhb,<- DB,<- qO]
 obtain⟨rf,hrf⟩:∃ q,q=Nn G.group rb.1:=⟨_,rfl⟩
 refine zF.mk (fun t H'=>∃ (pr po:List (Int × jn)) (D6:kj),G.group=pr++po/\t=(zg (pr.length:Nat),())/\Nn po D6=rf/\nw D6 (k3+3+pr.length)/\Lo O H H' [Zd r D6,.box w (yx r (zf B L I) G gv tv) 128,.sl 161 1025 gv (G.group.map zy),.sl 3 1 tv (G.wrote.map nI)])
   (fun t _=>mi t.1 fun i=>(G.group.length - i).toNat) ⟨[],G.group,rb.1,rfl,rfl,hrf.symm,tW,l5⟩ ?_
 clear l5
 rintro _ H6 ⟨pr,po,D6,GS,rfl,nU,Gi,l4⟩
 have hl:G.group.length=pr.length+po.length:=by rw[GS,cR]
 rw[zk,za,zb]
 refine⟨fun kc=>?_,fun lA=>?_⟩
 · match po,GS,hl,nU with
   | [],_,hl,_=>simp at hl;omega
   | x :: po,GS,hl,nU=>
     rw[gR]at hl
     have hx:jR x.2:=hgi x (by rw[GS];simp)
     have wG:(G.group.map zy)[pr.length]?=some (zy x):=by rw[GS,cU,jB (by simp)];simp
     obtain⟨bb,oo,Gn,r9,kE⟩:=(l4.sv (i:=2) rfl).sr.el wG
     have r1:=kE 1 1024 (by omega)
     rw[Ym hx]at r1
     have c0:=r9 0 (by omega)
     rw[bH]at c0
     rw[l4.ld (i:=1) rfl,g0,za,l4.ld (i:=1) rfl,KR,za,show zG (some (none,1025)) gv (zg (pr.length:Nat))=_ from Gn .i64,za,zc,za,bH,c0,yg,za,za,show zG (some (none,1025)) gv (zg (pr.length:Nat))=_ from Gn .i64,za,zc,za,r1,za]
     obtain⟨O3,h3,mJ⟩:=l4.call (i:=0) rfl
     refine A4 h3 (fun hf=>by have:=Gi.left hf;omega) (by have:=Gi.count;omega) (by have:=Gi.ow;omega) (by have:=Gi.u1;omega) hx fun H7 O7 s7 h7=>?_
     have l7:Lo O H H7 [Zd r (D6.write x.1 x.2).1,.box w (yx r (zf B L I) G gv tv) 128,.sl 161 1025 gv (G.group.map zy),.sl 3 1 tv (G.wrote.map nI)]:=mJ H7 _ O7 s7 h7
     have sJ:=Gi.write x.1 hx
     have CL:Nn (x :: po) D6=if (D6.write x.1 x.2).2≠0 then((D6.write x.1 x.2).1,false) else Nn po (D6.write x.1 x.2).1:=rfl
     rw[CL]at nU
     clear CL h7
     generalize D6.write x.1 x.2=q at sJ nU l7 ⊢
     rw[zn,za,zb]
     refine⟨fun jZ=>?_,fun heq=>?_⟩
     · rw[aU jZ]at nU
       exact leave (rest:=[]) l7 (aaC hA hBW (hrf.symm.trans nU.symm))
     · rw[aH heq]at nU
       rw[ze,za,zE,zr (by omega)]
       exact⟨⟨pr++[x],po,q.1,by rw[GS];simp,by rw[cR];rfl,nU,by rw[cR];exact sJ.mono (by simp;omega),l7⟩,by simp only[zu];exact yR (by omega)⟩
 have:po=[]:=jz (by omega)
 subst this
 have hF:Nn G.group rb.1=(D6,true):=hrf.symm.trans nU.symm
 have hk6:∃ k6,k6=k3+3+pr.length/\k6<=900300000:=⟨_,rfl,by omega⟩
 obtain⟨k6,hk6,apU⟩:=hk6
 rw[<- hk6]at Gi
 clear nU hl lA GS
 obtain⟨rd,oq⟩:∃ q,q=sC D6 1 zB:=⟨_,rfl⟩
 refine Zg.mk (fun t H'=>t.1=.bool (!rd.2)/\nw rd.1 (k6+3)/\Lo O H H' [Zd r rd.1,.box w (yx r (zf B L I) G gv tv) 128,.sl 161 1025 gv (G.group.map zy),.sl 3 1 tv (G.wrote.map nI)]) ?_ ?_
 rotate_left
 · have apn:=oq
   rw[l4.ld (i:=1) rfl,g0,za]
   obtain⟨O4,h4,xh⟩:=l4.call (i:=0) rfl
   refine uj h4 Gi.held Gi.wait (by have:=Gi.sum;omega) (fun hf=>by have:=Gi.left hf;omega) (by have:=Gi.count;omega) (by have:=Gi.ow;omega) (by have:=Gi.u1;omega) fun H5 O5 s5 h5=>?_
   have l5:Lo O H H5 [Zd r D6.ja.1,.box w (yx r (zf B L I) G gv tv) 128,.sl 161 1025 gv (G.group.map zy),.sl 3 1 tv (G.wrote.map nI)]:=xh H5 _ O5 s5 h5
   have tW:=Gi.ja
   clear h5
   unfold sC at oq
   rw[zn,za,zb]
   refine⟨fun jZ=>?_,fun heq=>?_⟩
   · have jZ:D6.ja.2≠0:=jZ
     rw[aU jZ]at oq
     subst oq
     exact⟨rfl,tW.mono (by omega),l5.takeN 4⟩
   have heq:D6.ja.2=0:=by exact jh.1 heq
   rw[aH (by omega)]at oq
   rw[l5.ld (i:=1) rfl,g0,za,l5.ld (i:=1) rfl,g4,za]
   obtain⟨O6,h6,Ho⟩:=l5.call (i:=0) rfl
   refine A4 h6 (fun hf=>by have:=tW.left hf;omega) (by have:=tW.count;omega) (by have:=tW.ow;omega) (by have:=tW.u1;omega) z6 fun H7 O7 s7 h7=>?_
   have l7:Lo O H H7 [Zd r (D6.ja.1.write 1 (zB)).1,.box w (yx r (zf B L I) G gv tv) 128,.sl 161 1025 gv (G.group.map zy),.sl 3 1 tv (G.wrote.map nI)]:=Ho H7 _ O7 s7 h7
   have sJ:=tW.write 1 z6
   clear h7
   rw[zn,za,zb]
   refine⟨fun jZ=>?_,fun AU=>?_⟩
   · have jZ:(D6.ja.1.write 1 (zB)).2≠0:=jZ
     rw[aU jZ]at oq
     subst oq
     exact⟨rfl,sJ.mono (by omega),l7.takeN 4⟩
   have AU:(D6.ja.1.write 1 (zB)).2=0:=by exact jh.1 AU
   rw[aH (by omega)]at oq
   rw[l7.ld (i:=1) rfl,g0,za]
   obtain⟨O8,h8,PG⟩:=l7.call (i:=0) rfl
   refine uj h8 sJ.held sJ.wait (by have:=sJ.sum;omega) (fun hf=>by have:=sJ.left hf;omega) (by have:=sJ.count;omega) (by have:=sJ.ow;omega) (by have:=sJ.u1;omega) fun H9 O9 s9 h9=>?_
   have l9:Lo O H H9 [Zd r (D6.ja.1.write 1 (zB)).1.ja.1,.box w (yx r (zf B L I) G gv tv) 128,.sl 161 1025 gv (G.group.map zy),.sl 3 1 tv (G.wrote.map nI)]:=PG H9 _ O9 s9 h9
   have hf9:=sJ.ja
   rw[zn,za]
   subst oq
   refine⟨?_,hf9.mono (by omega),l9.takeN 4⟩
   show Value.bool _=Value.bool (!(decide _))
   rw[<- decide_not]
 rintro⟨t,u⟩ H7 ⟨ht,sJ,l7⟩
 simp only at ht
 subst ht
 clear l4
 cases AW:rd.2 with
 | false=>
   rw[jN,zA]
   exact leave (rest:=[]) l7 (aaB hA hBW hF (by rw[MY,<- oq,<- AW]))
 | true=>
 rw[iW,zh]
 have hD:sC D6 (zf B L I).logAt zB=(rd.1,true):=by rw[MY,<- oq,<- AW]
 have hc:=aaA hA hBW hF hD
 refine l7.st (i:=1) (j:=12) (v:=.slice none 0 0) rfl (by exact(by decide:12<18)) rfl rfl fun H8 l8=>?_
 have l9:=l8.nt 161 1025
 have l9:Lo O H H8 [Zd r rd.1,.box w (yx r (zf B L I) { G with group:=[] } (.slice none 0 0) tv) 128,.sl 161 1025 (.slice none 0 0) [],.sl 3 1 tv (G.wrote.map nI)]:=l9.pick [0,1,4,3] (by decide) (by simp)
 rw[l9.ld (i:=1) rfl,Ut,za,ze,za,zd (by omega) (by omega)]
 refine l9.st (i:=1) (j:=16) (v:=zg (G.me+1)) rfl (by exact(by decide:16<18)) rfl rfl fun mX mn=>?_
 obtain⟨O',st,mq⟩:=Lo.close (l:=yT w r rd.1 (zf B L I) { G with group:=[],me:=G.me+1 } (.slice none 0 0) tv) (r:=[]) mn
 have:=k mX O' st
 rw[hc]at this
 exact this ⟨_,_,mq⟩
end
structure XC(D:kj)(G:mW)(kf:Nat):Prop where
 Ll:nw D kf
 is:∀ y∈G.group,jR y.2
 len:G.group.length<=100000
 me : -9223372036854775808<=G.me/\G.me<9223372036854775807
 over : -9223372036854775808<=G.over/\G.over<9223372036854775807
noncomputable def yD(x:kh)(D:kj)(G:mW)(r:Int):kj × mW × Int:=
 if Z4 D G≠0 then(D,G,Z4 D G) else if G.step=true then(D,G,180) else if r<1\/x.L - 1<r then(D,G,2) else
 if x.L - 1<(G.group.length:Int)+r then
  (if (vH x D G).2.2≠0 then vH x D G else((vH x D G).1,{ (vH x D G).2.1 with step:=true,room:=r,wrote:=[] },0))
 else(D,{ G with step:=true,room:=r,wrote:=[] },0)
noncomputable def tm(D:kj)(G:mW):mW × Int:=
 if Z4 D G≠0 then(G,Z4 D G) else if G.step=false then(G,180) else({ G with step:=false,over:=G.over+1 },0)
noncomputable def YL(x:kh)(D:kj)(G:mW):kj × mW × Int:=
 if Z4 D G≠0 then(D,G,Z4 D G) else if G.step=true then(D,G,180) else if G.group.length=0 then(D,G,0) else vH x D G
section
variable{H:Hp}{R:Value->Hp->Prop}{w r:Nat}{D:kj}{G:mW}{O:Nat->Prop}{B L I:Int}
theorem Gz(h:(ZN w r D (zf B L I) G).at_ H O):∃ gv tv,H[w]?=some (.cells (yx r (zf B L I) G gv tv) 128)/\Sr 1025 H gv (G.group.map zy):=by
 obtain⟨gv,tv,ha⟩:=h;have l0:Lo O H H [Zd r D,.box w (yx r (zf B L I) G gv tv) 128,.sl 161 1025 gv (G.group.map zy),.sl 3 1 tv (G.wrote.map nI)]:=Lo.open ha;exact⟨gv,tv,l0.at (i:=1) rfl,(l0.sv (i:=2) rfl).sr⟩
theorem Ta(hB : -9223372036854775808<=B/\B<=9223372036854775807)(hg:Zy B L I)(h:(ZN w r D (zf B L I) G).at_ H O){kf:Nat}(kD:XC D G kf)(Sc:kf<900000000)
   (k:∀ H' O',kS O O' H H'->(ZN w r (YL (zf B L I) D G).1 (zf B L I) (YL (zf B L I) D G).2.1).at_ H' O'->R (.int .i64 (YL (zf B L I) D G).2.2) H'):Fc TP 59 #[zD w] H R:=by
 obtain⟨gv,tv,ht,sr⟩:=Gz h
 refine fn59 ?_
 simp only[sh59,Ul,UA,Ub,UI,Uf,Ug,Uv,zl,zc,aR,bH,za]
 refine yu h ?_
 rw[zn,za,zb]
 refine⟨fun jZ=>?_,fun heq=>?_⟩
 · have e:YL (zf B L I) D G=(D,G,Z4 D G):=by unfold YL;rw[aU jZ]
   rw[e]at k
   exact k H O (kS.refl _ _) h
 rw[zi ht,show(yx r (zf B L I) G gv tv)[13]?=some (.bool G.step) from rfl,za,Zj]
 refine⟨fun hs=>?_,fun hs=>?_⟩
 · have e:YL (zf B L I) D G=(D,G,180):=by unfold YL;rw[aH heq,aU hs]
   rw[e]at k
   exact k H O (kS.refl _ _) h
 have CE:¬ G.step=true:=by rw[hs];decide
 rw[zi ht,show(yx r (zf B L I) G gv tv)[12]?=some gv from rfl,za,sr.j9 FE,za,bR,zp,za,zb]
 refine⟨fun h0=>?_,fun h0=>?_⟩
 · have e:YL (zf B L I) D G=(D,G,0):=by unfold YL;rw[aH heq,aH CE,aU (by omega)]
   rw[e]at k
   exact k H O (kS.refl _ _) h
 · have e:YL (zf B L I) D G=vH (zf B L I) D G:=by unfold YL;rw[aH heq,aH CE,aH (by omega)]
   rw[e]at k
   exact Da hB hg h kD.Ll Sc kD.is kD.len kD.me k
theorem W5(h:(ZN w r D (zf B L I) G).at_ H O){kf:Nat}(kD:XC D G kf)
   (k:∀ H' O',kS O O' H H'->(ZN w r D (zf B L I) (tm D G).1).at_ H' O'->R (.int .i64 (tm D G).2) H'):Fc TP 51 #[zD w] H R:=by
 have hov:=kD.over
 refine fn51 ?_
 simp only[sh51,Ul,UA,Us,Ub,UI,Uf,Uu,Uv,U0,zl,zc,aR,bH,za]
 refine yu h ?_
 rw[zn,za,zb]
 refine⟨fun jZ=>?_,fun heq=>?_⟩
 · have e:tm D G=(G,Z4 D G):=by unfold tm;rw[aU jZ]
   rw[e]at k
   exact k H O (kS.refl _ _) h
 have h0:=h
 obtain⟨gv,tv,ha⟩:=h
 have l0:Lo O H H [Zd r D,.box w (yx r (zf B L I) G gv tv) 128,.sl 161 1025 gv (G.group.map zy),.sl 3 1 tv (G.wrote.map nI)]:=Lo.open ha
 rw[l0.ld (i:=1) rfl,show(yx r (zf B L I) G gv tv)[13]?=some (.bool G.step) from rfl,za,zx,za,Zm]
 refine And.symm ⟨fun hs=>?_,fun hs=>?_⟩
 · have e:tm D G=({ G with step:=false,over:=G.over+1 },0):=by unfold tm;rw[aH heq,aH (by rw[hs];decide)]
   rw[e]at k
   refine l0.st (i:=1) (j:=13) (v:=.bool false) rfl (by exact(by decide:13<18)) rfl rfl fun H2 l2=>?_
   have l2:Lo O H H2 [Zd r D,.box w (yx r (zf B L I) { G with step:=false } gv tv) 128,.sl 161 1025 gv (G.group.map zy),.sl 3 1 tv (G.wrote.map nI)]:=l2
   rw[l2.ld (i:=1) rfl,show(yx r (zf B L I) { G with step:=false } gv tv)[17]?=some (zg G.over) from rfl,za,ze,za,zd (by omega) (by omega)]
   refine l2.st (i:=1) (j:=17) (v:=zg (G.over+1)) rfl (by exact(by decide:17<18)) rfl rfl fun H3 l3=>?_
   obtain⟨O',st,mq⟩:=Lo.close (l:=yT w r D (zf B L I) { G with step:=false,over:=G.over+1 } gv tv) (r:=[]) l3
   exact k H3 O' st ⟨_,_,mq⟩
 · have e:tm D G=(G,180):=by unfold tm;rw[aH heq,aU hs]
   rw[e]at k
   exact k H O (kS.refl _ _) h0
theorem OK(hB : -9223372036854775808<=B/\B<=9223372036854775807)(hg:Zy B L I)(h:(ZN w r D (zf B L I) G).at_ H O){kf:Nat}(kD:XC D G kf)(Sc:kf<900000000){n:Int}
   (k:∀ H' O',kS O O' H H'->(ZN w r (yD (zf B L I) D G n).1 (zf B L I) (yD (zf B L I) D G n).2.1).at_ H' O'->R (.int .i64 (yD (zf B L I) D G n).2.2) H'):Fc TP 50 #[zD w,zg n] H R:=by
 obtain⟨xP,xO,wI,xQ,vP,vO,gD⟩:=id hg
 have Bm:(zf B L I).L=L:=rfl
 have hlen:=kD.len
 obtain⟨gv,tv,ht,sr⟩:=Gz h
 refine fn50 ?_
 simp only[sh50,Ul,UA,Us,Ub,UI,Uf,Ug,Uj,Uv,U1,zm,zl,zc,aR,bH,Nat.reduceAdd,za]
 refine yu h ?_
 rw[zn,za,zb]
 refine⟨fun jZ=>?_,fun heq=>?_⟩
 · have e:yD (zf B L I) D G n=(D,G,Z4 D G):=by unfold yD;rw[aU jZ]
   rw[e]at k
   exact k H O (kS.refl _ _) h
 have l5:(yx r (zf B L I) G gv tv)[2]?=some (zg L):=rfl
 rw[zi ht,show(yx r (zf B L I) G gv tv)[13]?=some (.bool G.step) from rfl,za,Zj]
 refine⟨fun hs=>?_,fun hs=>?_⟩
 · have e:yD (zf B L I) D G n=(D,G,180):=by unfold yD;rw[aH heq,aU hs]
   rw[e]at k
   exact k H O (kS.refl _ _) h
 have CE:¬ G.step=true:=by rw[hs];decide
 refine Zg.mk (fun t H'=>t.1=.bool (decide (n<1\/L - 1<n))/\H'=H) ?_ ?_
 rotate_left
 · rw[zk,za,zb]
   refine⟨fun h1=>⟨by rw[gU (show n<1\/L - 1<n from .inl h1)],rfl⟩,fun h1=>?_⟩
   rw[zi ht,l5,za,zP,za,zd (by omega) (by omega),zJ,za]
   exact⟨by rw[ZO (show(L - 1<n)↔(n<1\/L - 1<n) from⟨fun h=>.inr h,fun h=>h.resolve_left h1⟩)],rfl⟩
 rintro⟨t,u⟩ H1 ⟨R2,rfl⟩
 simp only at R2
 subst R2
 rw[zb]
 refine⟨fun hb=>?_,fun hb=>?_⟩
 · have e:yD (zf B L I) D G n=(D,G,2):=by unfold yD;rw[aH heq,aH CE,Bm,aU hb]
   rw[e]at k
   exact k H1 O (kS.refl _ _) h
 have e0:yD (zf B L I) D G n=if L - 1<(G.group.length:Int)+n then
     (if (vH (zf B L I) D G).2.2≠0 then vH (zf B L I) D G else((vH (zf B L I) D G).1,{ (vH (zf B L I) D G).2.1 with step:=true,room:=n,wrote:=[] },0))
   else(D,{ G with step:=true,room:=n,wrote:=[] },0):=by unfold yD;rw[aH heq,aH CE,Bm,aH hb]
 rw[e0]at k
 clear e0
 refine Zg.mk (fun _ H'=>∃ D' G' O',kS O O' H1 H'/\(ZN w r D' (zf B L I) G').at_ H' O'/\(if L - 1<(G.group.length:Int)+n then
     (if (vH (zf B L I) D G).2.2≠0 then vH (zf B L I) D G else((vH (zf B L I) D G).1,{ (vH (zf B L I) D G).2.1 with step:=true,room:=n,wrote:=[] },0))
   else(D,{ G with step:=true,room:=n,wrote:=[] },0))=(D',{ G' with step:=true,room:=n,wrote:=[] },0)) ?_ ?_
 · rintro t H2 ⟨D',G',O',st,hd,e⟩
   rw[e]at k
   obtain⟨gv,tv,ha⟩:=hd
   have l0:Lo O' H2 H2 [Zd r D',.box w (yx r (zf B L I) G' gv tv) 128,.sl 161 1025 gv (G'.group.map zy),.sl 3 1 tv (G'.wrote.map nI)]:=Lo.open ha
   refine l0.st (i:=1) (j:=13) (v:=.bool true) rfl (by exact(by decide:13<18)) rfl rfl fun H3 l3=>?_
   refine l3.st (i:=1) (j:=14) (v:=zg n) rfl (by exact(by decide:14<18)) rfl rfl fun H4 l4=>?_
   refine l4.st (i:=1) (j:=15) (v:=.slice none 0 0) rfl (by exact(by decide:15<18)) rfl rfl fun H5 l5=>?_
   have l6:=(l5.nt 3 1).pick [0,1,2,4] (by decide) (by simp)
   obtain⟨O2,Hr,mq⟩:=Lo.close (l:=yT w r D' (zf B L I) { G' with step:=true,room:=n,wrote:=[] } gv (.slice none 0 0)) (r:=[]) l6
   exact k H5 O2 (st.trans Hr) ⟨_,_,mq⟩
 · rw[zi ht,show(yx r (zf B L I) G gv tv)[12]?=some gv from rfl,za,sr.j9 FE,za,bR,ze,za,zd (by omega) (by omega),zi ht,l5,za,zP,za,zd (by omega) (by omega),zJ,za,zb]
   refine⟨fun KO=>?_,fun mL=>?_⟩
   · rw[aU KO]at k
     refine Da hB hg h kD.Ll Sc kD.is kD.len kD.me fun H2 O2 st hd=>?_
     rw[zn,za,zb]
     refine⟨fun jZ=>?_,fun he=>?_⟩
     · rw[aU jZ]at k
       exact k H2 O2 st hd
     · exact⟨_,_,O2,st,hd,by rw[aU KO,aH he]⟩
   · exact⟨D,G,O,kS.refl _ _,h,by rw[aH mL]⟩
end
section
variable{H:Hp}{R:Value->Hp->Prop}{w r:Nat}{D:kj}{G:mW}{x:kh}{O:Nat->Prop}
theorem OJ{gv tv:Value}(l0:H[w]?=some (.cells (yx r x G gv tv) 128))(h3:Sr 1 H tv (G.wrote.map nI))(hlen:G.wrote.length<=1048576){a:Int}(k:R (.bool (decide (a∈G.wrote))) H):Fc TP 112 #[zD w,zg a] H R:=by
 have D9:(yx r x G gv tv)[15]?=some tv:=rfl;refine fn112 ?_;simp only[sh112,Ul,UA,Ub,UI,Ui,Ug,Uo,Uv,U1,U0,zm,zl,zc,aR,bH,za];refine zF.mk (fun t H'=>H'=H/\∃ i:Nat,i<=G.wrote.length/\t=(zg i,())/\∀ y∈G.wrote.take i,y≠a) (fun t _=>mi t.1 fun i=>(G.wrote.length - i).toNat) ⟨rfl,0,by omega,rfl,by simp⟩ ?_;rintro _ H3 ⟨rfl,i,hi,rfl,kG⟩;rw[zi l0,D9,za,h3.j9 Z0,za,bR,zk,za,zb];refine⟨fun kc=>?_,fun lA=>?_⟩
 ·have kI:i<G.wrote.length:=by omega
  have lP:(G.wrote.map nI)[i]?=some (nI G.wrote[i]):=by rw[dR,bU kI];rfl
  have uL:G.wrote[i]∈G.wrote:=ju kI;have mR:G.wrote.take (i+1)=G.wrote.take i++[G.wrote[i]]:=fU kI;generalize G.wrote[i]=y at lP uL mR;obtain⟨b4,o,PO,lI,kE⟩:=h3.el lP;rw[za,PO,za,show zX (some none) (.pointer (some ⟨b4,o,none⟩)) H3=_ from lI 0 (by omega),show(nI y)[0]?=some (zg y) from rfl,za,zp,za,zb];refine⟨fun he=>?_,fun jZ=>?_⟩
  ·rw[gU (by rw[<- he];exact uL)]at k;exact k
  ·rw[ze,za,zE,zr (by omega)];refine⟨⟨rfl,i+1,by omega,rfl,fun z hz=>?_⟩,by simp only[zu];omega⟩;rw[mR]at hz;rcases fH.1 hz with e2 | e2
   ·exact kG z e2
   ·rw[eU.1 e2];exact jZ
 ·rw[cH (fun o8=>?_)]at k
  ·exact k
  ·rw[List.take_of_length_le (by omega)]at kG;exact kG a o8 rfl
end
theorem J1{cs v u:Array Value}{o n j:Nat}(h:o+n<=cs.size)(hv:cs.extract o (o+n)=v)(hj:j+u.size<=n):zL cs o (zL v j u)=zL cs (o+j) u:=by
 have hs:v.size=n:=by rw[<- hv,vL];omega
 have sH:(zL v j u).size=n:=by rw[zO (by omega),hs]
 apply jm;intro i;rw[zH (c:=cs) (off:=o) (by omega),zH (c:=cs) (off:=o+j) (vs:=u) (by omega),sH];by_cases h1:i<o
 ·rw[aU h1,aU (by omega)]
 ·rw[aH h1];by_cases h2:i<o+n
  ·rw[aU h2,zH (by omega)];by_cases h3:i - o<j
   ·rw[aU h3,aU (by omega),<- hv,ji,aU (by omega)];congr 1;omega
   ·rw[aH h3,aH (show ¬ i<o+j by omega)];by_cases h4:i - o<j+u.size
    ·rw[aU h4,aU (by omega)];congr 1;omega
    ·rw[aH h4,aH (by omega),<- hv,ji,aU (by omega)];congr 1;omega
  ·rw[aH h2,aH (show ¬ i<o+j by omega),aH (by omega)]
section
variable{T n:Nat}{H:Hp}{s:Value}{vs:List (Array Value)}{K:Hp->Prop}
theorem Sv.abw(h:Sv T n H s vs){i j m:Nat}{v u:Array Value}(hi:vs[i]?=some v)(hj:j+m<=n)(hum:u.size=m)(kD:zv (zL v j u))(hu:zv u) :
   ∃ b o,ZH s=some b/\(∀ k,zG (some (none,n)) s (.int k i)=some (.pointer (some ⟨b,o,none⟩))) /\
   ((∀ H',Kp (·=b) H H'->H'.size=H.size->Sv T n H' s (vs.set i (zL v j u))->K H')->Pu (zY (some m) (.pointer (some ⟨b,o+j,none⟩)) (.agg u) H) K):=by
 obtain⟨b,o,cs,hb,hg,lH,hx,ha⟩:=h.elem hi
 have kI:i<vs.length:=by
   rcases jx i vs.length with h1 | h1
   · exact h1
   · rw[eR h1]at hi;cases hi
 have Wl:=h.size hi
 have oI:(zL v j u).size=n:=by rw[zO (by omega),Wl]
 obtain⟨b',o',WE,mq,hp⟩:=h.put (K:=fun H'=>Kp (·=b) H H'/\H'.size=H.size/\Sv T n H' s (vs.set i (zL v j u))) kI (v:=zL v j u) oI kD
 have e:=(ha .i64).symm.trans (mq .i64)
 injection e with e;injection e with e;injection e with e;injection e with e1 e2
 subst e1 e2
 have hp:=hp fun H' k1 k2 k3=>⟨k1,k2,k3⟩
 rw[tI hg lH oI kD,za,J1 lH hx (by omega)]at hp
 refine⟨b,o,hb,ha,fun hK=>?_⟩
 rw[tI hg (by omega) hum hu,za]
 exact hK _ hp.1 hp.2.1 hp.2.2
end
section
variable{S:Nat->Prop}{H0 H:Hp}{l:List Ob}{K:Hp->Prop}
theorem Lo.Vj{T n:Nat}(h:Lo S H0 H l){i j x m:Nat}{s:Value}{v u:Array Value}{vs:List (Array Value)}(hi:l[i]?=some (.sl T n s vs))(hj:vs[j]?=some v)(hx:x+m<=n)(hum:u.size=m)(hv:zv (zL v x u))(hu:zv u)(k:∀ H',Lo S H0 H' (l.set i (.sl T n s (vs.set j (zL v x u))))->K H') :
   ∃ b o,(∀ k,zG (some (none,n)) s (.int k j)=some (.pointer (some ⟨b,o,none⟩)))/\Pu (zY (some m) (.pointer (some ⟨b,o+x,none⟩)) (.agg u) H) K:=by
 obtain⟨O,ho,st⟩:=h.step hi
 obtain⟨b,o,h1,h2,h3⟩:=Sv.abw (K:=K) ho.1.1 hj hx hum hv hu
 refine⟨b,o,h2,h3 fun H' k' hs sv=>k H' (st H' _ O (k'.mono fun x _ e=>e ▸ ho.1.2 b h1) ⟨⟨sv,ho.1.2⟩,fun x hx=>by rw[hs];exact ho.2 x hx⟩ fun x hx=>.inl hx)⟩
end
noncomputable def qQ:List (Int × jn)->Int->jn->List (Int × jn)
 | [],a,d=>[(a,d)]
 | y :: l,a,d=>if y.1=a then(y.1,d) :: l else y :: qQ l a d
theorem IL{a:Int}{d:jn}:∀ {l:List (Int × jn)},(∀ y∈l,y.1≠a)->qQ l a d=l++[(a,d)]
 | [],_=>rfl
 | y :: l,h=>by
  rw[qQ,aH (h y (by simp)),IL fun z hz=>h z (by simp[hz])];rfl
theorem M1{a:Int}{d:jn}:∀ {l:List (Int × jn)} {i:Nat} {y:Int × jn},(∀ z∈l.take i,z.1≠a)->l[i]?=some y->y.1=a->qQ l a d=l.set i (y.1,d)
 | [],i,y,_,h,_=>by simp at h
 | z :: l,0,y,_,h,e=>by
  simp at h;subst h;rw[qQ,aU e];rfl
 | z :: l,i+1,y,hn,h,e=>by
  rw[qQ,aH (hn z (by simp)),M1 (i:=i) (y:=y) (fun q hq=>hn q (by simp[hq])) (by simpa using h) e];rfl
noncomputable def ZY(x:kh)(D:kj)(G:mW)(a:Int)(d:jn):mW × Int:=
 if Z4 D G≠0 then(G,Z4 D G) else if G.step=false then(G,180) else
 if a<1\/x.B<=a\/(x.logAt<=a/\a<x.logAt+x.L) then(G,2) else
 if a ∉ G.wrote/\G.room<=(G.wrote.length:Int) then(G,181) else({ G with wrote:=Y0 G.wrote a,group:=qQ G.group a d },0)
noncomputable def S3:ZX:=Ms (zQ TP 126)
theorem ahB:zQ TP 126=some S3:=by kernel_rfl
theorem adH:S3.type=161/\S3.size=1025/\S3.zero.size=1025/\S3.bytes=1032:=⟨by kernel_rfl,by kernel_rfl,by kernel_rfl,by kernel_rfl⟩
theorem UJ:ZZ TP 161=some (.agg G7):=by kernel_rfl
theorem afG:rB TP 161=some [(0,1),(1,1024)]:=by kernel_rfl
theorem TH{a:Int}{c:jn}(hc:jR c):zo TP 161 [(0,.int .i64 a),(1,.agg c)]=some (.agg (zy (a,c))):=by
 refine yi UJ afG ?_;refine ZC rfl rfl (by rw[Zh];omega) ?_;refine ZC rfl hc.size (by rw[zO (by rw[Zh];simp[ZV]),Zh];omega) ?_;unfold te;rw[iH];apply jm;intro j;have h1:(zL G7 0 (Value.int .i64 a).cells).size=1025:=by rw[zO (by rw[Zh];simp[ZV]),Zh]
 rw[zI,zH (by rw[h1,hc.size];omega),zH (by rw[Zh];simp[ZV])];simp only[ZV,zy];by_cases h0:j<1
 ·have:j=0:=by omega
  subst this;simp[ah6]
 ·rw[aH h0,lS (by simp;omega)];by_cases h2:j<1+c.size
  ·rw[aU h2];rfl
  ·rw[aH h2];simp only[nN,gR,jW];rw[aH (by omega),aH (by omega),iQ (by rw[Zh];rw[hc.size]at h2;omega),iQ (by omega)]
theorem AD{y:Int × jn}{d:jn}(hy:jR y.2)(hd:jR d):zL (zy y) 1 d=zy (y.1,d):=by
 apply jm;intro i;rw[zH (by rw[zZ hy,hd.size];omega),hd.size];unfold zy;by_cases h0:i<1
 ·rw[aU h0,nc (by simpa using h0),nc (by simpa using h0)]
 ·rw[aH h0];by_cases h1:i<1+1024
  ·rw[aU h1,lS (by simp;omega)];simp
  ·rw[aH h1,iQ (by simp[hy.size];omega),iQ (by simp[hd.size];omega)]
section
variable{H:Hp}{R:Value->Hp->Prop}{w r:Nat}{D:kj}{G:mW}{x:kh}{O:Nat->Prop}
theorem E6(hx:0<=x.logAt/\x.logAt<4611686018427387904/\0<=x.L/\x.L<4611686018427380000)(h:(ZN w r D x G).at_ H O)(hw:G.wrote.length<1048576)(GU:G.group.length<1048576)(sY:∀ y∈G.group,jR y.2){a:Int}{d:jn}(hd:jR d)
   (k:∀ H' O',kS O O' H H'->(ZN w r D x (ZY x D G a d).1).at_ H' O'->R (.int .i64 (ZY x D G a d).2) H'):Fc TP 62 #[zD w,zg a,.agg d] H R:=by
 obtain⟨gv,tv,ha⟩:=h
 refine fn62 ?_
 simp only[sh62,Ul,UL,UA,Us,Ub,UI,Uf,Uw,Ui,Ug,Uu,Uj,Uo,Uq,Uv,U1,U0,ZI,yP,za,zm]
 refine(Lo.open ha).jc fun b1 H1 e1 l1=>?_
 have l1:Lo O H H1 (yT w r D x G gv tv++[.box b1 d 65]):=l1
 have out:∀ {H':Hp} {G':mW} {gv' tv':Value} {e:Int},Lo O H H' (yT w r D x G' gv' tv'++[.box b1 d 65])->ZY x D G a d=(G',e)->R (.int .i64 e) H':=fun {H' G' gv' tv' e} l' he=>by
   obtain⟨O',st,ha⟩:=Lo.close l'
   rw[he]at k
   exact k H' O' st ⟨_,_,ha⟩
 obtain⟨O1,pH,h1⟩:∃ O',kS O O' H H1/\(ZN w r D x G).at_ H1 O':=by
   obtain⟨O',st,ha⟩:=Lo.close l1
   exact⟨O',st,_,_,ha⟩
 refine yu h1 ?_
 simp only[zl,zc,aR,bH,Nat.reduceAdd,za]
 rw[zn,za,zb]
 refine⟨fun jZ=>out l1 (by unfold ZY;rw[aU jZ]),fun heq=>?_⟩
 have g1:∀ {G:mW} {gv tv:Value},(yx r x G gv tv)[1]?=some (zg x.B):=rfl
 have g2:∀ {G:mW} {gv tv:Value},(yx r x G gv tv)[2]?=some (zg x.L):=rfl
 have g4:∀ {G:mW} {gv tv:Value},(yx r x G gv tv)[4]?=some (zg x.logAt):=rfl
 have KR:∀ {G:mW} {gv tv:Value},(yx r x G gv tv)[12]?=some gv:=rfl
 have WK:∀ {G:mW} {gv tv:Value},(yx r x G gv tv)[13]?=some (.bool G.step):=rfl
 have g14:∀ {G:mW} {gv tv:Value},(yx r x G gv tv)[14]?=some (zg G.room):=rfl
 have D9:∀ {G:mW} {gv tv:Value},(yx r x G gv tv)[15]?=some tv:=rfl
 rw[l1.ld (i:=1) rfl,WK,za,zx,za,Zm]
 refine⟨fun hs=>out l1 (by unfold ZY;rw[aH heq,aU hs]),fun hs=>?_⟩
 have DX:¬ G.step=false:=by rw[hs];decide
 refine Zg.mk (fun t H'=>H'=H1/\t.1=.bool (decide (a<1\/x.B<=a\/(x.logAt<=a/\a<x.logAt+x.L)))) ?_ ?_
 rotate_left
 · rw[yp,za,zb]
   refine⟨fun h1=>⟨rfl,by rw[gU (show a<1\/x.B<=a\/(x.logAt<=a/\a<x.logAt+x.L) from .inl (by omega))]⟩,fun h1=>?_⟩
   rw[l1.ld (i:=1) rfl,g1,za,zN,za,zb]
   refine⟨fun h2=>⟨rfl,by rw[gU (show a<1\/x.B<=a\/(x.logAt<=a/\a<x.logAt+x.L) from .inr (.inl h2))]⟩,fun h2=>?_⟩
   rw[l1.ld (i:=1) rfl,g4,za,zN,za,zb]
   refine⟨fun h3=>?_,fun h3=>⟨rfl,by rw[cH (show ¬ (a<1\/x.B<=a\/(x.logAt<=a/\a<x.logAt+x.L)) by omega)]⟩⟩
   rw[za,l1.ld (i:=1) rfl,g2,za,ze,za,zd (by omega) (by omega),zk,za]
   exact⟨rfl,by rw[ZO (show(a<x.logAt+x.L)↔(a<1\/x.B<=a\/(x.logAt<=a/\a<x.logAt+x.L)) by omega)]⟩
 rintro⟨t,u⟩ H2 ⟨rfl,vM⟩
 simp only at vM
 subst vM
 rw[zb]
 refine⟨fun hb=>out l1 (by unfold ZY;rw[aH heq,aH DX,aU hb]),fun hb=>?_⟩
 refine OJ (l1.at (i:=1) rfl) (l1.sv (i:=3) rfl).sr (by omega) ?_
 refine Zg.mk (fun t H'=>H'=H2/\t.1=.bool (decide (a ∉ G.wrote/\G.room<=(G.wrote.length:Int)))) ?_ ?_
 rotate_left
 · rw[zx,za,Zm]
   refine⟨fun Wn=>?_,fun hi=>⟨rfl,?_⟩⟩
   · rw[jq]at Wn
     rw[l1.ld (i:=1) rfl,D9,za,(l1.sv (i:=3) rfl).sr.j9 Z0,za,bR,l1.ld (i:=1) rfl,g14,za,zN,za]
     exact⟨rfl,by rw[ZO (show(G.room<=(G.wrote.length:Int))↔(a ∉ G.wrote/\G.room<=(G.wrote.length:Int)) from⟨fun h=>⟨Wn,h⟩,fun h=>h.2⟩)]⟩
   · rw[iS]at hi
     rw[cH (fun h=>h.1 hi)]
 rintro⟨t,u⟩ H5 ⟨rfl,vM⟩
 simp only at vM
 subst vM
 rw[zb]
 refine⟨fun hr=>out l1 (by unfold ZY;rw[aH heq,aH DX,aH hb,aU hr]),fun hr=>?_⟩
 have e0:ZY x D G a d=({ G with wrote:=Y0 G.wrote a,group:=qQ G.group a d },0):=by unfold ZY;rw[aH heq,aH DX,aH hb,aH hr]
 refine Zg.mk (fun _ H'=>∃ tv',Lo O H H' (yT w r D x { G with wrote:=Y0 G.wrote a } gv tv'++[.box b1 d 65])) ?_ ?_
 rotate_left
 · rw[zx,za,Zm]
   refine⟨fun Wn=>?_,fun hi=>⟨tv,?_⟩⟩
   · rw[jq]at Wn
     rw[l1.ld (i:=1) rfl,D9,za]
     refine l1.qY Lb C7 (i:=3) (c:=nI a) rfl rfl (by omega) (by omega) rfl (by unfold zv;rw[<- iV];rfl) (by rw[bR];omega) fun tv' H3 l3=>?_
     have lT:=(l3.sv (i:=3) rfl).one
     refine l3.st (i:=1) (j:=15) (v:=tv') rfl (by exact(by decide:15<18)) lT.2 lT.1 fun H4 l4=>⟨tv',?_⟩
     rw[show Y0 G.wrote a=G.wrote++[a] by unfold Y0;rw[aH Wn]]
     unfold yT
     simp only[cU]
     exact l4
   · rw[iS]at hi
     rw[show Y0 G.wrote a=G.wrote by unfold Y0;rw[aU hi]]
     exact l1
 rintro _ H6 ⟨tv',l6⟩
 generalize Y0 G.wrote a=W at e0 l6
 refine zF.mk (fun t H'=>H'=H6/\∃ i:Nat,i<=G.group.length/\t=(zg i,())/\∀ y∈G.group.take i,y.1≠a) (fun t _=>mi t.1 fun i=>(G.group.length - i).toNat) ⟨rfl,0,by omega,rfl,by simp⟩ ?_
 rintro _ H7 ⟨rfl,i,hi,rfl,kG⟩
 have h3:=(l6.sv (i:=2) rfl).sr
 rw[l6.ld (i:=1) rfl,KR,za,h3.j9 FE,za,bR,zk,za,zb]
 refine⟨fun kc=>?_,fun lA=>?_⟩
 · have kI:i<G.group.length:=by
     have:(i:Int)<(G.group.length:Int):=kc
     omega
   have hgi:G.group[i]?=some G.group[i]:=bU kI
   have lP:(G.group.map zy)[i]?=some (zy G.group[i]):=by rw[dR,hgi];rfl
   have uL:G.group[i]∈G.group:=ju kI
   have mR:G.group.take (i+1)=G.group.take i++[G.group[i]]:=fU kI
   generalize G.group[i]=y at lP uL mR hgi
   have hyb:=sY y uL
   obtain⟨b4,o,PO,lI,kE⟩:=h3.el lP
   rw[za,PO,za,zc,za,lI 0 (by omega),yg,za,zp,za,zb]
   refine⟨fun he=>?_,fun jZ=>?_⟩
   · rw[za,l6.je (i:=4) (n:=1024) rfl hd.size,za]
     rw[M1 kG hgi he]at e0
     obtain⟨b5,o5,ha5,hp⟩:=l6.Vj (K:=fun H8=>R (.int .i64 0) H8) (i:=2) (x:=1) (m:=1024) (u:=d) rfl lP (by omega) hd.size (by rw[AD hyb hd];exact Z8 (x:=(y.1,d)) hd) hd.ok fun H8 l8=>by
       rw[AD hyb hd]at l8
       refine out (gv':=gv) (tv':=tv') (G':={ G with wrote:=W,group:=G.group.set i (y.1,d) }) ?_ e0
       unfold yT
       simp only[List.map_set]
       exact l8
     rw[ha5,za,zc,za]
     exact hp
   · rw[ze,za,zE,zr (by omega)]
     refine⟨⟨rfl,i+1,by omega,rfl,fun z hz=>?_⟩,by simp only[zu];omega⟩
     rw[mR]at hz
     rcases fH.1 hz with e2 | e2
     · exact kG z e2
     · rw[eU.1 e2];exact jZ
 · have ei:i=G.group.length:=by
     have:¬ (i:Int)<(G.group.length:Int):=lA
     omega
   subst ei
   rw[jk]at kG
   rw[IL kG]at e0
   rw[za,l6.je (i:=4) (n:=1024) rfl hd.size,za,TH hd,za,zj]
   intro H9 e9
   refine(l6.ext e9).Jy ahB adH (i:=2) (c:=zy (a,d)) rfl rfl (by omega) (by omega) (zZ (x:=(a,d)) hd) (Z8 (x:=(a,d)) hd) (by
     have:((G.group.map zy).length+1)*1032<=2 ^ 47:=by rw[bR];omega
     exact this) fun gv' tF oC=>?_
   rw[zj]
   intro sD se
   have oM:=oC.ext se
   have lT:=(oM.sv (i:=2) rfl).one
   refine oM.st (i:=1) (j:=12) (v:=gv') rfl (by exact(by decide:12<18)) lT.2 lT.1 fun By vh=>?_
   rw[zj]
   intro DH JK
   refine out (gv':=gv') (tv':=tv') (G':={ G with wrote:=W,group:=G.group++[(a,d)] }) ?_ e0
   unfold yT
   simp only[cU]
   exact vh.ext JK
end
theorem MS(l:List (Int × jn))(a:Int):z9 l a=match l.find? fun x=>decide (x.1=a) with
   | some x=>x.2
   | none=>zB:=by
 unfold z9
 cases l.find? fun x=>decide (x.1=a)<;>rfl
theorem EH{a:Int}{b:jn}{x:Int × jn}{l m:List (Int × jn)}(h:a<=x.1):yt a b m (x :: l) false=yt a b (if x.1=a then m++[(a,b)] else m++[(a,b)]++[x]) l true:=by
 have e:(if false=false/\a<=x.1 then(m++[(a,b)],true) else(m,false))=(m++[(a,b)],true):=aU ⟨rfl,h⟩;show yt a b (if x.1=a then(if false=false/\a<=x.1 then(m++[(a,b)],true) else(m,false)).1 else(if false=false/\a<=x.1 then(m++[(a,b)],true) else(m,false)).1++[x]) l (if false=false/\a<=x.1 then(m++[(a,b)],true) else(m,false)).2=_;rw[e]
theorem vf{a:Int}{b:jn}{x:Int × jn}{l m:List (Int × jn)}{d:Bool}(h:¬ (d=false/\a<=x.1)):yt a b m (x :: l) d=yt a b (if x.1=a then m else m++[x]) l d:=by
 have e:(if d=false/\a<=x.1 then(m++[(a,b)],true) else(m,d))=(m,d):=aH h;show yt a b (if x.1=a then(if d=false/\a<=x.1 then(m++[(a,b)],true) else(m,d)).1 else(if d=false/\a<=x.1 then(m++[(a,b)],true) else(m,d)).1++[x]) l (if d=false/\a<=x.1 then(m++[(a,b)],true) else(m,d)).2=_;rw[e]
theorem xG{a c:Int}{b:jn}(h:c≠a):∀ (l m:List (Int × jn)) (d:Bool),(yt a b m l d).find? (fun x=>decide (x.1=c))=(m++l).find? fun x=>decide (x.1=c)
 | [],m,d=>by
  unfold yt;rw[jY];split
  ·rfl
  ·rw[jH,j8 (by simpa using fun e=>h e.symm),List.find?_nil];simp
 | x :: l,m,d=>by
  have q:∀ (m':List (Int × jn)),m'.find? (fun x=>decide (x.1=c))=m.find? (fun x=>decide (x.1=c))->((if x.1=a then m' else m'++[x])++l).find? (fun x=>decide (x.1=c))=(m++x :: l).find? fun x=>decide (x.1=c):=by
   intro m' hm;by_cases e:x.1=a
   ·rw[aU e,jH,jH,hm,j8 (by simpa using fun e2=>h (e2.symm.trans e))]
   ·rw[aH e,jP,jH,hm,<- jH];rfl
  by_cases hd:d=false/\a<=x.1
  ·rw[hd.1,EH hd.2,xG h l];refine q _ ?_;rw[jH,j8 (by simpa using fun e=>h e.symm),List.find?_nil];simp
  ·rw[vf hd,xG h l];exact q _ rfl
theorem tV{a:Int}{b:jn}:∀ (l m:List (Int × jn)) (d:Bool),(d=false->m.find? (fun x=>decide (x.1=a))=none)->(yt a b m l d).find? (fun x=>decide (x.1=a))=if d=true then m.find? (fun x=>decide (x.1=a)) else some (a,b)
 | [],m,d,h=>by
  unfold yt;cases d with
  | true=>rfl
  | false=>
   rw[aH (by decide),aH (by decide),jH,h rfl,jT (by simp)];rfl
 | x :: l,m,d,h=>by
  cases d with
  | true=>
   rw[vf (fun e=>by cases e.1),tV l _ true (fun e=>by cases e),aU rfl,aU rfl];by_cases e:x.1=a
   ·rw[aU e]
   ·rw[aH e,jH,j8 (by simpa using e),List.find?_nil];simp
  | false=>
   have h:=h rfl;by_cases hle:a<=x.1
   ·rw[EH hle,tV l _ true (fun e=>by cases e),aU rfl,aH (fun e:false=true=>by cases e)];have e1:(m++[(a,b)]).find? (fun x=>decide (x.1=a))=some (a,b):=by rw[jH,h,jT (by simp)];rfl
    split
    ·exact e1
    ·rw[jH,e1];rfl
   ·have jZ:x.1≠a:=by omega
    rw[vf (fun e=>hle e.2),aH jZ,tV l _ false (fun _=>by rw[jH,h,j8 (by simpa using jZ),List.find?_nil];rfl),aH (fun e:false=true=>by cases e),aH (fun e:false=true=>by cases e)]
theorem RL(l:List (Int × jn))(a:Int)(b:jn)(c:Int):z9 (pw l a b) c=if c=a then b else z9 l c:=by
 unfold pw;rw[MS];by_cases e:c=a
 ·subst e;rw[aU rfl,tV l [] _ (fun _=>rfl)];by_cases hz:b=zB
  ·rw[aU (gU hz)];exact hz.symm
  ·rw[aH (by simpa using hz)]
 ·rw[aH e,xG e,List.nil_append,MS]
theorem Cv:∀ (w l:List (Int × jn)) (c:Int),z9 (yX l w) c=match w.reverse.find? fun x=>decide (x.1=c) with
   | some x=>x.2
   | none=>z9 l c
 | [],l,c=>rfl
 | x :: w,l,c=>by
   show z9 (yX (pw l x.1 x.2) w) c=_
   rw[Cv w,List.reverse_cons,jH]
   cases w.reverse.find? fun x=>decide (x.1=c) with
   | some y=>rfl
   | none=>
     show z9 (pw l x.1 x.2) c=_
     rw[RL]
     by_cases e:c=x.1
     · rw[aU e,jT (by simpa using e.symm)];rfl
     · rw[aH e,j8 (by simpa using fun e2=>e e2.symm)];rfl
noncomputable def WL(D:kj):Int:=if D.kF=true then D.left else -1
structure oX(n:Nat)(ok:Bool)(D D':kj):Prop where
 run:Pz n ok (WL D) D.count D'.dead (WL D') D'.count
 nn:D'.n=D.n
 owner:D'.owner=D.owner
 jS:D'.jS=D.jS
 seen:D'.seen=D.seen
 left:D'.kF=true->0<=D'.left
theorem oX.alive{n:Nat}{D D':kj}(h:oX n true D D'):D'.dead=false:=by
 rcases h.run with ⟨_,h2,_⟩ | ⟨h1,_⟩
 ·exact h2
 ·cases h1
theorem oX.step{n1 n2 n:Nat}{ok:Bool}{s s1 s2:kj}(h:oX n1 true s s1)(g:oX n2 ok s1 s2)(hn:n=n1+n2):oX n ok s s2:=
 ⟨h.run.step g.run hn,g.nn.trans h.nn,g.owner.trans h.owner,g.jS.trans h.jS,g.seen.trans h.seen,g.left⟩
theorem oX.fail{n1 n:Nat}{s s1:kj}(h:oX n1 false s s1)(hn:n1<=n):oX n false s s1:=⟨h.run.fail hn,h.nn,h.owner,h.jS,h.seen,h.left⟩
section
variable{D:kj}
theorem ads(hl:D.kF=true->0<=D.left) : -1<=WL D:=by
 unfold WL;split
 ·rename_i e;have:=hl e;omega
 ·omega
theorem oX.zero(h:D.dead=false)(hl:D.kF=true->0<=D.left):oX 0 true D D:=⟨by rw[h];exact Pz.zero (ads hl),rfl,rfl,rfl,rfl,hl⟩
theorem Ii(h:D.dead=false)(hl:D.kF=true->0<=D.left):(D.lets.2=true/\oX 1 true D D.lets.1)\/(D.lets.2=false/\oX 1 false D D.lets.1):=by
 unfold kj.lets;by_cases e:D.kF=true/\D.left=0
 ·rw[aU e];refine .inr ⟨rfl,.inr ⟨rfl,rfl,?_⟩,rfl,rfl,rfl,rfl,hl⟩;unfold WL;show 0<=(if D.kF=true then D.left else -1)/\(if D.kF=true then D.left else -1)<((1:Nat):Int)/\(if D.kF=true then D.left else -1)=0/\D.count=D.count+(if D.kF=true then D.left else -1);rw[aU e.1];omega
 ·rw[aH e];refine .inl ⟨rfl,.inl ⟨rfl,h,rfl,?_⟩,rfl,rfl,rfl,rfl,fun hf=>?_⟩
  ·unfold WL;show(if D.kF=true then D.left else -1)<0/\(if D.kF=true then(if D.kF=true then D.left - 1 else D.left) else -1)=(if D.kF=true then D.left else -1)\/((1:Nat):Int)<=(if D.kF=true then D.left else -1)/\(if D.kF=true then(if D.kF=true then D.left - 1 else D.left) else -1)=(if D.kF=true then D.left else -1) - ((1:Nat):Int);by_cases hf:D.kF=true
   ·have:=hl hf;have:D.left≠0:=fun e2=>e ⟨hf,e2⟩;rw[aU hf,aU hf,aU hf];omega
   ·rw[aH hf,aH hf];omega
  ·have hf:D.kF=true:=hf;show 0<=(if D.kF=true then D.left - 1 else D.left);have:=hl hf;have:D.left≠0:=fun e2=>e ⟨hf,e2⟩;rw[aU hf];omega
theorem Xv(a:Int)(b:jn)(c:Int):kj.at_ { D with wait:=D.wait++[(a,b)] } c=if c=a then b else D.at_ c:=by
 unfold kj.at_;simp only[List.reverse_append,List.reverse_cons,List.reverse_nil,List.nil_append,List.singleton_append];by_cases e:c=a
 ·rw[aU e,jT (by simpa using e.symm)]
 ·rw[aH e,j8 (by simpa using fun e2=>e e2.symm)]
theorem vD(h:D.dead=false)(hl:D.kF=true->0<=D.left){a:Int}(b:jn)(ha:0<=a)(hb:a<D.n) :
   ((D.write a b).2=0/\oX 1 true D (D.write a b).1/\∀ c,(D.write a b).1.at_ c=if c=a then b else D.at_ c)\/((D.write a b).2≠0/\oX 1 false D (D.write a b).1):=by
 unfold kj.write
 rw[aH (by rw[h];decide),aH (by omega)]
 rcases Ii h hl with ⟨h1,h2⟩ | ⟨h1,h2⟩
 · rw[aH (by rw[h1];decide)]
   refine .inl ⟨rfl,⟨h2.run,h2.nn,h2.owner,h2.jS,h2.seen,h2.left⟩,fun c=>?_⟩
   obtain⟨e1,e2,e3⟩:=tT D
   have:∀ (E:kj) (o:List (Array Value)),kj.at_ { E with wait:=E.wait++[(a,b)],ops:=o } c=if c=a then b else E.at_ c:=fun E o=>Xv (D:=E) a b c
   rw[this]
   have:D.lets.1.at_ c=D.at_ c:=by unfold kj.at_;rw[e1,e3]
   rw[this]
 · rw[aU h1]
   exact .inr ⟨(by decide:(3:Int)≠0),h2⟩
theorem wS(h:D.dead=false)(hl:D.kF=true->0<=D.left) :
   (D.ja.2=0/\oX 1 true D D.ja.1/\∀ c,D.ja.1.at_ c=D.at_ c)\/(D.ja.2≠0/\oX 1 false D D.ja.1):=by
 unfold kj.ja
 rw[aH (by rw[h];decide)]
 rcases Ii h hl with ⟨h1,h2⟩ | ⟨h1,h2⟩
 · rw[aH (by rw[h1];decide)]
   refine .inl ⟨rfl,⟨h2.run,h2.nn,h2.owner,h2.jS,h2.seen,h2.left⟩,fun c=>?_⟩
   obtain⟨e1,e2,e3⟩:=tT D
   show z9 (yX D.lets.1.held D.lets.1.wait) c=D.at_ c
   rw[e1,e3,Cv]
   rfl
 · rw[aU h1]
   exact .inr ⟨(by decide:(3:Int)≠0),h2⟩
theorem Ji(h:D.dead=false)(hl:D.kF=true->0<=D.left){a:Int}(c:jn)(ha:0<=a)(hb:a<D.n) :
   ∃ D' ok,sC D a c=(D',ok)/\oX 3 ok D D'/\(ok=true->∀ b,D'.at_ b=if b=a then c else D.at_ b):=by
 unfold sC
 rcases wS h hl with ⟨h1,h2,h3⟩ | ⟨h1,h2⟩
 · rw[aH (by rw[h1];decide)]
   rcases vD h2.alive h2.left c ha (by rw[h2.nn];exact hb) with ⟨g1,g2,g3⟩ | ⟨g1,g2⟩
   · rw[aH (by rw[g1];decide)]
     have hg:=h2.step g2 (n:=2) rfl
     rcases wS hg.alive hg.left with ⟨q1,q2,q3⟩ | ⟨q1,q2⟩
     · exact⟨_,_,rfl,by rw[gU q1];exact hg.step q2 rfl,fun _ b=>by rw[q3,g3,h3]⟩
     · exact⟨_,_,rfl,by rw[cH q1];exact hg.step q2 rfl,fun e=>absurd (ks e) q1⟩
   · rw[aU g1]
     exact⟨_,_,rfl,(h2.step g2 (n:=2) rfl).fail (by omega),fun e=>by cases e⟩
 · rw[aU h1]
   exact⟨_,_,rfl,h2.fail (by omega),fun e=>by cases e⟩
end
theorem Ni{at0:Int}:∀ (l:List (Int × jn)) (i:Nat) (D:kj),D.dead=false->(D.kF=true->0<=D.left)->0<=at0->at0+((i+l.length:Nat):Int)<=D.n ->
   ∃ D' ok,Jh at0 l i D=(D',ok)/\oX l.length ok D D'/\(ok=true->∀ b,b<at0\/at0+((i+l.length:Nat):Int)<=b->D'.at_ b=D.at_ b)
 | [],i,D,ha,hf,h0,h1=>⟨D,true,rfl,oX.zero ha hf,fun _ _ _=>rfl⟩
 | x :: l,i,D,ha,hf,h0,h1=>by
   rw[gR]at h1 ⊢
   unfold Jh
   rcases vD ha hf (a:=at0+(i:Int)) x.2 (by omega) (by omega) with ⟨g1,g2,g3⟩ | ⟨g1,g2⟩
   · rw[aH (by rw[g1];decide)]
     obtain⟨D',ok,q1,q2,q3⟩:=Ni (at0:=at0) l (i+1) (D.write (at0+(i:Int)) x.2).1 g2.alive g2.left h0 (by rw[g2.nn];omega)
     refine⟨D',ok,q1,g2.step q2 (by omega),fun kD b hb=>?_⟩
     rw[q3 kD b (by omega),g3,aH (by omega)]
   · rw[aU g1]
     exact⟨_,_,rfl,g2.fail (by omega),fun e=>by cases e⟩
theorem Nk:∀ (l:List (Int × jn)) (D:kj),D.dead=false->(D.kF=true->0<=D.left)->(l.map (·.1)).Nodup->(∀ x∈l,0<=x.1/\x.1<D.n) ->
   ∃ D' ok,Nn l D=(D',ok)/\oX l.length ok D D'/\(ok=true->∀ b,D'.at_ b=match l.find? fun y=>decide (y.1=b) with
     | some y=>y.2
     | none=>D.at_ b)
 | [],D,ha,hf,hn,hl=>⟨D,true,rfl,oX.zero ha hf,fun _ _=>rfl⟩
 | x :: l,D,ha,hf,hn,hl=>by
   rw[jb,jo]at hn
   have hx:=hl x eH
   rw[gR]
   unfold Nn
   rcases vD ha hf (a:=x.1) x.2 hx.1 hx.2 with ⟨g1,g2,g3⟩ | ⟨g1,g2⟩
   · rw[aH (by rw[g1];decide)]
     obtain⟨D',ok,q1,q2,q3⟩:=Nk l (D.write x.1 x.2).1 g2.alive g2.left hn.2 fun y hy=>by
       rw[g2.nn];exact hl y (dH _ hy)
     refine⟨D',ok,q1,g2.step q2 (by omega),fun kD b=>?_⟩
     rw[q3 kD b]
     by_cases e:x.1=b
     · rw[jT (by simpa using e)]
       have:l.find? (fun y=>decide (y.1=b))=none:=j0.2 fun y hy he=>hn.1 (iT.2 ⟨y,hy,by rw[e];simpa using he⟩)
       rw[this]
       show(D.write x.1 x.2).1.at_ b=x.2
       rw[g3,aU e.symm]
     · rw[j8 (by simpa using e)]
       cases l.find? fun y=>decide (y.1=b) with
       | some y=>rfl
       | none=>
         show(D.write x.1 x.2).1.at_ b=D.at_ b
         rw[g3,aH (fun e2=>e e2.symm)]
   · rw[aU g1]
     exact⟨_,_,rfl,g2.fail (by omega),fun e=>by cases e⟩
theorem Nj{at0:Int}:∀ (l:List (Int × jn)) (i:Nat) {D:kj} {k:Nat},nw D k->(∀ x∈l,jR x.2)->nw (Jh at0 l i D).1 (k+l.length)
 | [],i,D,k,h,hl=>h
 | x :: l,i,D,k,h,hl=>by
  have hw:=h.write (at0+(i:Int)) (hl x eH);rw[gR];unfold Jh;split
  ·exact hw.mono (by omega)
  ·exact(Nj l (i+1) hw fun y hy=>hl y (dH _ hy)).mono (by omega)
theorem Nl:∀ (l:List (Int × jn)) {D:kj} {k:Nat},nw D k->(∀ x∈l,jR x.2)->nw (Nn l D).1 (k+l.length)
 | [],D,k,h,hl=>h
 | x :: l,D,k,h,hl=>by
  have hw:=h.write x.1 (hl x eH);rw[gR];unfold Nn;split
  ·exact hw.mono (by omega)
  ·exact(Nl l hw fun y hy=>hl y (dH _ hy)).mono (by omega)
theorem Jj{D:kj}{k:Nat}(h:nw D k)(a:Int){c:jn}(hc:jR c):nw (sC D a c).1 (k+3):=by
 unfold sC;split
 ·exact h.ja.mono (by omega)
 ·split
  ·exact(h.ja.write a hc).mono (by omega)
  ·exact(h.ja.write a hc).ja
section
variable{H:Hp}{R:Value->Hp->Prop}{w r:Nat}{D:kj}{G:mW}{x:kh}{O:Nat->Prop}
theorem Jc(h:(ZN w r D x G).at_ H O):∃ gv tv,H[w]?=some (.cells (yx r x G gv tv) 128):=by
 obtain⟨gv,tv,ha⟩:=h;have l0:Lo O H H (yT w r D x G gv tv):=Lo.open ha;exact⟨gv,tv,l0.at (i:=1) rfl⟩
noncomputable def pA(D:kj)(G:mW):Bool:=decide (Z4 D G=0/\G.step=true)
theorem Jd(h:(ZN w r D x G).at_ H O)(k:R (.bool (pA D G)) H):Fc TP 68 #[zD w] H R:=by
 obtain⟨gv,tv,ht⟩:=Jc h;refine fn68 ?_;simp only[sh68,Ul,UA,Ub,UI,Uf,Uv,U0,zl,zc,aR,bH,Nat.reduceAdd,za];refine yu h ?_;unfold pA at k;rw[zp,za,zb];refine⟨fun he=>?_,fun jZ=>?_⟩
 ·rw[zi ht,show(yx r x G gv tv)[13]?=some (.bool G.step) from rfl,za];cases hs:G.step with
  | true=>rw[gU ⟨he,hs⟩]at k;exact k
  | false=>rw[cH (fun h=>by rw[hs]at h;exact absurd h.2 (by decide))]at k;exact k
 ·rw[cH (fun h=>jZ h.1)]at k;exact k
noncomputable def YY(x:kh)(D:kj)(G:mW):kh:=if Z4 D G≠0 then⟨0,0,0,0,0,0,0,0,0⟩ else x
theorem rP(h:(ZN w r D x G).at_ H O)(k:∀ H' O',kS O O' H H'->(ZN w r D x G).at_ H' O'->R (.agg (YY x D G).cells) H'):Fc TP 60 #[zD w] H R:=by
 obtain⟨gv,tv,ha⟩:=h;refine fn60 ?_;simp only[sh60,UL,UA,Us,Ub,Uz,UI,Uf,Uv,zl,zc,aR,bH,Nat.reduceAdd,za,yq,tC];refine(Lo.open ha).jc fun b1 H1 e1 l1=>?_;have l1:Lo O H H1 (yT w r D x G gv tv++[.box b1 vQ 62]):=l1;obtain⟨O1,pH,h1⟩:∃ O',kS O O' H H1/\(ZN w r D x G).at_ H1 O':=by
  obtain⟨O',st,ha⟩:=Lo.close l1;exact⟨O',st,_,_,ha⟩
 have kz:∀ {c:kh},YY x D G=c->Pu (zY (some 9) (.pointer (some ⟨b1,0,none⟩)) (.agg c.cells) H1) fun H'=>Pu (zX (some (some 9)) (.pointer (some ⟨b1,0,none⟩)) H') fun y=>R y H':=fun {c} he=>by
  rw[he]at k;refine l1.ret (i:=4) (K:=fun y H4=>R y H4) rfl rfl rfl (by unfold zv;rw[<- iV];rfl) fun H' l'=>?_;obtain⟨O',st,ha⟩:=Lo.close (l:=yT w r D x G gv tv) (r:=[_]) l';exact k H' O' st ⟨_,_,ha⟩
 refine yu h1 ?_;rw[zn,za,zb];refine⟨fun jZ=>?_,fun heq=>?_⟩
 ·exact kz (c:=⟨0,0,0,0,0,0,0,0,0⟩) (by unfold YY;rw[aU jZ])
 ·have hc:(yx r x G gv tv).extract 1 (1+9)=x.cells:=rfl;rw[Za (l1.at (i:=1) rfl) (by exact(by decide:1+9<=18)),za,hc];exact kz (by unfold YY;rw[aH heq])
end
structure lZ(B L:Int)(k m:Nat)(D:kj)(G:mW)(S:LS):Prop where
 stop:D.dead=S.stop
 jC:WL D=S.jC
 made:D.count=S.made
 gm:G.made=true
 nS:S.dead=false↔D.ours G.mine=true
 fit:nw D k
 seen:0<=D.seen/\D.seen<=m
 jS:0<=D.jS/\D.jS<4611686018427387904
 nB:D.n=B
 co:G.me=S.co
 st:G.over=S.st
 Jl:0<=S.co/\S.co<=k/\0<=S.st/\S.st<=k
 lY:G.group.map (·.1)=S.lY
 SF:∀ y∈G.group,jR y.2
 op:G.step=S.op
 room:G.room=S.room
 wr:G.wrote=S.wr
 live:S.dead=false->∀ a,0<=a->a<B->nZ L a->wN D G a=S.view a
section
variable{B L I:Int}{k m:Nat}{D:kj}{G:mW}{S:LS}
theorem lZ.mono{k' m':Nat}(h:lZ B L k m D G S)(hk:k<=k')(hm:m<=m'):lZ B L k' m' D G S:={ h with fit:=h.fit.mono hk,seen:=by have:=h.seen;omega,Jl:=by have:=h.Jl;omega }
theorem lZ.Dd(h:lZ B L k m D G S):Z4 D G=S.nS:=by
 unfold Z4 LS.nS;rw[aU h.gm];cases e:S.dead with
 | true=>
  have:¬ D.ours G.mine=true:=fun h2=>by rw[h.nS.2 h2]at e;cases e
  rw[aU rfl,aH this]
 | false=>rw[aU (h.nS.1 e)];rfl
theorem lZ.alive(h:lZ B L k m D G S)(hd:S.dead=false):D.dead=false:=by
 have:=h.nS.1 hd;unfold kj.ours at this;exact(ks this).1
theorem lZ.left(h:lZ B L k m D G S):D.kF=true->0<=D.left:=fun e=>(h.fit.left e).1
theorem lZ.dok(h:lZ B L k m D G S)(hs:pP B L S)(hL:L<=256)(hk:k<900000000)(hm:m<1000000000000):DOk D G:=by
 have hf:=h.fit;have h1:=hf.sum;have h2:=hf.ow;have h3:=h.seen;have h4:=hs.CP;have h5:G.group.length=S.lY.length:=by rw[<- h.lY,bR]
 exact⟨⟨hf.held,hf.wait,by omega,by omega,by omega,h.jS⟩,h.SF,by omega⟩
theorem lZ.adK(h:lZ B L k m D G S)(hs:pP B L S)(hL:L<=256)(hk:k<900000000):XC D G k:=by
 have h4:=hs.CP;have h5:G.group.length=S.lY.length:=by rw[<- h.lY,bR]
 have h6:=h.Jl;exact⟨h.fit,h.SF,by omega,by rw[h.co];omega,by rw[h.st];omega⟩
theorem VL{D':kj}{x:Int}(h:D.ours x=true)(hd:D'.dead=false)(ho:D'.owner=D.owner):D'.ours x=true:=by
 unfold kj.ours at h ⊢;have:=ks h;exact gU ⟨hd,this.2.1,by rw[ho];exact this.2.2⟩
theorem uf(h:lZ B L k m D G S){D':kj}(hr:oX (2*S.lY.length+6) false D D')(hf:nw D' (k+2*S.lY.length+6)):S.tq.2=3/\lZ B L (k+2*S.lY.length+7) m D' G S.tq.1:=by
 rcases hr.run with ⟨h1,_⟩ | ⟨h1,h2,h3,h4,h5,h6⟩
 ·cases h1
 ·rw[h.jC]at h3 h4 h6;rw[h.made]at h6;have e:S.tq=({ S with stop:=true,dead:=true,made:=S.made+S.jC,jC:=0 },3):=by unfold LS.tq;rw[aH (by omega)]
  rw[e];refine⟨rfl,h2,h5,h6,h.gm,⟨fun e=>(by cases e),fun e=>?_⟩,hf.mono (by omega),by rw[hr.seen];exact h.seen,by rw[hr.jS];exact h.jS,hr.nn.trans h.nB,h.co,h.st,(by have:=h.Jl;show 0<=S.co/\S.co<=_/\0<=S.st/\S.st<=_;omega),h.lY,h.SF,h.op,h.room,h.wr,fun e=>by cases e⟩;unfold kj.ours at e;have:=(ks e).1;rw[h2]at this;cases this
theorem Jg(h:lZ B L k m D G S)(hs:pP B L S)(hL:32<=L/\L<=256)(WH:1+L<=B)(hd:S.dead=false)(DX:S.op=false) :
   (vH (zf B L I) D G).2.2=S.tq.2/\lZ B L (k+2*S.lY.length+7) m (vH (zf B L I) D G).1 (vH (zf B L I) D G).2.1 S.tq.1:=by
 have SC:=h.alive hd
 have hlen:G.group.length=S.lY.length:=by rw[<- h.lY,bR]
 have GU:=hs.CP
 have hx:(zf B L I).logAt=1:=rfl
 have oa:mF (zf B L I) (G.group.map (·.1)):=by
   rw[h.lY]
   exact⟨by show _<=L - 1;omega,hs.nd,fun t ht=>hs.ins t ht⟩
 obtain⟨D1,ok1,e1,r1,n1⟩:=Ni (at0:=2) G.group 0 D SC h.left (by omega) (by rw[h.nB];omega)
 have e1:Jh ((zf B L I).logAt+1) G.group 0 D=(D1,ok1):=e1
 have f1:nw D1 (k+G.group.length):=by
   have:=Nj (at0:=(zf B L I).logAt+1) G.group 0 h.fit h.SF
   rw[e1]at this;exact this
 cases ok1 with
 | false=>
   obtain⟨g1,g2⟩:=uf h (r1.fail (n:=2*S.lY.length+6) (by omega)) (f1.mono (by omega))
   rw[aaE e1]
   exact⟨g1.symm,g2⟩
 | true=>
 obtain⟨D2,ok2,e2,r2,n2⟩:=Ji (D:=D1) r1.alive r1.left (a:=(zf B L I).logAt) (if mF (zf B L I) (G.group.map (·.1)) then sZ (G.group.map (·.1)) else zB) (by omega) (by rw[r1.nn,h.nB];omega)
 have Q0:=r1.step r2 (n:=G.group.length+3) rfl
 have f2:nw D2 (k+G.group.length+3):=by
   have:=Jj f1 (zf B L I).logAt (c:=if mF (zf B L I) (G.group.map (·.1)) then sZ (G.group.map (·.1)) else zB) (by rw[aU oa];exact Gj _)
   rw[e2]at this;exact this
 cases ok2 with
 | false=>
   obtain⟨g1,g2⟩:=uf h (Q0.fail (n:=2*S.lY.length+6) (by omega)) (f2.mono (by omega))
   rw[aaD e1 e2]
   exact⟨g1.symm,g2⟩
 | true=>
 obtain⟨D3,ok3,e3,r3,n3⟩:=Nk G.group D2 Q0.alive Q0.left (by rw[h.lY];exact hs.nd) (fun x hx=>by
   have:=hs.ins x.1 (by rw[<- h.lY];exact iT.2 ⟨x,hx,rfl⟩)
   rw[Q0.nn,h.nB];omega)
 have B0:=Q0.step r3 (n:=2*G.group.length+3) (by omega)
 have f3:nw D3 (k+2*G.group.length+3):=by
   have:=Nl G.group f2 h.SF
   rw[e3]at this;exact this.mono (by omega)
 cases ok3 with
 | false=>
   obtain⟨g1,g2⟩:=uf h (B0.fail (n:=2*S.lY.length+6) (by omega)) (f3.mono (by omega))
   rw[aaC e1 e2 e3]
   exact⟨g1.symm,g2⟩
 | true=>
 obtain⟨D4,Rl,e4,r4,n4⟩:=Ji (D:=D3) B0.alive B0.left (a:=(zf B L I).logAt) zB (by omega) (by rw[B0.nn,h.nB];omega)
 have rA:=B0.step r4 (n:=2*S.lY.length+6) (by omega)
 have f4:nw D4 (k+2*S.lY.length+6):=by
   have:=Jj f3 (zf B L I).logAt z6
   rw[e4]at this;exact this.mono (by omega)
 cases Rl with
 | false=>
   obtain⟨g1,g2⟩:=uf h rA f4
   rw[aaB e1 e2 e3 e4]
   exact⟨g1.symm,g2⟩
 | true=>
 rw[aaA e1 e2 e3 e4]
 rcases rA.run with ⟨_,h2',h3',h4'⟩ | ⟨SE,_⟩
 rotate_left
 · cases SE
 rw[h.jC]at h4'
 rw[h.made]at h3'
 have hsf:=hs.jC
 have ec:S.tq=({ S with lY:=[],co:=S.co+1,made:=S.made+(2*(S.lY.length:Int)+6),jC:=if S.jC<0 then S.jC else S.jC - (2*(S.lY.length:Int)+6) },0):=by unfold LS.tq;rw[aU (by omega)]
 rw[ec]
 refine⟨rfl,h2'.trans ((h.stop.symm.trans SC).symm),?_,?_,h.gm,?_,f4.mono (by omega),by rw[rA.seen];exact h.seen,by rw[rA.jS];exact h.jS,rA.nn.trans h.nB,?_,h.st,(by have:=h.Jl;show 0<=S.co+1/\S.co+1<=_/\0<=S.st/\S.st<=_;omega),rfl,fun y hy=>(by cases hy),h.op,h.room,h.wr,fun _ a a0 a1 a2=>?_⟩
 · show WL D4=if S.jC<0 then S.jC else S.jC - (2*(S.lY.length:Int)+6)
   split<;>omega
 · show D4.count=S.made+(2*(S.lY.length:Int)+6)
   omega
 · exact⟨fun _=>VL (h.nS.1 hd) h2' rA.owner,fun _=>hd⟩
 · show G.me+1=S.co+1
   rw[h.co]
 · show D4.at_ a=S.view a
   rw[n4 rfl,aH (by unfold nZ at a2;omega),n3 rfl,<- h.live hd a a0 a1 a2]
   unfold wN
   cases G.group.find? fun y=>decide (y.1=a) with
   | some y=>rfl
   | none=>
     show D2.at_ a=D.at_ a
     rw[n2 rfl,aH (by unfold nZ at a2;omega),n1 rfl a (by unfold nZ at a2;omega)]
theorem Zv(S:LS):S.dead=true\/S.dead=false:=by cases S.dead<;>simp
theorem Lp(h:lZ B L k m D G S){a:Int}(ha:S.dead=false->0<=a->a<B->nZ L a) :
   (zU (zf B L I) D G a).2=S.rd B a/\lZ B L k (m+1) (zU (zf B L I) D G a).1 G S:=by
 have h0:=h.mono (iU k) (mC m)
 unfold zU LS.rd
 rw[h.Dd]
 rcases Zv S with hd | hd
 · rw[aU (jM.2 hd),aU hd]
   exact⟨by show(zB,S.nS)=_;unfold LS.nS;rw[aU hd],h0⟩
 have lj:¬ S.dead=true:=by rw[hd];decide
 rw[aH (fun e=>lj (jM.1 e)),aH lj]
 by_cases hr:a<0\/B<=a
 · rw[aU (by exact hr),aU hr]
   exact⟨rfl,h0⟩
 rw[aH (by exact hr),aH hr]
 have hv:=h.live hd a (by omega) (by omega) (ha hd (by omega) (by omega))
 unfold wN at hv
 cases hf:G.group.find? fun y=>decide (y.1=a) with
 | some y=>
   rw[hf]at hv
   exact⟨by show(y.2,(0:Int))=(S.view a,0);rw[<- hv],h0⟩
 | none=>
   rw[hf]at hv
   have e:D.read a=({ D with seen:=D.seen+1 },D.at_ a,0):=by
     unfold kj.read
     rw[aH (by rw[h.alive hd];decide),aH (by rw[h.nB];exact hr)]
   rw[e]
   refine⟨by show(D.at_ a,(0:Int))=(S.view a,0);rw[<- hv],{ h with seen:=by have:=h.seen;show 0<=D.seen+1/\D.seen+1<=_;omega,fit:=⟨h.fit.held,h.fit.wait,h.fit.sum,h.fit.ow,h.fit.u1,h.fit.left,h.fit.count⟩,live:=fun hd=>h.live hd }⟩
theorem IM{a:Int}{d:jn}:∀ (l:List (Int × jn)),(qQ l a d).map (·.1)=Y0 (l.map (·.1)) a
 | []=>by unfold qQ Y0;rw[aH (by simp)];rfl
 | y :: l=>by
  unfold qQ;by_cases e:y.1=a
  ·rw[aU e];unfold Y0;rw[aU (by rw[jb,e];exact eH)];rfl
  ·rw[aH e,jb,IM l,jb];unfold Y0;by_cases h:a∈l.map (·.1)
   ·rw[aU h,aU (dH _ h)]
   ·rw[aH h,aH (fun h2=>by
     rcases jg.1 h2 with h3 | h3
     ·exact e h3.symm
     ·exact h h3)];rfl
theorem EY{a:Int}{d:jn}(b:Int):∀ (l:List (Int × jn)),(qQ l a d).find? (fun y=>decide (y.1=b))=if b=a then some (a,d) else l.find? fun y=>decide (y.1=b)
 | []=>by
  unfold qQ;by_cases e:b=a
  ·rw[aU e,jT (by simpa using e.symm)]
  ·rw[aH e,j8 (by simpa using fun e2=>e e2.symm)]
 | y :: l=>by
  unfold qQ;by_cases e:y.1=a
  ·rw[aU e];by_cases e2:b=a
   ·rw[aU e2,jT (by simpa using e.trans e2.symm),e]
   ·rw[aH e2,j8 (by simpa using fun e3=>e2 (e3.symm.trans e)),j8 (by simpa using fun e3=>e2 (e3.symm.trans e))]
  ·rw[aH e];by_cases e3:y.1=b
   ·rw[jT (by simpa using e3),aH (fun e2=>e (e3.trans e2)),jT (by simpa using e3)]
   ·rw[j8 (by simpa using e3),EY b l,j8 (by simpa using e3)]
theorem M0{a:Int}{d:jn}(hd:jR d):∀ {l:List (Int × jn)},(∀ y∈l,jR y.2)->∀ y∈qQ l a d,jR y.2
 | [],_,y,hy=>by
  unfold qQ at hy;rw[eU.1 hy];exact hd
 | z :: l,h,y,hy=>by
  unfold qQ at hy;split at hy
  ·rcases jg.1 hy with e | hy
   ·rw[e];exact hd
   ·exact h y (dH _ hy)
  ·rcases jg.1 hy with e | hy
   ·rw[e];exact h z eH
   ·exact M0 hd (fun w hw=>h w (dH _ hw)) y hy
theorem Nq(h:lZ B L k m D G S)(hL:32<=L)(a:Int){d:jn}(hd:jR d) :
   (ZY (zf B L I) D G a d).2=(S.wt B L a d).2/\lZ B L k m D (ZY (zf B L I) D G a d).1 (S.wt B L a d).1:=by
 unfold ZY LS.wt
 rw[h.Dd,h.op,h.wr,h.room]
 rcases Zv S with hde | hde
 · rw[aU (jM.2 hde),aU hde]
   exact⟨by show S.nS=_;unfold LS.nS;rw[aU hde],h⟩
 have lj:¬ S.dead=true:=by rw[hde];decide
 rw[aH (fun e=>lj (jM.1 e)),aH lj]
 by_cases ho:S.op=false
 · rw[aU ho,aU ho];exact⟨rfl,h⟩
 rw[aH ho,aH ho]
 by_cases hr:a<1+L\/B<=a
 · rw[aU (by show a<1\/B<=a\/(1<=a/\a<1+L);omega),aU hr];exact⟨rfl,h⟩
 rw[aH (by show ¬ (a<1\/B<=a\/(1<=a/\a<1+L));omega),aH hr]
 by_cases hw:a ∉ S.wr/\S.room<=(S.wr.length:Int)
 · rw[aU hw,aU hw];exact⟨rfl,h⟩
 rw[aH hw,aH hw]
 refine⟨rfl,{ h with lY:=?_,SF:=M0 hd h.SF,op:=rfl,room:=rfl,wr:=rfl,live:=fun hde b b0 b1 b2=>?_ }⟩
 · show(qQ G.group a d).map (·.1)=Y0 S.lY a
   rw[IM,h.lY]
 · have hv:=h.live hde b b0 b1 b2
   show wN D { G with step:=S.op,room:=S.room,wrote:=Y0 S.wr a,group:=qQ G.group a d } b=nG S.view a d b
   unfold wN nG at *
   show(match (qQ G.group a d).find? (fun y=>decide (y.1=b)) with
     | some y=>y.2
     | none=>D.at_ b)=_
   rw[EY]
   by_cases e:b=a
   · rw[aU e,aU e]
   · rw[aH e,aH e];exact hv
theorem ahR(h:lZ B L k m D G S):(tm D G).2=S.fin.2/\lZ B L (k+1) m D (tm D G).1 S.fin.1:=by
 have h0:=h.mono (mC k) (iU m);unfold tm LS.fin;rw[h.Dd,h.op];rcases Zv S with hd | hd
 ·rw[aU (jM.2 hd),aU hd];exact⟨by show S.nS=_;unfold LS.nS;rw[aU hd],h0⟩
 have lj:¬ S.dead=true:=by rw[hd];decide
 rw[aH (fun e=>lj (jM.1 e)),aH lj];by_cases ho:S.op=false
 ·rw[aU ho,aU ho];exact⟨rfl,h0⟩
 rw[aH ho,aH ho];exact⟨rfl,{ h0 with st:=by show G.over+1=S.st+1;rw[h.st],op:=rfl,Jl:=by have:=h.Jl;show 0<=S.co/\S.co<=_/\0<=S.st+1/\S.st+1<=_;omega,live:=fun e=>h.live e }⟩
theorem qC(S:LS):S.op=true\/S.op=false:=by cases S.op<;>simp
theorem adL(h:lZ B L k m D G S)(hs:pP B L S)(hL:32<=L/\L<=256)(WH:1+L<=B):(YL (zf B L I) D G).2.2=S.sync.2/\lZ B L (k+520) m (YL (zf B L I) D G).1 (YL (zf B L I) D G).2.1 S.sync.1:=by
 have h0:=h.mono (show k<=k+520 by omega) (iU m);have GU:=hs.CP;have hlen:G.group.length=S.lY.length:=by rw[<- h.lY,bR]
 unfold YL LS.sync;rw[h.Dd,h.op,hlen];rcases Zv S with hd | hd
 ·rw[aU (jM.2 hd),aU hd];exact⟨by show S.nS=_;unfold LS.nS;rw[aU hd],h0⟩
 have lj:¬ S.dead=true:=by rw[hd];decide
 rw[aH (fun e=>lj (jM.1 e)),aH lj];rcases qC S with ho | ho
 ·rw[aU ho,aU ho];exact⟨rfl,h0⟩
 have kG:¬ S.op=true:=by rw[ho];decide
 rw[aH kG,aH kG];by_cases hz:S.lY.length=0
 ·rw[aU hz,aU hz];exact⟨rfl,h0⟩
 rw[aH hz,aH hz];obtain⟨q1,q2⟩:=Jg (I:=I) h hs hL WH hd ho;exact⟨q1,q2.mono (by omega) (iU m)⟩
theorem Xa(h:lZ B L k m D G S)(hs:pP B L S)(hL:32<=L/\L<=256)(WH:1+L<=B)(r:Int):(yD (zf B L I) D G r).2.2=(S.mB L r).2/\lZ B L (k+520) m (yD (zf B L I) D G r).1 (yD (zf B L I) D G r).2.1 (S.mB L r).1:=by
 have h0:=h.mono (show k<=k+520 by omega) (iU m);have GU:=hs.CP;have hlen:G.group.length=S.lY.length:=by rw[<- h.lY,bR]
 unfold yD LS.mB;rw[h.Dd,h.op,hlen];rcases Zv S with hd | hd
 ·rw[aU (jM.2 hd),aU hd];exact⟨by show S.nS=_;unfold LS.nS;rw[aU hd],h0⟩
 have lj:¬ S.dead=true:=by rw[hd];decide
 rw[aH (fun e=>lj (jM.1 e)),aH lj];rcases qC S with ho | ho
 ·rw[aU ho,aU ho];exact⟨rfl,h0⟩
 have kG:¬ S.op=true:=by rw[ho];decide
 rw[aH kG,aH kG];by_cases hr:r<1\/L - 1<r
 ·rw[aU (by exact hr),aU hr];exact⟨rfl,h0⟩
 rw[aH (by exact hr),aH hr];have go:∀ {D':kj} {G':mW} {S':LS},lZ B L (k+520) m D' G' S'->lZ B L (k+520) m D' { G' with step:=true,room:=r,wrote:=[] } { S' with op:=true,room:=r,wr:=[] }:=fun {D' G' S'} hh=>
  { hh with op:=rfl,room:=rfl,wr:=rfl,live:=fun e=>hh.live e }
 by_cases hc:L - 1<(S.lY.length:Int)+r
 ·rw[aU (by exact hc),aU hc];obtain⟨q1,q2⟩:=Jg (I:=I) h hs hL WH hd ho;have q3:=q2.mono (show k+2*S.lY.length+7<=k+520 by omega) (iU m);by_cases he:S.tq.2≠0
  ·rw[aU (by rw[q1];exact he),aU he];exact⟨q1,q3⟩
  ·rw[aH (by rw[q1];exact he),aH he];exact⟨rfl,go q3⟩
 ·rw[aH (by exact hc),aH hc];exact⟨rfl,go h0⟩
theorem W8(h:lZ B L k m D G S){n:Int}(hn:n<=9223372036854775807):lZ B L k m (D.jC n) G (S.mG n):=by
 unfold LS.mG kj.jC;rw[<- h.stop];cases e:D.dead with
 | true=>
  rw[aU rfl,aU rfl];exact h
 | false=>
  rw[aH (by decide),aH (by decide)];have hc:=h.nS;unfold kj.ours at hc;rw[e]at hc;refine { h with stop:=rfl,jC:=?_,nS:=hc,fit:=⟨h.fit.held,h.fit.wait,h.fit.sum,h.fit.ow,h.fit.u1,fun hf=>?_,h.fit.count⟩,live:=fun hd=>h.live hd }
  ·unfold WL;show(if decide (0<=n)=true then n else -1)=max n (-1);by_cases h0:0<=n
   ·rw[aU (gU h0)];omega
   ·rw[aH (by simpa using h0)];omega
  ·have:0<=n:=ks hf;exact⟨this,hn⟩
theorem W9(h:lZ B L k m D G S):lZ B L k m D.mI G S.mI:=by
 refine { h with stop:=rfl,jC:=rfl,nS:=⟨fun e=>(by cases e),fun e=>?_⟩,fit:=⟨h.fit.held,fun x hx=>(by cases hx),?_,mT _,mT _,fun e=>(by cases e),h.fit.count⟩,live:=fun e=>(by cases e) }
 ·have e:=ks e;have e1:0<G.mine:=e.2.1;have e2:G.mine=0:=e.2.2;omega
 ·show D.held.length+0<=_;have:=h.fit.sum;omega
end
structure Cx where
 lb:Nat
 p:Nat
 w:Nat
 r:Nat
 B:Int
 L:Int
 I:Int
 mine:Int
structure Cx.Ok(c:Cx):Prop where
 CQ:Zy c.B c.L c.I
 mine:0<c.mine
theorem Cx.Ok.hL{c:Cx}(h:c.Ok):32<=c.L/\c.L<=256:=⟨h.CQ.1,h.CQ.2.1⟩
theorem Cx.Ok.hB{c:Cx}(h:c.Ok):1+c.L<=c.B/\c.B<=1048576:=by
 obtain⟨g1,g2,g3,g4,g5,g6,g7⟩:=h.CQ;have e:(zf c.B c.L c.I).kb=1+c.L+(c.I+16) / 16+(c.B+8191) / 8192:=rfl;omega
def kW(c:Cx)(k:Nat)(S:LS):Ob:=
 ⟨fun H O=>∃ P,(Yv c.lb c.p (zf c.B c.L c.I) c.mine P).at_ H O/\mm c.B c.L c.mine k P S/\pP c.B c.L S/\c.Ok,
  fun⟨_,h,_⟩=>Ob.own _ h,fun⟨P,h,r⟩ hb hs ho hl=>⟨P,Ob.frame _ h hb hs ho hl,r⟩⟩
theorem QC.of{P:Program}{f:FuncId}{args:Array Value}{H:Hp}{v:Value}{x:Ob}{O:Nat->Prop}(h:x.at_ H O)(hc:∀ H',x.at_ H' O->Fc P f args H' fun u oZ=>u=v/\Ext H' oZ):QC true P f args H v:=fun H' e=>hc H' (x.frame h (fun b hb=>e.same b (x.own h b hb)) e.le (fun _ hb=>hb) fun b hb=>jj (x.own h b hb) e.le)
noncomputable def LS.UC(S:LS)(v:Int):Int:=if S.dead=true then 0 else v
noncomputable def LS.KA(S:LS):Bool:=decide (S.dead=false/\S.op=true)
noncomputable def LS.lay(c:Cx)(S:LS):kh:=if S.dead=true then⟨0,0,0,0,0,0,0,0,0⟩ else zf c.B c.L c.I
section
variable{H:Hp}{R:Value->Hp->Prop}{c:Cx}{k:Nat}{S:LS}{O:Nat->Prop}
theorem pj{k':Nat}(h:(kW c k S).at_ H O)(hk:k<=k'):(kW c k' S).at_ H O:=by
 obtain⟨P,h1,h2,h3⟩:=h;exact⟨P,h1,h2.mono hk,h3⟩
theorem Yb(h:(kW c k S).at_ H O)(K:R (zg S.nS) H):Fc TP 36 #[zD c.lb] H R:=by
 obtain⟨P,h1,h2,h3,h4⟩:=h;refine pT h1 ?_;rw[h2.Kf];exact K
theorem Qq(h:(kW c k S).at_ H O):QC true TP 36 #[zD c.lb] H (zg S.nS):=.of h fun H' h'=>Yb h' ⟨rfl,Ext.refl _⟩
theorem Vd(h:(kW c k S).at_ H O)(K:R (zg S.used) H):Fc TP 23 #[zD c.lb] H R:=by
 obtain⟨P,h1,h2,h3,h4⟩:=h;refine Q3 h1 ?_;have e:FY c.mine P=S.used:=by
  unfold FY LS.used;rw[h2.Kf,h2.order];rcases Zv S with hd | hd
  ·rw[aU (jM.2 hd),aU hd]
  ·have lj:¬ S.dead=true:=by rw[hd];decide
   rw[aH (fun e=>lj (jM.1 e)),aH lj]
 rw[e];exact K
theorem L7(h:(kW c k S).at_ H O):QC true TP 23 #[zD c.lb] H (zg S.used):=.of h fun H' h'=>Vd h' ⟨rfl,Ext.refl _⟩
theorem FL(h:(kW c k S).at_ H O):∃ P ov mb cb wv,mm c.B c.L c.mine k P S/\H[c.lb]?=some (.cells (yN ov mb c.p cb (zf c.B c.L c.I) c.mine P.open_ P.room wv P.jA P.steps) 100):=by
 obtain⟨P,⟨cb,mb,ov,wv,ha⟩,h2,_⟩:=h;obtain⟨ht,_⟩:=pJ (r:=[]) (Lo.open ha);exact⟨P,ov,mb,cb,wv,h2,ht⟩
theorem Yo{S:LS}{K1 K2:Prop}(h1:S.dead=true->K1)(h2:S.dead=false->K2):hU (.bool (decide (S.nS≠0))) K1 K2:=by
 rw[zb];exact⟨fun h=>h1 (jM.1 h),fun h=>h2 (by
  rcases Zv S with hd | hd
  ·exact absurd (jM.2 hd) h
  ·exact hd)⟩
theorem LS.xa{S:LS}(h:S.dead=true)(v:Int):S.UC v=0:=aU h
theorem LS.w9{S:LS}(h:S.dead=false)(v:Int):S.UC v=v:=aH (by rw[h];decide)
theorem J3(h:(kW c k S).at_ H O)(K:R (zg (S.UC S.co)) H):Fc TP 69 #[zD c.lb] H R:=by
 refine fn69 ?_;simp only[sh69,Ul,UA,Ub,UI,Uf,Uv,zl,zc,aR,za];refine Yb h ?_;obtain⟨P,ov,mb,cb,wv,h2,ht⟩:=FL h;rw[zn,za];refine Yo (fun hd=>by rw[LS.xa hd]at K;exact K) fun hd=>?_;rw[LS.w9 hd,<- h2.co]at K;rw[zi ht,show(yN ov mb c.p cb (zf c.B c.L c.I) c.mine P.open_ P.room wv P.jA P.steps)[17]?=some (zg P.jA) from rfl,za];exact K
theorem JY(h:(kW c k S).at_ H O):QC true TP 69 #[zD c.lb] H (zg (S.UC S.co)):=.of h fun H' h'=>J3 h' ⟨rfl,Ext.refl _⟩
theorem Qs(h:(kW c k S).at_ H O)(K:R (zg (S.UC S.st)) H):Fc TP 71 #[zD c.lb] H R:=by
 refine fn71 ?_;simp only[sh71,Ul,UA,Ub,UI,Uf,Uv,zl,zc,aR,za];refine Yb h ?_;obtain⟨P,ov,mb,cb,wv,h2,ht⟩:=FL h;rw[zn,za];refine Yo (fun hd=>by rw[LS.xa hd]at K;exact K) fun hd=>?_;rw[LS.w9 hd,<- h2.st]at K;rw[zi ht,show(yN ov mb c.p cb (zf c.B c.L c.I) c.mine P.open_ P.room wv P.jA P.steps)[18]?=some (zg P.steps) from rfl,za];exact K
theorem Qp(h:(kW c k S).at_ H O):QC true TP 71 #[zD c.lb] H (zg (S.UC S.st)):=.of h fun H' h'=>Qs h' ⟨rfl,Ext.refl _⟩
theorem FN(h:(kW c k S).at_ H O)(K:R (.bool S.KA) H):Fc TP 38 #[zD c.lb] H R:=by
 refine fn38 ?_;simp only[sh38,Ul,UA,Ub,UI,Uf,Uv,U0,zl,zc,aR,bH,za];refine Yb h ?_;obtain⟨P,ov,mb,cb,wv,h2,ht⟩:=FL h;unfold LS.KA at K;rw[zp,za,zb];refine⟨fun he=>?_,fun jZ=>?_⟩
 ·have hd:S.dead=false:=by
   rcases Zv S with hd | hd
   ·exact absurd he (jM.2 hd)
   ·exact hd
  rw[zi ht,show(yN ov mb c.p cb (zf c.B c.L c.I) c.mine P.open_ P.room wv P.jA P.steps)[14]?=some (.bool P.open_) from rfl,za,h2.op];rcases qC S with ho | ho
  ·rw[gU ⟨hd,ho⟩]at K;rw[ho];exact K
  ·rw[cH (fun h=>by rw[ho]at h;exact absurd h.2 (by decide))]at K;rw[ho];exact K
 ·rw[cH (fun h=>jZ (by unfold LS.nS;rw[h.1];rfl))]at K;exact K
theorem Va(h:(kW c k S).at_ H O):QC true TP 38 #[zD c.lb] H (.bool S.KA):=.of h fun H' h'=>FN h' ⟨rfl,Ext.refl _⟩
theorem NL(h:(kW c k S).at_ H O)(K:∀ H',Ext H H'->R (.agg (S.lay c).cells) H'):Fc TP 17 #[zD c.lb] H R:=by
 refine fn17 ?_;simp only[sh17,UL,UA,Us,Ub,Uz,UI,Uf,Uv,yq,tC,za];refine(Lo.start _ H:Lx H H []).jc fun b1 H1 e1 l1=>?_;obtain⟨O1,h1⟩:=((Lo.own h).ext e1).get (i:=0) rfl;refine Yb h1 ?_;obtain⟨P,ov,mb,cb,wv,h2,ht⟩:=FL h1;simp only[zl,zc,aR,bH,za];rw[zn,za];refine Yo (fun hd=>?_) fun hd=>?_
 ·have e:S.lay c=⟨0,0,0,0,0,0,0,0,0⟩:=aU hd;rw[e]at K;exact l1.ret (i:=0) (vs:=vQ) rfl rfl rfl (by unfold zv;rw[<- iV];rfl) fun H' l'=>K H' l'.iZ
 ·have e:S.lay c=zf c.B c.L c.I:=aH (by rw[hd];decide);rw[e]at K;rw[Za ht (show 4+9<=19 by omega),za,Cp];exact l1.ret (i:=0) rfl rfl (kh.size _) (kh.Ns _) fun H' l'=>K H' l'.iZ
theorem Vg(h:(kW c k S).at_ H O)(K:R (zg S.made) H):Fc TP 21 #[zD c.p] H R:=by
 obtain⟨P,h1,h2,h3,h4⟩:=h;refine VF h1 ?_;rw[h2.made];exact K
theorem L8(h:(kW c k S).at_ H O):QC true TP 21 #[zD c.p] H (zg S.made):=.of h fun H' h'=>Vg h' ⟨rfl,Ext.refl _⟩
theorem FM(h:(kW c k S).at_ H O)(hk:k<80000000000){a:Int}(ha:S.dead=false->0<=a->a<c.B->nZ c.L a)
   (K:∀ H' O',kS O O' H H'->(kW c (k+1) S).at_ H' O'->jR (S.rd c.B a).1->R (.tuple #[.agg (S.rd c.B a).1,zg (S.rd c.B a).2]) H'):Fc TP 18 #[zD c.lb,zg a] H R:=by
 obtain⟨P,h1,h2,h3,h4⟩:=h
 have hL:=h4.hL
 obtain⟨q1,q2⟩:=abE (I:=c.I) h2 h3 hL ha
 have hr:=h2.fit.reads
 rw[<- q1]at K
 exact Q5 (x:=zf c.B c.L c.I) ⟨by show(0:Int)<=1;omega,by show(1:Int)<_;omega,by show 0<=c.L;omega,by show c.L<_;omega⟩ h1 ⟨by omega,by omega⟩ fun H' O' st h' lK=>K H' O' st ⟨_,h',q2,h3,h4⟩ lK
theorem Hs(h:(kW c k S).at_ H O){a:Int}{d:jn}(hd:jR d)(K:∀ H' O',kS O O' H H'->(kW c k (S.wt c.B c.L a d).1).at_ H' O'->R (zg (S.wt c.B c.L a d).2) H'):Fc TP 41 #[zD c.lb,zg a,.agg d] H R:=by
 obtain⟨P,h1,h2,h3,h4⟩:=h;have hL:=h4.hL;obtain⟨q1,q2⟩:=VG (I:=c.I) h2 h3 hL a d;have h5:=h3.CP;have h6:=h2.tu;rw[<- q1]at K;exact NQ (x:=zf c.B c.L c.I) ⟨by show(0:Int)<=1;omega,by show(1:Int)<_;omega,by show 0<=c.L;omega,by show c.L<_;omega⟩ h1 (by omega) (by rw[h2.order];omega) h2.wro hd fun H' O' st h'=>K H' O' st ⟨_,h',q2,h3.wt a d,h4⟩
theorem mm.ahT{P:mS}(h:mm c.B c.L c.mine k P S)(hs:pP c.B c.L S)(hg:c.Ok)(hk:k<80000000000):ad5 c.L P k:=by
 have hL:=hg.hL;have h5:=hs.CP;have h6:=h.Jl;exact⟨h.fit,h.tu,by rw[h.order];omega,by rw[h.co];omega⟩
theorem abk(h:(kW c k S).at_ H O)(hk:k<80000000000)(K:∀ H' O',kS O O' H H'->(kW c (k+1) S.fin.1).at_ H' O'->R (zg S.fin.2) H'):Fc TP 13 #[zD c.lb] H R:=by
 obtain⟨P,h1,h2,h3,h4⟩:=h;obtain⟨q1,q2⟩:=afH h2;have h6:=h2.Jl;rw[<- q1]at K;exact VD h1 (by rw[h2.st];omega) fun H' O' st h'=>K H' O' st ⟨_,h',q2,h3.fin,h4⟩
theorem Vf(h:(kW c k S).at_ H O)(hk:k<80000000000)(K:∀ H' O',kS O O' H H'->(kW c (k+520) S.sync.1).at_ H' O'->R (zg S.sync.2) H'):Fc TP 58 #[zD c.lb] H R:=by
 obtain⟨P,h1,h2,h3,h4⟩:=h;have hB:=h4.hB;have hL:=h4.hL;obtain⟨q1,q2⟩:=abD (I:=c.I) h2 h3 hL hB.1;rw[<- q1]at K;exact Q4 (by omega) h4.CQ h1 (h2.ahT h3 h4 hk) (by omega) fun H' O' st h'=>K H' O' st ⟨_,h',q2,h3.sync,h4⟩
theorem Qv(h:(kW c k S).at_ H O)(hk:k<80000000000){n:Int}(K:∀ H' O',kS O O' H H'->(kW c (k+520) (S.mB c.L n).1).at_ H' O'->R (zg (S.mB c.L n).2) H'):Fc TP 11 #[zD c.lb,zg n] H R:=by
 obtain⟨P,h1,h2,h3,h4⟩:=h;have hB:=h4.hB;have hL:=h4.hL;obtain⟨q1,q2⟩:=VJ (I:=c.I) h2 h3 hL hB.1 n;rw[<- q1]at K;exact NR (by omega) h4.CQ h1 (h2.ahT h3 h4 hk) (by omega) fun H' O' st h'=>K H' O' st ⟨_,h',q2,h3.beg n,h4⟩
theorem Mp{P:mS}{x:kh}{lb p:Nat}{mine:Int}{f:DS->DS}{fid:FuncId}{args:Array Value}{v:Value}(h:(Yv lb p x mine P).at_ H O)
   (hf:∀ {H:Hp} {Od:Nat->Prop} {R:Value->Hp->Prop},jQ H p P.s Od->(∀ H',Kp Od H H'->jQ H' p (f P.s) Od->R v H')->Fc TP fid args H R)
   (K:∀ H' O',kS O O' H H'->(Yv lb p x mine { P with s:=f P.s }).at_ H' O'->R v H'):Fc TP fid args H R:=by
 obtain⟨cb,mb,ov,wv,ha⟩:=h
 have l1:Lo O H H (Yc lb p cb mb ov wv x mine P++[]):=Lo.open ha
 obtain⟨O1,⟨⟨Od,Oc,d1,d2,d3,d4,d5⟩,dO⟩,pH⟩:=l1.call (i:=0) (x:=mA p cb (x.L+32) P.s P.cs) rfl
 refine hf d1 fun H3 k3 qN=>?_
 obtain⟨q1,q2⟩:=Bs d1 d2 d3 d4 d5 dO ⟨k3,fun b hb=>.inl hb⟩ qN
 have l3:=pH H3 _ _ q1 q2
 have l3:Lo O H H3 (Yc lb p cb mb ov wv x mine { P with s:=f P.s }++[]):=l3
 obtain⟨O',NH,mq⟩:=Lo.close l3
 exact K H3 O' NH ⟨cb,mb,ov,wv,mq⟩
theorem Vh(h:(kW c k S).at_ H O){n:Int}(hn:n<=9223372036854775807)(K:∀ H' O',kS O O' H H'->(kW c k (S.mG n)).at_ H' O'->R (.tuple #[]) H'):Fc TP 63 #[zD c.p,zg n] H R:=by
 obtain⟨P,h1,h2,h3,h4⟩:=h;exact Mp (f:=fun s=>s.mG n) h1 (fun hd hk=>OQ hd hk) fun H' O' st h'=>K H' O' st ⟨_,h',VH h2 hn,h3.mG hn,h4⟩
theorem Qu(h:(kW c k S).at_ H O)(hk:k<80000000000)(K:∀ H' O',kS O O' H H'->(kW c k S.mI).at_ H' O'->R (zg 0) H'):Fc TP 65 #[zD c.p,.slice none 0 0] H R:=by
 obtain⟨P,h1,h2,h3,h4⟩:=h;have:=h2.fit.pl;exact Mp (f:=DS.mI) h1 (fun hd hk=>Li hd (by omega) hk) fun H' O' st h'=>K H' O' st ⟨_,h',VI h2 h4.mine,h3.mI,h4⟩
end
def lg(c:Cx)(k m:Nat)(S:LS):Ob:=
 ⟨fun H O=>∃ D G,(ZN c.w c.r D (zf c.B c.L c.I) G).at_ H O/\lZ c.B c.L k m D G S/\pP c.B c.L S/\c.Ok,
  fun⟨_,_,h,_⟩=>Ob.own _ h,fun⟨D,G,h,r⟩ hb hs ho hl=>⟨D,G,Ob.frame _ h hb hs ho hl,r⟩⟩
section
variable{H:Hp}{R:Value->Hp->Prop}{c:Cx}{k m:Nat}{S:LS}{O:Nat->Prop}
theorem pk{k' m':Nat}(h:(lg c k m S).at_ H O)(hk:k<=k')(hm:m<=m'):(lg c k' m' S).at_ H O:=by
 obtain⟨D,G,h1,h2,h3⟩:=h;exact⟨D,G,h1,h2.mono hk hm,h3⟩
theorem J7(h:(lg c k m S).at_ H O):∃ D G gv tv,lZ c.B c.L k m D G S/\H[c.w]?=some (.cells (yx c.r (zf c.B c.L c.I) G gv tv) 128):=by
 obtain⟨D,G,h1,h2,_⟩:=h;obtain⟨gv,tv,ht⟩:=Jc h1;exact⟨D,G,gv,tv,h2,ht⟩
theorem qy(h:(lg c k m S).at_ H O)(K:R (zg S.nS) H):Fc TP 67 #[zD c.w] H R:=by
 obtain⟨D,G,h1,h2,_⟩:=h;refine yu h1 ?_;rw[h2.Dd];exact K
theorem S8(h:(lg c k m S).at_ H O):QC true TP 67 #[zD c.w] H (zg S.nS):=.of h fun H' h'=>qy h' ⟨rfl,Ext.refl _⟩
theorem Mh(h:(lg c k m S).at_ H O)(K:R (.bool S.KA) H):Fc TP 68 #[zD c.w] H R:=by
 obtain⟨D,G,h1,h2,_⟩:=h;refine Jd h1 ?_;have e:pA D G=S.KA:=by
  unfold pA LS.KA;rw[h2.Dd,h2.op,kr];refine⟨fun e=>⟨?_,e.2⟩,fun e=>⟨by unfold LS.nS;rw[e.1];rfl,e.2⟩⟩;rcases Zv S with hd | hd
  ·exact absurd e.1 (jM.2 hd)
  ·exact hd
 rw[e];exact K
theorem W4(h:(lg c k m S).at_ H O):QC true TP 68 #[zD c.w] H (.bool S.KA):=.of h fun H' h'=>Mh h' ⟨rfl,Ext.refl _⟩
theorem Vm(h:(lg c k m S).at_ H O)(K:R (zg S.used) H):Fc TP 24 #[zD c.w] H R:=by
 refine fn24 ?_;simp only[sh24,Ul,UA,Ub,UI,Uf,Ug,Uv,zl,zc,aR,za];refine qy h ?_;obtain⟨D,G,h1,h2,_⟩:=h;obtain⟨gv,tv,ht,hsr⟩:=Gz h1;unfold LS.used at K;rw[zn,za];refine Yo (fun hd=>by rw[aU hd]at K;exact K) fun hd=>?_;rw[aH (by rw[hd];decide),<- h2.lY,bR]at K;rw[zi ht,show(yx c.r (zf c.B c.L c.I) G gv tv)[12]?=some gv from rfl,za,hsr.j9 LX,za,bR];exact K
theorem Ng(h:(lg c k m S).at_ H O):QC true TP 24 #[zD c.w] H (zg S.used):=.of h fun H' h'=>Vm h' ⟨rfl,Ext.refl _⟩
theorem J9(h:(lg c k m S).at_ H O)(K:R (zg (S.UC S.co)) H):Fc TP 70 #[zD c.w] H R:=by
 refine fn70 ?_;simp only[sh70,Ul,UA,Ub,UI,Uf,Uv,zl,zc,aR,za];refine qy h ?_;obtain⟨D,G,gv,tv,h2,ht⟩:=J7 h;rw[zn,za];refine Yo (fun hd=>by rw[LS.xa hd]at K;exact K) fun hd=>?_;rw[LS.w9 hd,<- h2.co]at K;rw[zi ht,show(yx c.r (zf c.B c.L c.I) G gv tv)[16]?=some (zg G.me) from rfl,za];exact K
theorem Lf(h:(lg c k m S).at_ H O):QC true TP 70 #[zD c.w] H (zg (S.UC S.co)):=.of h fun H' h'=>J9 h' ⟨rfl,Ext.refl _⟩
theorem QJ(h:(lg c k m S).at_ H O)(K:R (zg (S.UC S.st)) H):Fc TP 72 #[zD c.w] H R:=by
 refine fn72 ?_;simp only[sh72,Ul,UA,Ub,UI,Uf,Uv,zl,zc,aR,za];refine qy h ?_;obtain⟨D,G,gv,tv,h2,ht⟩:=J7 h;rw[zn,za];refine Yo (fun hd=>by rw[LS.xa hd]at K;exact K) fun hd=>?_;rw[LS.w9 hd,<- h2.st]at K;rw[zi ht,show(yx c.r (zf c.B c.L c.I) G gv tv)[17]?=some (zg G.over) from rfl,za];exact K
theorem S7(h:(lg c k m S).at_ H O):QC true TP 72 #[zD c.w] H (zg (S.UC S.st)):=.of h fun H' h'=>QJ h' ⟨rfl,Ext.refl _⟩
theorem tK(h:(lg c k m S).at_ H O)(K:∀ H' O',kS O O' H H'->(lg c k m S).at_ H' O'->R (.agg (S.lay c).cells) H'):Fc TP 60 #[zD c.w] H R:=by
 obtain⟨D,G,h1,h2,h3⟩:=h;have e:YY (zf c.B c.L c.I) D G=S.lay c:=by
  unfold YY LS.lay;rw[h2.Dd];rcases Zv S with hd | hd
  ·rw[aU (jM.2 hd),aU hd]
  ·have lj:¬ S.dead=true:=by rw[hd];decide
   rw[aH (fun e=>lj (jM.1 e)),aH lj]
 refine rP h1 fun H' O' st h'=>?_;rw[e];exact K H' O' st ⟨_,_,h',h2,h3⟩
theorem Vp(h:(lg c k m S).at_ H O)(K:R (zg S.made) H):Fc TP 25 #[zD c.r] H R:=by
 obtain⟨D,G,⟨gv,tv,ha⟩,h2,_⟩:=h;have l0:Lo O H H (yT c.w c.r D (zf c.B c.L c.I) G gv tv):=Lo.open ha;obtain⟨O1,h1,_⟩:=l0.call (i:=0) rfl;obtain⟨hv,wv,ov,ht⟩:=vZ h1;refine fn25 ?_;simp only[sh25,Ul,UA,UI,Uv,zl,zc,aR,za];rw[show ya TP 39 true .eql (zD c.r) (.pointer none) H=some (.bool false) from Z6 pF,za,zh,zi ht,show(qB D hv wv ov)[7]?=some (zg D.count) from rfl,za,h2.made];exact K
theorem Nh(h:(lg c k m S).at_ H O):QC true TP 25 #[zD c.r] H (zg S.made):=.of h fun H' h'=>Vp h' ⟨rfl,Ext.refl _⟩
theorem abo(h:(lg c k m S).at_ H O)(K:R (zg c.B) H):Fc TP 73 #[zD c.r] H R:=by
 obtain⟨D,G,⟨gv,tv,ha⟩,h2,_⟩:=h;have l0:Lo O H H (yT c.w c.r D (zf c.B c.L c.I) G gv tv):=Lo.open ha;obtain⟨O1,h1,_⟩:=l0.call (i:=0) rfl;refine RG h1 ?_;rw[h2.nB];exact K
theorem Mg(h:(lg c k m S).at_ H O)(hk:k<800000000)(hm:m<800000000000){a:Int}(ha:S.dead=false->0<=a->a<c.B->nZ c.L a)
   (K:∀ H' O',kS O O' H H'->(lg c k (m+1) S).at_ H' O'->jR (S.rd c.B a).1->R (.tuple #[.agg (S.rd c.B a).1,zg (S.rd c.B a).2]) H'):Fc TP 35 #[zD c.w,zg a] H R:=by
 obtain⟨D,G,h1,h2,h3,h4⟩:=h
 have hL:=h4.hL
 have kD:=h2.dok h3 hL.2 (by omega) (by omega)
 obtain⟨q1,q2⟩:=Lp (I:=c.I) h2 ha
 have lK:jR (zU (zf c.B c.L c.I) D G a).2.1:=by
   unfold zU
   split
   · exact z6
   · split
     · exact z6
     · split
       · rename_i y hy
         exact kD.is y (sK hy)
       · show jR (D.read a).2.1
         unfold kj.read
         split
         · exact z6
         · split
           · exact z6
           · exact kj.TR kD.Ll a
 rw[<- q1]at K
 exact C9 h1 kD fun H' O' st h'=>K H' O' st ⟨_,_,h',q2,h3,h4⟩ lK
theorem QI(h:(lg c k m S).at_ H O){a:Int}{d:jn}(hd:jR d)(K:∀ H' O',kS O O' H H'->(lg c k m (S.wt c.B c.L a d).1).at_ H' O'->R (zg (S.wt c.B c.L a d).2) H'):Fc TP 62 #[zD c.w,zg a,.agg d] H R:=by
 obtain⟨D,G,h1,h2,h3,h4⟩:=h;have hL:=h4.hL;obtain⟨q1,q2⟩:=Nq (I:=c.I) h2 hL.1 a hd;have h5:=h3.CP;have h6:G.group.length=S.lY.length:=by rw[<- h2.lY,bR]
 rw[<- q1]at K;exact E6 (x:=zf c.B c.L c.I) ⟨by show(0:Int)<=1;omega,by show(1:Int)<_;omega,by show 0<=c.L;omega,by show c.L<_;omega⟩ h1 (by rw[h2.wr];have:=h3.wl;omega) (by omega) h2.SF hd fun H' O' st h'=>K H' O' st ⟨_,_,h',q2,h3.wt a d,h4⟩
theorem abp(h:(lg c k m S).at_ H O)(hk:k<800000000)(K:∀ H' O',kS O O' H H'->(lg c (k+1) m S.fin.1).at_ H' O'->R (zg S.fin.2) H'):Fc TP 51 #[zD c.w] H R:=by
 obtain⟨D,G,h1,h2,h3,h4⟩:=h;have hL:=h4.hL;obtain⟨q1,q2⟩:=ahR h2;rw[<- q1]at K;exact W5 h1 (h2.adK h3 hL.2 (by omega)) fun H' O' st h'=>K H' O' st ⟨_,_,h',q2,h3.fin,h4⟩
theorem Vo(h:(lg c k m S).at_ H O)(hk:k<800000000)(K:∀ H' O',kS O O' H H'->(lg c (k+520) m S.sync.1).at_ H' O'->R (zg S.sync.2) H'):Fc TP 59 #[zD c.w] H R:=by
 obtain⟨D,G,h1,h2,h3,h4⟩:=h;have hL:=h4.hL;have hB:=h4.hB;obtain⟨q1,q2⟩:=adL (I:=c.I) h2 h3 hL hB.1;rw[<- q1]at K;exact Ta (by omega) h4.CQ h1 (h2.adK h3 hL.2 (by omega)) (by omega) fun H' O' st h'=>K H' O' st ⟨_,_,h',q2,h3.sync,h4⟩
theorem QN(h:(lg c k m S).at_ H O)(hk:k<800000000){n:Int}(K:∀ H' O',kS O O' H H'->(lg c (k+520) m (S.mB c.L n).1).at_ H' O'->R (zg (S.mB c.L n).2) H'):Fc TP 50 #[zD c.w,zg n] H R:=by
 obtain⟨D,G,h1,h2,h3,h4⟩:=h;have hL:=h4.hL;have hB:=h4.hB;obtain⟨q1,q2⟩:=Xa (I:=c.I) h2 h3 hL hB.1 n;rw[<- q1]at K;exact OK (by omega) h4.CQ h1 (h2.adK h3 hL.2 (by omega)) (by omega) fun H' O' st h'=>K H' O' st ⟨_,_,h',q2,h3.beg n,h4⟩
theorem Je{D D':kj}{G:mW}{x:kh}{w r:Nat}{fid:FuncId}{args:Array Value}{v:Value}(h:(ZN w r D x G).at_ H O)
   (hf:∀ {H:Hp} {O:Nat->Prop} {R:Value->Hp->Prop},(Zd r D).at_ H O->(∀ H' O',kS O O' H H'->(Zd r D').at_ H' O'->R v H')->Fc TP fid args H R)
   (K:∀ H' O',kS O O' H H'->(ZN w r D' x G).at_ H' O'->R v H'):Fc TP fid args H R:=by
 obtain⟨gv,tv,ha⟩:=h
 have l0:Lo O H H (yT w r D x G gv tv++[]):=Lo.open ha
 obtain⟨O1,h1,pH⟩:=l0.call (i:=0) rfl
 refine hf h1 fun H3 O3 s3 h3=>?_
 have l3:Lo O H H3 (yT w r D' x G gv tv++[]):=pH H3 _ O3 s3 h3
 obtain⟨O',NH,mq⟩:=Lo.close l3
 exact K H3 O' NH ⟨_,_,mq⟩
theorem Vq(h:(lg c k m S).at_ H O){n:Int}(hn:n<=9223372036854775807)(K:∀ H' O',kS O O' H H'->(lg c k m (S.mG n)).at_ H' O'->R (.tuple #[]) H'):Fc TP 64 #[zD c.r,zg n] H R:=by
 obtain⟨D,G,h1,h2,h3,h4⟩:=h;exact Je (D':=D.jC n) h1 (fun hd hk=>adt hd hk) fun H' O' st h'=>K H' O' st ⟨_,_,h',W8 h2 hn,h3.mG hn,h4⟩
theorem QM(h:(lg c k m S).at_ H O)(K:∀ H' O',kS O O' H H'->(lg c k m S.mI).at_ H' O'->R (zg 0) H'):Fc TP 66 #[zD c.r,.slice none 0 0] H R:=by
 obtain⟨D,G,h1,h2,h3,h4⟩:=h;exact Je (D':=D.mI) h1 (fun hd hk=>Xc hd hk) fun H' O' st h'=>K H' O' st ⟨_,_,h',W9 h2,h3.mI,h4⟩
end
section
variable{H:Hp}{R:Value->Hp->Prop}{w r:Nat}{D:kj}{G:mW}{x:kh}{O:Nat->Prop}
theorem Gp(y:kh):Ys TP 62 (.agg y.cells) 0=some (.agg #[zg y.B,zg y.L,zg y.I]):=by kernel_rfl
theorem WM(a b c:Int):Ys TP 23 (.agg #[zg a,zg b,zg c]) 2=some (zg c):=by kernel_rfl
theorem L3(h:(ZN w r D x G).at_ H O){n:Int}(k:∀ H' O',kS O O' H H'->(ZN w r D x G).at_ H' O'->R (.bool (decide (1<=n/\n<=(YY x D G).I))) H'):Fc TP 108 #[zD w,zg n] H R:=by
 refine fn108 ?_;simp only[sh108,Ub,Uf,Uv,U0,zl,zc,aR,bH,Nat.reduceAdd,za];rw[zN,za,zb];refine⟨fun h1=>?_,fun h1=>?_⟩
 ·refine rP h fun H1 O1 pH h2=>?_;rw[Gp,za,WM,za,yp,za,ZO (show n<=(YY x D G).I↔(1<=n/\n<=(YY x D G).I) from⟨fun h=>⟨h1,h⟩,fun h=>h.2⟩)];exact k H1 O1 pH h2
 ·have:=k H O (kS.refl _ _) h;rw[cH (show ¬ (1<=n/\n<=(YY x D G).I) from fun h=>h1 h.1)]at this;exact this
end
theorem UK:mu 64 (zR 64):=⟨by simp[zR],fun i hi=>⟨0,by omega,by simp[zR,hi]⟩⟩
section
variable{H:Hp}{R:Value->Hp->Prop}
theorem ajH{b:jn}(hb:jR b){n:Nat}(hn:n<1000000000)(k:∀ H',Ext H H'->R (.agg (zS (ZD b (64*(n % 16))))) H'):Fc TP 109 #[.agg b,zg n] H R:=by
 have ho:64*(n % 16)+64<=1024:=by omega
 refine fn109 ?_;simp only[sh109,Ul,UL,Us,Ub,Uz,Uf,Uk,Uo,Uv,ZE,rh,za,zm];refine(Lo.start _ H:Lx H H []).jc fun b1 H1 e1 l1=>?_;refine l1.jc fun b2 H2 e2 l2=>?_;refine l2.jc fun b3 H3 e3 l3=>?_;refine zF.mk (fun t H'=>∃ (i:Nat) (c:Array Value),i<=64/\t=(zg i,())/\mu 64 c/\(∀ j,j<i->kv c j=kv b (64*(n % 16)+j))/\Lx H H' [.box b1 b 65,.box b2 (zS fun _=>0) 54,.box b3 c 104])
  (fun t _=>mi t.1 fun i=>(64 - i).toNat) ⟨0,zR 64,by omega,rfl,UK,fun j hj=>by omega,l3⟩ ?_
 rintro _ H4 ⟨i,c,hi,rfl,hc,hv,l4⟩;rw[zk,za,zb];refine⟨fun kc=>?_,fun lA=>?_⟩
 ·have kI:i<64:=by omega
  rw[z7 (by decide),za,show(n:Int).tmod 16=((n % 16:Nat):Int) from by rw[Int.tmod_eq_emod_of_nonneg (by omega)];omega,zW,za,zd (by omega) (by omega),ze,za,zd (by omega) (by omega),show(64:Int)*((n % 16:Nat):Int)+(i:Int)=((64*(n % 16)+i:Nat):Int) by omega,
   zC (by omega),za,aR,iX,l4.ld (i:=0) rfl,hb.n.get (by omega),za,zC (by omega),za,aR,iX]
  refine l4.st (i:=2) (j:=i) (v:=.int .u8 (kv b (64*(n % 16)+i):Nat)) rfl (by rw[hc.size];exact kI) rfl rfl fun H5 l5=>?_;rw[ze,za,zE,zr (by omega)];refine⟨⟨i+1,_,by omega,rfl,hc.set i (hb.n.lt _),fun j hj=>?_,l5⟩,by simp only[zu];omega⟩;rw[hc.oL kI];by_cases e:i=j
  ·rw[aU e,e]
  ·rw[aH e];exact hv j (by omega)
 ·have ei:i=64:=by omega
  subst ei;have ec:c=Jk b (64*(n % 16)):=hc.ext (rR hb ho) fun j hj=>by rw[hv j hj,wX hb ho hj]
  rw[l4.je (i:=2) (n:=64) rfl hc.size,za];refine aaz hc fun H6 e6=>?_;rw[ec,show zS (ZD (Jk b (64*(n % 16))) 0)=zS (ZD b (64*(n % 16))) from yH fun j hj=>rJ hb ho hj];refine(l4.ext e6).ret (i:=1) (K:=fun y H4=>R y H4) rfl (zt _) (zt _) (ZA _) fun H' l'=>?_;exact k H' l'.iZ
end
theorem Vb{b e:Array Value}{o m:Nat}(hb:mu 1024 b)(he:mu m e)(ho:o+m<=1024){j:Nat}:kv (zL b o e) j=if o<=j/\j<o+m then kv e (j - o) else kv b j:=by
 unfold kv;rw[zH (by rw[he.size,hb.size];exact ho),he.size];by_cases h1:j<o
 ·rw[aU h1,aH (by omega)]
 ·rw[aH h1];by_cases h2:j<o+m
  ·rw[aU h2,aU (by omega)]
  ·rw[aH h2,aH (by omega)]
theorem abh{b e:Array Value}{o m:Nat}(hb:mu 1024 b)(he:mu m e)(ho:o+m<=1024):mu 1024 (zL b o e):=by
 refine⟨by rw[zO (by rw[he.size,hb.size];exact ho),hb.size],fun i hi=>?_⟩;rw[zH (by rw[he.size,hb.size];exact ho),he.size];by_cases h1:i<o
 ·rw[aU h1];exact hb.cell i hi
 ·rw[aH h1];by_cases h2:i<o+m
  ·rw[aU h2];exact he.cell _ (by omega)
  ·rw[aH h2];exact hb.cell i hi
section
variable{H:Hp}{R:Value->Hp->Prop}
theorem aca{b:jn}(hb:jR b){f:kM}(hf:lE f){n:Nat}(hn:n<1000000000)(k:∀ H',Ext H H'->R (.agg (zL b (64*(n % 16)) (mP f))) H'):Fc TP 110 #[.agg b,zg n,.agg (zS f)] H R:=by
 have ho:64*(n % 16)+64<=1024:=by omega
 refine fn110 ?_;simp only[sh110,Ul,UL,Us,Ub,Uz,Uf,Uk,Uo,Uv,ZI,ZE,rh,za,zm];refine(Lo.start _ H:Lx H H []).jc fun b1 H1 e1 l1=>?_;refine l1.jc fun b2 H2 e2 l2=>?_;refine l2.jc fun b4 H3 e3 l3=>?_;rw[l3.je (i:=1) (n:=16) rfl (zt _),za];refine aar hf fun H4 e4=>?_;refine(l3.ext e4).jc fun b8 H5 e5 l5=>?_;refine l5.jE (i:=3) (n:=64) rfl (by simp[zR]) (ZG f).size (ZG f).ok fun H6 l6=>?_;refine zF.mk (fun t H'=>∃ (i:Nat) (c:Array Value),i<=64/\t=(zg i,())/\mu 1024 c/\(∀ j,j<1024->kv c j=if 64*(n % 16)<=j/\j<64*(n % 16)+i then kv (mP f) (j - 64*(n % 16)) else kv b j)/\Lx H H' [.box b1 c 65,.box b2 (zS f) 54,.box b4 zB 65,.box b8 (mP f) 104])
  (fun t _=>mi t.1 fun i=>(64 - i).toNat) ⟨0,b,by omega,rfl,hb.n,fun j hj=>by rw[aH (by omega)],l6⟩ ?_
 rintro _ H7 ⟨i,c,hi,rfl,hc,hv,l7⟩;rw[zk,za,zb];refine⟨fun kc=>?_,fun lA=>?_⟩
 ·have kI:i<64:=by omega
  rw[z7 (by decide),za,show(n:Int).tmod 16=((n % 16:Nat):Int) from by rw[Int.tmod_eq_emod_of_nonneg (by omega)];omega,zW,za,zd (by omega) (by omega),ze,za,zd (by omega) (by omega),show(64:Int)*((n % 16:Nat):Int)+(i:Int)=((64*(n % 16)+i:Nat):Int) by omega,
   zC (by omega),za,aR,iX,l7.ld (i:=3) rfl,(ZG f).get kI,za,zC (by omega),za,aR,iX]
  refine l7.st (i:=0) (j:=64*(n % 16)+i) (v:=.int .u8 (kv (mP f) i:Nat)) rfl (by rw[hc.size];omega) rfl rfl fun H8 l8=>?_;rw[ze,za,zE,zr (by omega)];refine⟨⟨i+1,_,by omega,rfl,hc.set _ ((ZG f).lt _),fun j hj=>?_,l8⟩,by simp only[zu];omega⟩;rw[hc.oL (by omega)];by_cases e:64*(n % 16)+i=j
  ·rw[aU e,aU (by omega)];congr 1;omega
  ·rw[aH e,hv j hj];by_cases h2:64*(n % 16)<=j/\j<64*(n % 16)+i
   ·rw[aU h2,aU (by omega)]
   ·rw[aH h2,aH (by omega)]
 ·have ei:i=64:=by omega
  subst ei;have oI:mu 1024 (zL b (64*(n % 16)) (mP f)):=abh hb.n (ZG f) ho;have ec:c=zL b (64*(n % 16)) (mP f):=hc.ext oI fun j hj=>by
   rw[hv j hj,Vb hb.n (ZG f) ho]
  rw[l7.je (i:=0) (n:=1024) rfl hc.size,za];subst ec;refine l7.ret (i:=2) (K:=fun y H4=>R y H4) rfl zw hc.size hc.ok fun H' l'=>?_;exact k H' l'.iZ
end
noncomputable def tj(x:kh)(D:kj)(G:mW)(n:Int):kj × Array Value × Int:=
 if Z4 D G≠0 then(D,zS fun _=>0,Z4 D G) else if ¬ (1<=n/\n<=x.I) then(D,zS fun _=>0,2) else
 if (zU x D G (x.nodeAt+n / 16)).2.2≠0 then((zU x D G (x.nodeAt+n / 16)).1,zS fun _=>0,(zU x D G (x.nodeAt+n / 16)).2.2) else
  ((zU x D G (x.nodeAt+n / 16)).1,zS (ZD (zU x D G (x.nodeAt+n / 16)).2.1 (64*(n.toNat % 16))),0)
theorem vE{x:kh}{D:kj}{G:mW}(kD:DOk D G)(a:Int):jR (zU x D G a).2.1:=by
 unfold zU;split
 ·exact z6
 ·split
  ·exact z6
  ·split
   ·rename_i y hy;exact kD.is y (sK hy)
   ·show jR (D.read a).2.1;unfold kj.read;split
    ·exact z6
    ·split
     ·exact z6
     ·exact kj.TR kD.Ll a
theorem M4(y:kh):Ys TP 62 (.agg y.cells) 2=some (zg y.nodeAt):=by kernel_rfl
section
variable{H:Hp}{R:Value->Hp->Prop}{w r:Nat}{D:kj}{G:mW}{x:kh}{O:Nat->Prop}
theorem Vs(h:(ZN w r D x G).at_ H O)(kD:DOk D G)(hx:0<=x.nodeAt/\x.nodeAt<1000000000/\x.I<1000000000){n:Int}(k:∀ H' O',kS O O' H H'->(ZN w r (tj x D G n).1 x G).at_ H' O'->R (.tuple #[.agg (tj x D G n).2.1,zg (tj x D G n).2.2]) H'):Fc TP 52 #[zD w,zg n] H R:=by
 refine fn52 ?_;simp only[sh52,UL,Us,Ub,Uz,Ux,Uf,Uu,Uv,ZE,rh,za,zm];refine(Lo.own h).jc fun b1 H1 e1 l1=>?_;have l1:Lo O H H1 [ZN w r D x G,.box b1 (zS fun _=>0) 54]:=l1;have out:∀ {H2:Hp} {D':kj} {c c':Array Value} {e:Int},Lo O H H2 [ZN w r D' x G,.box b1 c 54]->c.size=16->c'.size=16->zv c'->tj x D G n=(D',c',e)->Pu (zY (some 16) (.pointer (some ⟨b1,0,none⟩)) (.agg c') H2) fun H'=>Pu (zX (some (some 16)) (.pointer (some ⟨b1,0,none⟩)) H') fun y=>R (.tuple #[y,zg e]) H':=fun {H2 D' c c' e} l hc Ot hk he=>by
  rw[he]at k;refine l.ret (i:=1) (K:=fun y H4=>R (.tuple #[y,zg e]) H4) rfl hc Ot hk fun H' l'=>?_;obtain⟨O',st,h'⟩:=Lo.mQ (l'.takeN 1);exact k H' O' st h'
 have hz:(zS fun _=>0).size=16:=zt _;have hzk:zv (zS fun _=>0):=ZA _;obtain⟨O1,h1,pH⟩:=l1.call (i:=0) rfl;refine yu h1 ?_;rw[zn,za,zb];refine⟨fun jZ=>?_,fun heq=>?_⟩
 ·rw[rU,za];exact out l1 hz hz hzk (by unfold tj;rw[aU jZ])
 have Sa:YY x D G=x:=by unfold YY;rw[aH heq]
 refine L3 h1 fun H2 O2 s2 h2=>?_;have l2:Lo O H H2 [ZN w r D x G,.box b1 (zS fun _=>0) 54]:=pH H2 _ O2 s2 h2;rw[Sa,zx,za,Zm];refine⟨fun kG=>?_,fun pf=>?_⟩
 ·rw[jq]at kG;rw[rU,za];exact out l2 hz hz hzk (by unfold tj;rw[aH heq,aU kG])
 rw[iS]at pf;obtain⟨O3,h3,mJ⟩:=l2.call (i:=0) rfl;refine rP h3 fun H4 O4 s4 h4=>?_;have l4:Lo O H H4 [ZN w r D x G,.box b1 (zS fun _=>0) 54]:=mJ H4 _ O4 s4 h4;rw[Sa,M4,za,Zp (by decide),za,show n.tdiv 16=n / 16 from Int.tdiv_eq_ediv_of_nonneg (by omega),zd (by omega) (by omega),ze,za,zd (by omega) (by omega)];obtain⟨O5,h5,Hq⟩:=l4.call (i:=0) rfl;have lK:=vE (x:=x) kD (x.nodeAt+n / 16);have e0:tj x D G n=if (zU x D G (x.nodeAt+n / 16)).2.2≠0 then((zU x D G (x.nodeAt+n / 16)).1,zS fun _=>0,(zU x D G (x.nodeAt+n / 16)).2.2) else
  ((zU x D G (x.nodeAt+n / 16)).1,zS (ZD (zU x D G (x.nodeAt+n / 16)).2.1 (64*(n.toNat % 16))),0):=by unfold tj;rw[aH heq,aH (not_not.2 pf)]
 refine C9 h5 kD fun H6 O6 s6 h6=>?_;generalize zU x D G (x.nodeAt+n / 16)=z at lK e0 h6 ⊢;have l6:Lo O H H6 [ZN w r z.1 x G,.box b1 (zS fun _=>0) 54]:=Hq H6 _ O6 s6 h6;rw[show zq (.tuple #[.agg z.2.1,zg z.2.2]) 0=some (.agg z.2.1) from rfl,za,show zq (.tuple #[.agg z.2.1,zg z.2.2]) 1=some (zg z.2.2) from rfl,za,ZI,za];refine l6.jc fun b7 H7 _ l7=>?_;refine l7.jE (i:=2) rfl zw lK.size lK.ok fun H8 l8=>?_;have l8:Lo O H H8 [ZN w r z.1 x G,.box b1 (zS fun _=>0) 54,.box b7 z.2.1 65]:=l8;rw[zn,za,zb];refine⟨fun jZ=>?_,fun hze=>?_⟩
 ·rw[rU,za];exact out (l8.takeN 2) hz hz hzk (by rw[e0,aU jZ])
 ·rw[aH hze]at e0;rw[l8.je (i:=2) (n:=1024) rfl lK.size,za];have en:zg n=zg ((n.toNat:Nat):Int):=by rw[Int.toNat_of_nonneg (by omega)]
  rw[en];refine ajH lK (by omega) fun H9 e9=>?_;exact out ((l8.ext e9).takeN 2) hz (zt _) (ZA _) e0
end
noncomputable def qS(x:kh)(D:kj)(G:mW)(n:Int)(f:kM):kj × mW × Int:=
 if Z4 D G≠0 then(D,G,Z4 D G) else if pA D G=false then(D,G,180) else if ¬ (1<=n/\n<=x.I) then(D,G,2) else
 if (zU x D G (x.nodeAt+n / 16)).2.2≠0 then((zU x D G (x.nodeAt+n / 16)).1,G,(zU x D G (x.nodeAt+n / 16)).2.2) else
  ((zU x D G (x.nodeAt+n / 16)).1,
   (ZY x (zU x D G (x.nodeAt+n / 16)).1 G (x.nodeAt+n / 16) (zL (zU x D G (x.nodeAt+n / 16)).2.1 (64*(n.toNat % 16)) (mP f))).1,
   (ZY x (zU x D G (x.nodeAt+n / 16)).1 G (x.nodeAt+n / 16) (zL (zU x D G (x.nodeAt+n / 16)).2.1 (64*(n.toNat % 16)) (mP f))).2)
section
variable{H:Hp}{R:Value->Hp->Prop}{w r:Nat}{D:kj}{G:mW}{x:kh}{O:Nat->Prop}
theorem QR(h:(ZN w r D x G).at_ H O)(kD:DOk D G)(hw:G.wrote.length<1048576)(GU:G.group.length<1048576)(agP:0<=x.logAt/\x.logAt<4611686018427387904/\0<=x.L/\x.L<4611686018427380000)(hx:0<=x.nodeAt/\x.nodeAt<1000000000/\x.I<1000000000){n:Int}{f:kM}(hf:lE f)
   (k:∀ H' O',kS O O' H H'->(ZN w r (qS x D G n f).1 x (qS x D G n f).2.1).at_ H' O'->R (zg (qS x D G n f).2.2) H'):Fc TP 53 #[zD w,zg n,.agg (zS f)] H R:=by
 refine fn53 ?_
 simp only[sh53,UL,Us,Ub,Uz,Ux,Uf,Uu,Uv,ZE,rh,za,zm]
 refine(Lo.own h).jc fun b1 H1 e1 l1=>?_
 have l1:Lo O H H1 [ZN w r D x G,.box b1 (zS f) 54]:=l1
 have out:∀ {H2:Hp} {D':kj} {G':mW} {c:Array Value} {e:Int},Lo O H H2 [ZN w r D' x G',.box b1 c 54]->qS x D G n f=(D',G',e)->R (zg e) H2:=fun {H2 D' G' c e} l he=>by
   rw[he]at k
   obtain⟨O',st,h'⟩:=Lo.mQ (l.takeN 1)
   exact k H2 O' st h'
 have hz:(zS f).size=16:=zt _
 obtain⟨O1,h1,pH⟩:=l1.call (i:=0) rfl
 refine yu h1 ?_
 rw[zn,za,zb]
 refine⟨fun jZ=>out l1 (by unfold qS;rw[aU jZ]),fun heq=>?_⟩
 have Sa:YY x D G=x:=by unfold YY;rw[aH heq]
 refine Jd h1 ?_
 rw[zx,za,Zm]
 refine⟨fun hs=>out l1 (by unfold qS;rw[aH heq,aU hs]),fun hs=>?_⟩
 have DX:¬ pA D G=false:=by rw[hs];decide
 refine L3 h1 fun H2 O2 s2 h2=>?_
 have l2:Lo O H H2 [ZN w r D x G,.box b1 (zS f) 54]:=pH H2 _ O2 s2 h2
 rw[Sa,zx,za,Zm]
 refine⟨fun kG=>?_,fun pf=>?_⟩
 · rw[jq]at kG
   exact out l2 (by unfold qS;rw[aH heq,aH DX,aU kG])
 rw[iS]at pf
 obtain⟨O3,h3,mJ⟩:=l2.call (i:=0) rfl
 refine rP h3 fun H4 O4 s4 h4=>?_
 have l4:Lo O H H4 [ZN w r D x G,.box b1 (zS f) 54]:=mJ H4 _ O4 s4 h4
 rw[Sa,M4,za,Zp (by decide),za,show n.tdiv 16=n / 16 from Int.tdiv_eq_ediv_of_nonneg (by omega),zd (by omega) (by omega),ze,za,zd (by omega) (by omega)]
 obtain⟨O5,h5,Hq⟩:=l4.call (i:=0) rfl
 have lK:=vE (x:=x) kD (x.nodeAt+n / 16)
 have e0:qS x D G n f=if (zU x D G (x.nodeAt+n / 16)).2.2≠0 then((zU x D G (x.nodeAt+n / 16)).1,G,(zU x D G (x.nodeAt+n / 16)).2.2) else
   ((zU x D G (x.nodeAt+n / 16)).1,
    (ZY x (zU x D G (x.nodeAt+n / 16)).1 G (x.nodeAt+n / 16) (zL (zU x D G (x.nodeAt+n / 16)).2.1 (64*(n.toNat % 16)) (mP f))).1,
    (ZY x (zU x D G (x.nodeAt+n / 16)).1 G (x.nodeAt+n / 16) (zL (zU x D G (x.nodeAt+n / 16)).2.1 (64*(n.toNat % 16)) (mP f))).2):=by unfold qS;rw[aH heq,aH DX,aH (not_not.2 pf)]
 refine C9 h5 kD fun H6 O6 s6 h6=>?_
 generalize zU x D G (x.nodeAt+n / 16)=z at lK e0 h6 ⊢
 have l6:Lo O H H6 [ZN w r z.1 x G,.box b1 (zS f) 54]:=Hq H6 _ O6 s6 h6
 rw[show zq (.tuple #[.agg z.2.1,zg z.2.2]) 0=some (.agg z.2.1) from rfl,za,show zq (.tuple #[.agg z.2.1,zg z.2.2]) 1=some (zg z.2.2) from rfl,za,ZI,za]
 refine l6.jc fun b7 H7 _ l7=>?_
 refine l7.jE (i:=2) rfl zw lK.size lK.ok fun H8 l8=>?_
 have l8:Lo O H H8 [ZN w r z.1 x G,.box b1 (zS f) 54,.box b7 z.2.1 65]:=l8
 rw[zn,za,zb]
 refine⟨fun jZ=>out (l8.takeN 2) (by rw[e0,aU jZ]),fun hze=>?_⟩
 rw[aH hze]at e0
 rw[l8.je (i:=2) (n:=1024) rfl lK.size,za,l8.je (i:=1) (n:=16) rfl hz,za]
 have en:zg n=zg ((n.toNat:Nat):Int):=by rw[Int.toNat_of_nonneg (by omega)]
 rw[en]
 refine aca lK hf (by omega) fun H9 e9=>?_
 have l9:Lo O H H9 [ZN w r z.1 x G,.box b1 (zS f) 54,.box b7 z.2.1 65]:=l8.ext e9
 obtain⟨O9,h9,L5⟩:=l9.call (i:=0) rfl
 refine E6 agP h9 hw GU kD.is (yc lK.n (ZG f) (by omega)).b fun mX O10 Vr tY=>?_
 have mn:=L5 mX _ O10 Vr tY
 exact out (mn.takeN 2) e0
end
noncomputable def LS.ino(c:Cx)(S:LS)(n:Nat):kM:=ZD (S.view (1+c.L+((n / 16:Nat):Int))) (64*(n % 16))
noncomputable def LS.rk(c:Cx)(S:LS)(n:Int):Array Value × Int:=if S.dead=true then(zS fun _=>0,3) else if ¬ (1<=n/\n<=c.I) then(zS fun _=>0,2) else(zS (S.ino c n.toNat),0)
noncomputable def LS.sU(c:Cx)(S:LS)(n:Int)(f:kM):LS × Int:=if S.dead=true then(S,3) else if S.op=false then(S,180) else if ¬ (1<=n/\n<=c.I) then(S,2) else
 S.wt c.B c.L (1+c.L+((n.toNat / 16:Nat):Int)) (zL (S.view (1+c.L+((n.toNat / 16:Nat):Int))) (64*(n.toNat % 16)) (mP f))
noncomputable def xE(f:Nat->kM):Nat->Nat
 | 0=>0
 | n+1=>if xE f n≠0 then xE f n else if f (n+1) 0=0 then n+1 else 0
theorem Bh{f:Nat->kM}:∀ {n:Nat},(∀ j,1<=j->j<=n->f j 0≠0)->xE f n=0
 | 0,_=>rfl
 | n+1,h=>by
  unfold xE;rw[Bh fun j h1 h2=>h j h1 (by omega),aH (fun e=>e rfl),aH (h (n+1) (by omega) (iU _))]
theorem F9{f:Nat->kM}{i:Nat}(h1:1<=i)(h2:f i 0=0)(h3:∀ j,1<=j->j<i->f j 0≠0):∀ {n:Nat},i<=n->xE f n=i
 | 0,h=>by omega
 | n+1,h=>by
  unfold xE;by_cases e:i=n+1
  ·subst e;rw[Bh fun j q1 q2=>h3 j q1 (by omega),aH (fun e=>e rfl),aU h2]
  ·rw[F9 h1 h2 h3 (n:=n) (by omega),aU (by omega)]
noncomputable def LS.take(c:Cx)(S:LS)(f:kM):LS × Int × Int:=
 if S.dead=true then(S,0,3) else if S.op=false then(S,0,180) else if f 0=0 then(S,0,2) else
 if xE (S.ino c) c.I.toNat=0 then(S,0,16) else
 if (S.sU c (xE (S.ino c) c.I.toNat) f).2≠0 then((S.sU c (xE (S.ino c) c.I.toNat) f).1,0,(S.sU c (xE (S.ino c) c.I.toNat) f).2)
 else((S.sU c (xE (S.ino c) c.I.toNat) f).1,(xE (S.ino c) c.I.toNat:Int),0)
noncomputable def LS.spare(c:Cx)(S:LS):Int × Int:=if S.dead=true then(0,3) else((CR (S.ino c) c.I.toNat:Int),0)
noncomputable def LS.uu(c:Cx)(S:LS):List Int × Int:=if S.dead=true then([],3) else(DQ (S.ino c) c.I.toNat,0)
theorem LS.Bb{S:LS}{B a:Int}(h:S.dead=false)(h0:0<=a)(h1:a<B):S.rd B a=(S.view a,0):=by
 unfold LS.rd;rw[aH (by rw[h];decide),aH (by omega)]
theorem Cx.Ok.HS{c:Cx}(h:c.Ok){n:Nat}(hn:(n:Int)<=c.I):nZ c.L (1+c.L+((n / 16:Nat):Int))/\0<=1+c.L+((n / 16:Nat):Int)/\1+c.L+((n / 16:Nat):Int)<c.B:=by
 obtain⟨g1,g2,g3,g4,g5,g6,g7⟩:=h.CQ;have e:(zf c.B c.L c.I).kb=1+c.L+(c.I+16) / 16+(c.B+8191) / 8192:=rfl;exact⟨.inr (by omega),by omega,by omega⟩
theorem EA{f g:Nat->kM}:∀ {n:Nat},(∀ j,j<=n->f j=g j)->DQ f n=DQ g n
 | 0,_=>rfl
 | n+1,h=>by unfold DQ;rw[EA fun j hj=>h j (by omega),h (n+1) (iU _)]
theorem aba(n:Int)(h : -9223372036854775808<=n/\n<=9223372036854775807) : -600000000000000000<=n.tdiv 16/\n.tdiv 16<=600000000000000000 /\ -16<n.tmod 16/\n.tmod 16<16:=by
 rcases Int.le_total 0 n with h0 | h0
 ·rw[Zx h0,Zb h0];omega
 ·obtain⟨q,rfl⟩:∃ q,n = -q:=⟨-n,by omega⟩;rw[Int.neg_tdiv,Int.neg_tmod,Zx (by omega),Zb (by omega)];omega
section
variable{H:Hp}{R:Value->Hp->Prop}{c:Cx}{k:Nat}{S:LS}{O:Nat->Prop}
theorem Ki{P:mS}(h:mm c.B c.L c.mine k P S)(hg:c.Ok)(hd:S.dead=false){j:Nat}(hj:(j:Int)<=c.I):Bf P c.L j=S.ino c j:=by
 obtain⟨h1,h2,h3⟩:=hg.HS hj;unfold Bf LS.ino;rw[(h.live hd).view _ h2 h3 h1]
theorem BS(h:(kW c k S).at_ H O):c.Ok:=by
 obtain⟨P,_,_,_,h4⟩:=h;exact h4
theorem Ma(h:(kW c k S).at_ H O)(hd:S.dead=false){n:Int}(hn : -9223372036854775808<=n/\n<=9223372036854775807)
   (K:∀ H',Ext H H'->R (.tuple #[zg (1+c.L+n.tdiv 16),zg (n.tmod 16*64),.bool (decide (1<=n/\n<=c.I))]) H'):Fc TP 39 #[zD c.lb,zg n] H R:=by
 have hL:=(BS h).hL
 have c4:(zf c.B c.L c.I).cells[4]?=some (zg (1+c.L)):=rfl
 have c2:(zf c.B c.L c.I).cells[2]?=some (zg c.I):=rfl
 obtain⟨t1,t2,t3,t4⟩:=aba n hn
 refine fn39 ?_
 simp only[sh39,Ul,UA,Us,Ub,Uz,Uf,Uv,U0,yq,za]
 refine NL h fun H1 e1=>?_
 rw[show S.lay c=zf c.B c.L c.I from aH (by rw[hd];decide)]
 refine((Lo.start _ H:Lx H H []).ext e1).jc fun b1 H2 _ l2=>?_
 refine l2.jE (i:=0) rfl rfl (kh.size _) (kh.Ns _) fun H3 l3=>?_
 simp only[zc,aR,bH,za]
 rw[l3.ld (i:=0) rfl,c4,za,Zp (by decide),za,zd (by omega) (by omega),ze,za,zd (by omega) (by omega),z7 (by decide),za,zW,za,zd (by omega) (by omega),zN,za,zb]
 refine⟨fun h1=>?_,fun h1=>?_⟩
 · rw[l3.ld (i:=0) rfl,c2,za,yp,za]
   have:=K H3 l3.iZ
   rw[show decide (1<=n/\n<=c.I)=decide (n<=c.I) from ZO ⟨fun e=>e.2,fun e=>⟨by omega,e⟩⟩]at this
   exact this
 · have:=K H3 l3.iZ
   rw[show decide (1<=n/\n<=c.I)=false from cH fun e=>h1 (by omega)]at this
   exact this
theorem LS.jM{S:LS}(h:S.dead=true):S.nS=3:=aU h
theorem LS.To{S:LS}(h:S.dead=false):S.nS=0:=aH (by rw[h];decide)
theorem BQ(h:(kW c k S).at_ H O)(hk:k<80000000000){n:Int}(hn : -9223372036854775808<=n/\n<=9223372036854775807)
   (K:∀ H' O',kS O O' H H'->(kW c (k+1) S).at_ H' O'->R (.tuple #[.agg (S.rk c n).1,zg (S.rk c n).2]) H'):Fc TP 34 #[zD c.lb,zg n] H R:=by
 have hg:=BS h
 have x3:∀ {a b c:Value},zq (.tuple #[a,b,c]) 0=some a:=rfl
 have x4:∀ {a b c:Value},zq (.tuple #[a,b,c]) 1=some b:=rfl
 have x5:∀ {a b c:Value},zq (.tuple #[a,b,c]) 2=some c:=rfl
 have y3:∀ {a b:Value},zq (.tuple #[a,b]) 0=some a:=rfl
 have y4:∀ {a b:Value},zq (.tuple #[a,b]) 1=some b:=rfl
 refine fn34 ?_
 simp only[sh34,UL,Us,Ub,Uz,Ux,Uf,Uu,Uv,ZE,ZI,rU,za]
 refine(Lo.own h).jc fun b1 H1 _ l1=>?_
 have l1:Lo O H H1 [kW c k S,.box b1 (zS fun _=>0) 54]:=l1
 have out:∀ {H2:Hp} {k':Nat} {u v:Array Value} {e:Int} {r:List Ob},Lo O H H2 ([kW c k' S,.box b1 u 54]++r)->k'<=k+1->u.size=16->v.size=16->zv v->S.rk c n=(v,e)->Pu (zY (some 16) (.pointer (some ⟨b1,0,none⟩)) (.agg v) H2) fun H'=>Pu (zX (some (some 16)) (.pointer (some ⟨b1,0,none⟩)) H') fun y=>R (.tuple #[y,zg e]) H':=fun {H2 k' u v e r} l Wq hu hv kD he=>by
   rw[he]at K
   refine l.ret (i:=1) (K:=fun y H4=>R (.tuple #[y,zg e]) H4) rfl hu hv kD fun H' l'=>?_
   obtain⟨O',st,h'⟩:=Lo.mQ l'
   exact K H' O' st (pj h' Wq)
 have hz:(zS fun _=>0).size=16:=zt _
 have hzk:zv (zS fun _=>0):=ZA _
 obtain⟨O1,h1,_⟩:=l1.call (i:=0) rfl
 refine Yb h1 ?_
 rw[zn,za]
 refine Yo (fun hd=>?_) fun hd=>?_
 · rw[LS.jM hd]
   exact out (r:=[]) l1 (by omega) hz hz hzk (by unfold LS.rk;rw[aU hd])
 have lj:¬ S.dead=true:=by rw[hd];decide
 refine Ma h1 hd hn fun H2 e2=>?_
 have l2:=l1.ext e2
 rw[x3,za,x4,za,x5,za,zx,za,Zm]
 refine⟨fun kG=>?_,fun pf=>?_⟩
 · rw[jq]at kG
   exact out (r:=[]) l2 (by omega) hz hz hzk (by unfold LS.rk;rw[aH lj,aU kG])
 rw[iS]at pf
 have e0:S.rk c n=(zS (S.ino c n.toNat),0):=by unfold LS.rk;rw[aH lj,aH (fun e=>e pf)]
 obtain⟨i,rfl⟩:∃ i:Nat,n=(i:Int):=⟨n.toNat,by omega⟩
 rw[jK]at e0
 obtain⟨o1,o2,o3⟩:=hg.HS (n:=i) (by omega)
 obtain⟨O2,h2,Hr⟩:=l2.call (i:=0) rfl
 rw[Zx (by omega),Zb (by omega),show 1+c.L+(i:Int) / 16=1+c.L+((i / 16:Nat):Int) by omega,show(i:Int) % 16*64=((64*(i % 16):Nat):Int) by omega]
 refine FM h2 hk (fun _ _ _=>o1) fun H3 O3 s3 h3 lK=>?_
 rw[LS.Bb hd o2 o3]at lK ⊢
 have l3:Lo O H H3 [kW c (k+1) S,.box b1 (zS fun _=>0) 54]:=Hr H3 _ O3 s3 h3
 rw[y3,za,y4,za]
 unfold LS.ino at e0
 generalize S.view (1+c.L+((i / 16:Nat):Int))=d at lK e0
 simp only at lK
 refine l3.jc fun b3 H4 _ l4=>?_
 refine l4.jE (i:=2) rfl zw lK.size lK.ok fun H5 l5=>?_
 have l5:Lo O H H5 [kW c (k+1) S,.box b1 (zS fun _=>0) 54,.box b3 d 65]:=l5
 rw[zn,za,cH (by omega),zh,ze,za,show((64*(i % 16):Nat):Int)+64=((64*(i % 16)+64:Nat):Int) by omega,zr (by omega),QB A7 vl vk (by omega) (by omega) (by omega),za,show 64*(i % 16)+64 - 64*(i % 16)=64 by omega,show GL (some 64) (.slice (some ⟨b3,64*(i % 16),none⟩) 64 (1024 - 64*(i % 16)))=some (.pointer (some ⟨b3,64*(i % 16),none⟩)) from rfl,za,Za (l5.at (i:=2) rfl) (by rw[lK.size];omega),za]
 refine HR (rR lK (by omega)) fun H6 e6=>?_
 have e:zS (ZD (d.extract (64*(i % 16)) (64*(i % 16)+64)) 0)=zS (ZD d (64*(i % 16))):=yH fun j hj=>rJ lK (by omega) hj
 rw[e]
 exact out (r:=[_]) (l5.ext e6) (iU _) hz (zt _) (ZA _) e0
theorem Em(h:(kW c k S).at_ H O)(hk:k<80000000000){n:Int}(hn : -9223372036854775808<=n/\n<=9223372036854775807){f:kM}(hf:lE f)
   (K:∀ H' O',kS O O' H H'->(kW c (k+1) (S.sU c n f).1).at_ H' O'->R (zg (S.sU c n f).2) H'):Fc TP 12 #[zD c.lb,zg n,.agg (zS f)] H R:=by
 have hg:=BS h
 have x3:∀ {a b c:Value},zq (.tuple #[a,b,c]) 0=some a:=rfl
 have x4:∀ {a b c:Value},zq (.tuple #[a,b,c]) 1=some b:=rfl
 have x5:∀ {a b c:Value},zq (.tuple #[a,b,c]) 2=some c:=rfl
 have y3:∀ {a b:Value},zq (.tuple #[a,b]) 0=some a:=rfl
 have y4:∀ {a b:Value},zq (.tuple #[a,b]) 1=some b:=rfl
 refine fn12 ?_
 simp only[sh12,UL,Us,Ub,Uz,Ux,Uf,Uu,Uv,PY,ZI,za]
 refine(Lo.own h).jc fun b1 H1 _ l1=>?_
 have l1:Lo O H H1 [kW c k S,.box b1 (zS f) 54]:=l1
 have out:∀ {H2:Hp} {k':Nat} {S':LS} {e:Int} {r:List Ob},Lo O H H2 (kW c k' S' :: r)->k'<=k+1->S.sU c n f=(S',e)->R (zg e) H2:=fun {H2 k' S' e r} l Wq he=>by
   rw[he]at K
   obtain⟨O',st,h'⟩:=Lo.mQ l
   exact K H2 O' st (pj h' Wq)
 obtain⟨O1,h1,_⟩:=l1.call (i:=0) rfl
 refine Yb h1 ?_
 rw[zn,za]
 refine Yo (fun hd=>?_) fun hd=>?_
 · rw[LS.jM hd]
   exact out l1 (by omega) (by unfold LS.sU;rw[aU hd])
 have lj:¬ S.dead=true:=by rw[hd];decide
 refine FN h1 ?_
 rw[zx,za,Zm]
 refine⟨fun kG=>?_,fun hyo=>?_⟩
 · have ho:S.op=false:=by
     rcases qC S with ho | ho
     · exact absurd ⟨hd,ho⟩ (of_decide_eq_false kG)
     · exact ho
   exact out l1 (by omega) (by unfold LS.sU;rw[aH lj,aU ho])
 have ho:¬ S.op=false:=by rw[(ks hyo).2];decide
 refine Ma h1 hd hn fun H2 e2=>?_
 have l2:=l1.ext e2
 rw[x3,za,x4,za,x5,za,zx,za,Zm]
 refine⟨fun kG=>?_,fun pf=>?_⟩
 · rw[jq]at kG
   exact out l2 (by omega) (by unfold LS.sU;rw[aH lj,aH ho,aU kG])
 rw[iS]at pf
 have e0:S.sU c n f=S.wt c.B c.L (1+c.L+((n.toNat / 16:Nat):Int)) (zL (S.view (1+c.L+((n.toNat / 16:Nat):Int))) (64*(n.toNat % 16)) (mP f)):=by unfold LS.sU;rw[aH lj,aH ho,aH (fun e=>e pf)]
 obtain⟨i,rfl⟩:∃ i:Nat,n=(i:Int):=⟨n.toNat,by omega⟩
 rw[jK]at e0
 obtain⟨o1,o2,o3⟩:=hg.HS (n:=i) (by omega)
 obtain⟨O2,h2,Hr⟩:=l2.call (i:=0) rfl
 rw[Zx (by omega),Zb (by omega),show 1+c.L+(i:Int) / 16=1+c.L+((i / 16:Nat):Int) by omega,show(i:Int) % 16*64=((64*(i % 16):Nat):Int) by omega]
 refine FM h2 hk (fun _ _ _=>o1) fun H3 O3 s3 h3 lK=>?_
 rw[LS.Bb hd o2 o3]at lK ⊢
 have l3:Lo O H H3 [kW c (k+1) S,.box b1 (zS f) 54]:=Hr H3 _ O3 s3 h3
 rw[y3,za,y4,za]
 generalize S.view (1+c.L+((i / 16:Nat):Int))=d at lK e0
 simp only at lK
 have oI:jR (zL d (64*(i % 16)) (mP f)):=(yc lK.n (ZG f) (by omega)).b
 refine l3.jc fun b3 H4 _ l4=>?_
 refine l4.jE (i:=2) rfl zw lK.size lK.ok fun H5 l5=>?_
 have l5:Lo O H H5 [kW c (k+1) S,.box b1 (zS f) 54,.box b3 d 65]:=l5
 rw[zn,za,cH (by omega),zh,l5.je (i:=1) (n:=16) rfl (zt _),za]
 refine Rq hf fun H6 e6=>?_
 refine(l5.ext e6).jc fun b4 H7 _ l7=>?_
 refine l7.jE (i:=3) rfl (yU 64) (ZG f).size (ZG f).ok fun H8 l8=>?_
 have l8:Lo O H H8 [kW c (k+1) S,.box b1 (zS f) 54,.box b3 d 65,.box b4 (mP f) 105]:=l8
 obtain⟨eb,eb1,eb2⟩:=alO
 rw[Vi A7 vl vk (by omega),za,QD XL vl vk (by omega),za,eb1]
 have kE:np H8 ⟨b4,0,none⟩ 64=some (mP f):=by
   unfold np
   simp only[l8.at (i:=3) rfl]
   rw[aU ⟨trivial,by rw[(ZG f).size];omega⟩,qI (ZG f).size]
 refine Ti eb2 kE (by omega) (ZG f).size ?_
 refine l8.XN (i:=2) (j:=64*(i % 16)) rfl (by rw[lK.size];omega) (ZG f).size (ZG f).ok fun H9 l9=>?_
 have l9:Lo O H H9 [kW c (k+1) S,.box b1 (zS f) 54,.box b3 (zL d (64*(i % 16)) (mP f)) 65,.box b4 (mP f) 105]:=l9
 simp only[]
 rw[l9.je (i:=2) (n:=1024) rfl oI.size,za]
 obtain⟨O9,hl9,L5⟩:=l9.call (i:=0) rfl
 refine Hs hl9 oI fun mX O10 Vr tY=>?_
 have mn:=L5 mX _ O10 Vr tY
 exact out mn (iU _) e0
end
section
variable{T:Nat->Prop}{H0 H:Hp}{R:Value->Hp->Prop}{c:Cx}{k:Nat}{S:LS}{r:List Ob}
theorem aeZ{X:Nat->Ob}{go:Nat->Bool}{av:Value}(l:Lo T H0 H ([kW c k S,X 1]++r))(hd:S.dead=false)(hk:k<80000000000)
   (adk:∀ (H:Hp) (O:Nat->Prop) (j:Nat),1<=j->(j:Int)<=c.I->(X j).at_ H O->om TP av #[zg j,.agg (zS (S.ino c j))] H fun v H'=>v=.bool (go j)/\∃ O',kS O O' H H'/\(X (j+1)).at_ H' O')
   (K:∀ H' m,Lo T H0 H' ([kW c (k+4097) S,X m]++r)->1<=m->(m:Int)<=c.I+1->(∀ j,1<=j->j+1<m->go j=true)->((m:Int)=c.I+1/\(∀ j,1<=j->j<m->go j=true)\/2<=m/\go (m - 1)=false)->R (.int .i64 0) H') :
   Fc TP 42 #[zD c.lb,.func (.func 18) #[zD c.lb] #[],av] H R:=by
 obtain⟨O,⟨P,hp,hr,hs,hg⟩,st⟩:=l.call (i:=0) rfl
 have hL:=hg.hL
 have hB:=hg.hB
 have l1:Lo T H0 H ([Yv c.lb c.p (zf c.B c.L c.I) c.mine P,X 1]++r):=st H _ O (kS.refl _ _) hp
 have oq:=hr.fit.reads
 refine FB (X:=X) (go:=go) l1 (hr.pok hs hL hB.2 (by omega) hd) hg.CQ (by omega) (fun H1 O1 j j1 j2 hx=>?_) fun H1 s' ke m l2 h1 h2 h3 h4 h5=>?_
 · have:=adk H1 O1 j j1 j2 hx
   rw[<- Ki hr hg hd j2]at this
   exact this
 · have h6:Rd (zf c.B c.L c.I) P s' ke ((4097:Nat):Int):=h1
   exact K H1 m (l2.nth (i:=0) rfl fun O ho=>⟨_,ho,hr.rd h6 hd,hs,hg⟩) h2 h3 h4 h5
end
section
variable{H:Hp}{R:Value->Hp->Prop}{c:Cx}{k:Nat}{S:LS}{O:Nat->Prop}
theorem Qt(h:(kW c k S).at_ H O)(hk:k<80000000000)
   (K:∀ H' O',kS O O' H H'->(kW c (k+4097) S).at_ H' O'->R (.tuple #[zg (S.spare c).1,zg (S.spare c).2]) H'):Fc TP 14 #[zD c.lb] H R:=by
 rcases Zv S with hd | hd
 · refine fn14 ?_
   simp only[sh14,Ul,Us,Ub,Uz,Uf,Uv,JM,za]
   refine Yb h ?_
   rw[LS.jM hd,zn,za,gU (by omega),zA]
   have e:S.spare c=(0,3):=aU hd
   rw[e]at K
   exact K H O (kS.refl _ _) (pj h (by omega))
 · obtain⟨P,hp,hr,hs,hg⟩:=h
   have hL:=hg.hL
   have hB:=hg.hB
   have oq:=hr.fit.reads
   have hI:=hg.CQ.2.2.1
   have e:S.spare c=((CR (S.ino c) c.I.toNat:Int),0):=aH (by rw[hd];decide)
   rw[e]at K
   refine Qr hp (hr.pok hs hL hB.2 (by omega) hd) hg.CQ (by omega) fun H1 O1 s' ke st h1 h2=>?_
   have h6:Rd (zf c.B c.L c.I) P s' ke ((4097:Nat):Int):=h2
   rw[EZ (g:=Bf P c.L) (g':=S.ino c) fun j _ hj=>by rw[Ki hr hg hd (by omega)]]
   exact K H1 O1 st ⟨_,h1,hr.rd h6 hd,hs,hg⟩
theorem BR(h:(kW c k S).at_ H O)(hk:k<80000000000)
   (K:∀ H' v,Lo O H H' [kW c (k+4097) S,.sl 3 1 v ((S.uu c).1.map nI)]->R (.tuple #[v,zg (S.uu c).2]) H'):Fc TP 15 #[zD c.lb] H R:=by
 rcases Zv S with hd | hd
 · refine fn15 ?_
   simp only[sh15,Ul,Ub,Uz,Uf,Uv,LN,za]
   refine Yb h ?_
   rw[LS.jM hd,zn,za,gU (by omega),zA]
   have e:S.uu c=([],3):=aU hd
   rw[e]at K
   exact K H _ ((Lo.own (pj h (by omega))).nt 3 1)
 · obtain⟨P,hp,hr,hs,hg⟩:=h
   have hL:=hg.hL
   have hB:=hg.hB
   have oq:=hr.fit.reads
   have hI:=hg.CQ.2.2.1
   have e:S.uu c=(DQ (S.ino c) c.I.toNat,0):=aH (by rw[hd];decide)
   rw[e]at K
   refine Kg hp (hr.pok hs hL hB.2 (by omega) hd) hg.CQ (by omega) fun H1 s' ke v l1 h2=>?_
   have h6:Rd (zf c.B c.L c.I) P s' ke ((4097:Nat):Int):=h2
   rw[EA fun j hj=>Ki hr hg hd (by omega)]at l1
   exact K H1 v (l1.nth (i:=0) rfl fun O ho=>⟨_,ho,hr.rd h6 hd,hs,hg⟩)
theorem Ve(h:(kW c k S).at_ H O)(hk:k<70000000000){f:kM}(hf:lE f)
   (K:∀ H' O',kS O O' H H'->(kW c (k+4098) (S.take c f).1).at_ H' O'->R (.tuple #[zg (S.take c f).2.1,zg (S.take c f).2.2]) H'):Fc TP 20 #[zD c.lb,.agg (zS f)] H R:=by
 have hg:=BS h
 obtain⟨g1,g2,g3,g4,g5,g6,g7⟩:=hg.CQ
 have i0:(zS f)[0]?=some (.int .u16 (f 0)):=rfl
 have b0:∀ v:Value,(#[v]:Array Value)[0]?=some v:=fun _=>rfl
 refine fn20 ?_
 simp only[sh20,Ul,UL,UA,Us,Ub,Uz,Uf,Uu,Uv,JM,za]
 refine(Lo.own h).jc fun b1 H1 _ l1=>?_
 have l1:Lo O H H1 [kW c k S,.box b1 (zS f) 54]:=l1
 have out:∀ {H2:Hp} {k':Nat} {S':LS} {a e:Int} {r:List Ob},Lo O H H2 (kW c k' S' :: r)->k'<=k+4098->S.take c f=(S',a,e)->R (.tuple #[zg a,zg e]) H2:=fun {H2 k' S' a e r} l Wq he=>by
   rw[he]at K
   obtain⟨O',st,h'⟩:=Lo.mQ l
   exact K H2 O' st (pj h' Wq)
 obtain⟨O1,h1,pH⟩:=l1.call (i:=0) rfl
 refine Yb h1 ?_
 rw[zn,za]
 refine Yo (fun hd=>?_) fun hd=>?_
 · rw[LS.jM hd]
   exact out l1 (by omega) (by unfold LS.take;rw[aU hd])
 have lj:¬ S.dead=true:=by rw[hd];decide
 refine FN h1 ?_
 simp only[zc,aR,bH,za]
 rw[zx,za,Zm]
 refine⟨fun kG=>?_,fun hyo=>?_⟩
 · have ho:S.op=false:=by
     rcases qC S with ho | ho
     · exact absurd ⟨hd,ho⟩ (of_decide_eq_false kG)
     · exact ho
   exact out l1 (by omega) (by unfold LS.take;rw[aH lj,aU ho])
 have ho:¬ S.op=false:=by rw[(ks hyo).2];decide
 rw[l1.ld (i:=1) rfl,i0,za,zp,za,zb]
 refine⟨fun hz=>?_,fun hf0=>?_⟩
 · exact out l1 (by omega) (by unfold LS.take;rw[aH lj,aH ho,aU (by omega)])
 have hf0:¬ f 0=0:=by omega
 have e0:S.take c f=if xE (S.ino c) c.I.toNat=0 then(S,0,16) else
     if (S.sU c (xE (S.ino c) c.I.toNat) f).2≠0 then((S.sU c (xE (S.ino c) c.I.toNat) f).1,0,(S.sU c (xE (S.ino c) c.I.toNat) f).2)
     else((S.sU c (xE (S.ino c) c.I.toNat) f).1,(xE (S.ino c) c.I.toNat:Int),0):=by unfold LS.take;rw[aH lj,aH ho,aH hf0]
 refine l1.box fun b H2 _ l2=>?_
 refine l2.st (i:=2) (j:=0) (v:=.int .i64 0) rfl (show 0<1 by omega) rfl rfl fun H3 l3=>?_
 have l3:Lo O H H3 [kW c k S,.box b1 (zS f) 54,.box b #[zg ((MH (S.ino c) 0:Nat):Int)] 3]:=l3
 refine aeZ (X:=fun j=>.box b #[zg ((MH (S.ino c) (j - 1):Nat):Int)] 3) (go:=fun j=>decide (MH (S.ino c) j=0)) (r:=[.box b1 (zS f) 54]) (l3.pick [0,2,1] (by decide) (by simp)) hd (by omega) (fun H4 O4 j j1 j2 hx=>?_) fun H4 m l4 m1 m2 sI ID=>?_
 · refine⟨WU,?_⟩
   obtain⟨j,rfl⟩:∃ q,j=q+1:=⟨j - 1,by omega⟩
   simp only[LJ]at hx ⊢
   have e:(if S.ino c (j+1) 0=0 then((j+1:Nat):Int) else((MH (S.ino c) j:Nat):Int))=((MH (S.ino c) (j+1):Nat):Int):=by
     rw[show MH (S.ino c) (j+1)=if S.ino c (j+1) 0=0 then j+1 else MH (S.ino c) j from rfl]
     split<;>rfl
   refine afc hx fun H5 O5 s5 h5=>?_
   rw[e]at h5
   rw[e]
   refine⟨by congr 1;rw[kr];omega,O5,s5,h5⟩
 have l4:Lo O H H4 [kW c (k+4097) S,.box b #[zg ((MH (S.ino c) (m - 1):Nat):Int)] 3,.box b1 (zS f) 54]:=l4
 obtain⟨m,rfl⟩:∃ q,m=q+1:=⟨m - 1,by omega⟩
 simp only[LJ]at l4 ID
 rw[zn,za,cH (by omega),zh,l4.ld (i:=1) rfl,b0,za,zp,za,zb]
 refine⟨fun hz=>?_,fun R6=>?_⟩
 · have em:m=c.I.toNat:=by
     rcases ID with ⟨e,_⟩ | ⟨_,e⟩
     · omega
     · rw[jq]at e;omega
   subst em
   have hl:xE (S.ino c) c.I.toNat=0:=Bh fun j j1 j2=>Cn (n:=c.I.toNat) (by omega) j j1 (by omega)
   exact out l4 (by omega) (by rw[e0,aU hl])
 have hm1:1<=m:=by
   rcases Nat.eq_zero_or_pos m with e | e
   · rw[e]at R6;exact absurd rfl R6
   · exact e
 obtain⟨q,rfl⟩:∃ q,m=q+1:=⟨m - 1,by omega⟩
 have hq:MH (S.ino c) q=0:=by
   rcases Nat.eq_zero_or_pos q with e | e
   · rw[e];rfl
   · exact ks (sI q e (by omega))
 have kH:MH (S.ino c) (q+1)=if S.ino c (q+1) 0=0 then q+1 else MH (S.ino c) q:=rfl
 have aac:S.ino c (q+1) 0=0:=by
   by_cases e:S.ino c (q+1) 0=0
   · exact e
   · rw[aH e,hq]at kH;rw[kH]at R6;exact absurd rfl R6
 rw[aU aac]at kH
 have hl:xE (S.ino c) c.I.toNat=q+1:=F9 (by omega) aac (fun j j1 j2=>Cn hq j j1 (by omega)) (by omega)
 rw[hl,aH (by omega)]at e0
 rw[kH]at l4
 rw[kH,za,l4.je (i:=2) (n:=16) rfl (zt _),za]
 obtain⟨O4,h4,xh⟩:=l4.call (i:=0) rfl
 refine Em h4 (by omega) (by omega) hf fun H5 O5 s5 h5=>?_
 generalize S.sU c ((q+1:Nat):Int) f=z at e0 h5 ⊢
 have l5:Lo O H H5 [kW c (k+4097+1) z.1,.box b #[zg ((q+1:Nat):Int)] 3,.box b1 (zS f) 54]:=xh H5 _ O5 s5 h5
 rw[zn,za,zb]
 refine⟨fun jZ=>?_,fun heq=>?_⟩
 · rw[aU jZ]at e0
   exact out l5 (by omega) e0
 · rw[aH heq]at e0
   rw[l5.ld (i:=1) rfl,b0,za]
   exact out l5 (by omega) e0
end
section
variable{H:Hp}{R:Value->Hp->Prop}{c:Cx}{k m:Nat}{S:LS}{O:Nat->Prop}
theorem OM{D:kj}{G:mW}(h:lZ c.B c.L k m D G S)(hg:c.Ok)(n:Int):(tj (zf c.B c.L c.I) D G n).2=S.rk c n/\lZ c.B c.L k (m+1) (tj (zf c.B c.L c.I) D G n).1 G S:=by
 have h0:=h.mono (iU k) (mC m);unfold tj LS.rk;rw[h.Dd];rcases Zv S with hd | hd
 ·rw[aU (jM.2 hd),aU hd];exact⟨by show(_,S.nS)=_;rw[LS.jM hd],h0⟩
 have lj:¬ S.dead=true:=by rw[hd];decide
 rw[aH (fun e=>lj (jM.1 e)),aH lj];by_cases hr:1<=n/\n<=c.I
 ·have KJ:¬ ¬ (1<=n/\n<=(zf c.B c.L c.I).I):=fun e=>e hr;have wF:¬ ¬ (1<=n/\n<=c.I):=fun e=>e hr;rw[aH KJ,aH wF];obtain⟨i,rfl⟩:∃ i:Nat,n=(i:Int):=⟨n.toNat,by omega⟩;obtain⟨o1,o2,o3⟩:=hg.HS (n:=i) (by omega);have ea:(zf c.B c.L c.I).nodeAt+(i:Int) / 16=1+c.L+((i / 16:Nat):Int):=by show 1+c.L+(i:Int) / 16=_;omega
  rw[ea,jK];obtain⟨q1,q2⟩:=Lp (I:=c.I) h (a:=1+c.L+((i / 16:Nat):Int)) (fun _ _ _=>o1);rw[LS.Bb hd o2 o3]at q1;have q3:(zU (zf c.B c.L c.I) D G (1+c.L+((i / 16:Nat):Int))).2.1=S.view (1+c.L+((i / 16:Nat):Int)):=by rw[q1]
  have q4:(zU (zf c.B c.L c.I) D G (1+c.L+((i / 16:Nat):Int))).2.2=0:=by rw[q1]
  have q5:¬ (zU (zf c.B c.L c.I) D G (1+c.L+((i / 16:Nat):Int))).2.2≠0:=fun e=>e q4;rw[aH q5,q3];exact⟨rfl,q2⟩
 ·have KJ:¬ (1<=n/\n<=(zf c.B c.L c.I).I):=hr;rw[aU KJ,aU hr];exact⟨rfl,h0⟩
theorem OL{D:kj}{G:mW}(h:lZ c.B c.L k m D G S)(hs:pP c.B c.L S)(hg:c.Ok)(hk:k<800000000)(hm:m<800000000000)(n:Int)(f:kM):(qS (zf c.B c.L c.I) D G n f).2.2=(S.sU c n f).2/\lZ c.B c.L k (m+1) (qS (zf c.B c.L c.I) D G n f).1 (qS (zf c.B c.L c.I) D G n f).2.1 (S.sU c n f).1:=by
 have h0:=h.mono (iU k) (mC m);have hL:=hg.hL;unfold qS LS.sU;rw[h.Dd];rcases Zv S with hd | hd
 ·rw[aU (jM.2 hd),aU hd];exact⟨LS.jM hd,h0⟩
 have lj:¬ S.dead=true:=by rw[hd];decide
 rw[aH (fun e=>lj (jM.1 e)),aH lj];have hdo:pA D G=S.op:=by
  unfold pA;rw[h.Dd,h.op,LS.To hd];rcases qC S with ho | ho<;>rw[ho]<;>simp
 rw[hdo];by_cases ho:S.op=false
 ·rw[aU ho,aU ho];exact⟨rfl,h0⟩
 rw[aH ho,aH ho];by_cases hr:1<=n/\n<=c.I
 ·have KJ:¬ ¬ (1<=n/\n<=(zf c.B c.L c.I).I):=fun e=>e hr;have wF:¬ ¬ (1<=n/\n<=c.I):=fun e=>e hr;rw[aH KJ,aH wF];obtain⟨i,rfl⟩:∃ i:Nat,n=(i:Int):=⟨n.toNat,by omega⟩;obtain⟨o1,o2,o3⟩:=hg.HS (n:=i) (by omega);have ea:(zf c.B c.L c.I).nodeAt+(i:Int) / 16=1+c.L+((i / 16:Nat):Int):=by show 1+c.L+(i:Int) / 16=_;omega
  rw[ea,jK];obtain⟨q1,q2⟩:=Lp (I:=c.I) h (a:=1+c.L+((i / 16:Nat):Int)) (fun _ _ _=>o1);rw[LS.Bb hd o2 o3]at q1;have kD:=h.dok hs hL.2 (by omega) (by omega);have lK:=vE (x:=zf c.B c.L c.I) kD (1+c.L+((i / 16:Nat):Int));generalize zU (zf c.B c.L c.I) D G (1+c.L+((i / 16:Nat):Int))=z at q1 q2 lK ⊢;have q3:z.2.1=S.view (1+c.L+((i / 16:Nat):Int)):=by rw[q1]
  have q5:¬ z.2.2≠0:=fun e=>e (by rw[q1]);rw[aH q5,q3];rw[q3]at lK;exact Nq (I:=c.I) q2 hL.1 _ (yc lK.n (ZG f) (by omega)).b
 ·have KJ:¬ (1<=n/\n<=(zf c.B c.L c.I).I):=hr;rw[aU KJ,aU hr];exact⟨rfl,h0⟩
theorem QL(h:(lg c k m S).at_ H O):c.Ok:=by
 obtain⟨D,G,_,_,_,h4⟩:=h;exact h4
theorem sT(h:(lg c k m S).at_ H O)(hk:k<800000000)(hm:m<800000000000){n:Int}
   (K:∀ H' O',kS O O' H H'->(lg c k (m+1) S).at_ H' O'->R (.tuple #[.agg (S.rk c n).1,zg (S.rk c n).2]) H'):Fc TP 52 #[zD c.w,zg n] H R:=by
 obtain⟨D,G,h1,h2,h3,h4⟩:=h
 have hL:=h4.hL
 have hI:=h4.CQ
 obtain⟨g1,g2,g3,g4,g5,g6,g7⟩:=h4.CQ
 obtain⟨q1,q2⟩:=OM h2 h4 n
 rw[<- q1]at K
 exact Vs h1 (h2.dok h3 hL.2 (by omega) (by omega)) ⟨by show 0<=1+c.L;omega,by show 1+c.L<_;omega,by show c.I<_;omega⟩ fun H' O' st h'=>K H' O' st ⟨_,_,h',q2,h3,h4⟩
theorem abr(h:pP c.B c.L S)(n:Int)(f:kM):pP c.B c.L (S.sU c n f).1:=by
 unfold LS.sU;split
 ·exact h
 ·split
  ·exact h
  ·split
   ·exact h
   ·exact h.wt _ _
theorem En(h:(lg c k m S).at_ H O)(hk:k<800000000)(hm:m<800000000000){n:Int}{f:kM}(hf:lE f)
   (K:∀ H' O',kS O O' H H'->(lg c k (m+1) (S.sU c n f).1).at_ H' O'->R (zg (S.sU c n f).2) H'):Fc TP 53 #[zD c.w,zg n,.agg (zS f)] H R:=by
 obtain⟨D,G,h1,h2,h3,h4⟩:=h
 have hL:=h4.hL
 obtain⟨g1,g2,g3,g4,g5,g6,g7⟩:=h4.CQ
 obtain⟨q1,q2⟩:=OL h2 h3 h4 hk hm n f
 have h5:=h3.CP
 have h6:G.group.length=S.lY.length:=by rw[<- h2.lY,bR]
 have h7:=h3.wl
 rw[<- q1]at K
 exact QR h1 (h2.dok h3 hL.2 (by omega) (by omega)) (by rw[h2.wr];omega) (by omega) ⟨by show(0:Int)<=1;omega,by show(1:Int)<_;omega,by show 0<=c.L;omega,by show c.L<_;omega⟩ ⟨by show 0<=1+c.L;omega,by show 1+c.L<_;omega,by show c.I<_;omega⟩ hf fun H' O' st h'=>K H' O' st ⟨_,_,h',q2,abr h3 n f,h4⟩
theorem QK(h:(lg c k m S).at_ H O)(hk:k<800000000)(hm:m<700000000000)
   (K:∀ H' O',kS O O' H H'->(lg c k (m+65536) S).at_ H' O'->R (.tuple #[zg (S.spare c).1,zg (S.spare c).2]) H'):Fc TP 55 #[zD c.w] H R:=by
 obtain⟨g1,g2,g3,g4,g5,g6,g7⟩:=(QL h).CQ
 have i0:∀ f:kM,(zS f)[0]?=some (.int .u16 (f 0)):=fun _=>rfl
 refine fn55 ?_
 simp only[sh55,Ul,UA,Us,Ub,Uz,Ux,Uf,Uo,Uv,ZE,za,zm]
 refine qy h ?_
 rw[zn,za]
 refine Yo (fun hd=>?_) fun hd=>?_
 · rw[LS.jM hd]
   rw[show S.spare c=(0,3) from aU hd]at K
   exact K H O (kS.refl _ _) (pk h (iU k) (by omega))
 have lj:¬ S.dead=true:=by rw[hd];decide
 rw[show S.spare c=((CR (S.ino c) c.I.toNat:Int),0) from aH lj]at K
 refine zF.mk (fun t H'=>∃ n:Nat,(n:Int)<=c.I/\t=(zg (CR (S.ino c) n:Nat),zg ((n+1:Nat):Int),())/\Lo O H H' [lg c k (m+n) S]) (fun t _=>mi t.2.1 fun i=>(c.I+2 - i).toNat) ⟨0,by omega,rfl,Lo.own h⟩ ?_
 rintro _ H1 ⟨n,hn,rfl,l1⟩
 have hfr:=KT (S.ino c) n
 obtain⟨O1,h1,pH⟩:=l1.call (i:=0) rfl
 refine tK h1 fun H2 O2 s2 h2=>?_
 have l2:Lo O H H2 [lg c k (m+n) S]:=pH H2 _ O2 s2 h2
 rw[show S.lay c=zf c.B c.L c.I from aH lj,Gp,za,WM,za,yp,za,zb]
 refine⟨fun hle=>?_,fun AS=>?_⟩
 rotate_left
 · have AS:¬ ((n+1:Nat):Int)<=c.I:=AS
   have en:n=c.I.toNat:=by omega
   subst en
   obtain⟨O',st,h'⟩:=Lo.mQ l2
   exact K H2 O' st (pk h' (iU k) (by omega))
 have hle:((n+1:Nat):Int)<=c.I:=hle
 obtain⟨O3,h3,mJ⟩:=l2.call (i:=0) rfl
 refine sT h3 hk (by omega) fun H4 O4 s4 h4=>?_
 have l4:Lo O H H4 [lg c k (m+n+1) S]:=mJ H4 _ O4 s4 h4
 have e0:S.rk c ((n+1:Nat):Int)=(zS (S.ino c (n+1)),0):=by unfold LS.rk;rw[aH lj,aH (fun e=>e ⟨by omega,hle⟩),jK]
 rw[e0,show zq (.tuple #[.agg (zS (S.ino c (n+1))),zg 0]) 0=some (.agg (zS (S.ino c (n+1)))) from rfl,za,show zq (.tuple #[.agg (zS (S.ino c (n+1))),zg 0]) 1=some (zg 0) from rfl,za]
 refine l4.jc fun b H5 _ l5=>?_
 refine l5.jE (i:=1) rfl (zt _) (zt _) (ZA _) fun H6 l6=>?_
 have l6:Lo O H H6 [lg c k (m+(n+1)) S,.box b (zS (S.ino c (n+1))) 54]:=l6
 rw[zn,za,cH (by omega),zh]
 simp only[zc,aR,bH,za]
 rw[l6.ld (i:=1) rfl,i0,za,zp,za,zb]
 have e1:CR (S.ino c) (n+1)=CR (S.ino c) n+if S.ino c (n+1) 0=0 then 1 else 0:=rfl
 refine⟨fun hz=>?_,fun R6=>?_⟩
 · rw[ze,za,zE,zr (by omega),ze,za,zE,zr (by omega)]
   rw[aU (by omega)]at e1
   exact⟨⟨n+1,hle,by rw[e1];rfl,l6.takeN 1⟩,by simp only[zu];exact yR (by omega)⟩
 · rw[ze,za,zE,zr (by omega)]
   rw[aH (by omega),bH]at e1
   exact⟨⟨n+1,hle,by rw[e1];rfl,l6.takeN 1⟩,by simp only[zu];exact yR (by omega)⟩
theorem J8(h:(lg c k m S).at_ H O)(hk:k<800000000)(hm:m<700000000000)
   (K:∀ H' v,Lo O H H' [lg c k (m+65536) S,.sl 3 1 v ((S.uu c).1.map nI)]->R (.tuple #[v,zg (S.uu c).2]) H'):Fc TP 56 #[zD c.w] H R:=by
 obtain⟨g1,g2,g3,g4,g5,g6,g7⟩:=(QL h).CQ
 have i0:∀ f:kM,(zS f)[0]?=some (.int .u16 (f 0)):=fun _=>rfl
 have i1:∀ f:kM,(zS f)[1]?=some (.int .u16 (f 1)):=fun _=>rfl
 refine fn56 ?_
 simp only[sh56,Ul,UA,Us,Ub,Uz,Ux,Uf,Uj,Uo,Uq,Uv,U0,ZE,za,zm]
 refine qy h ?_
 rw[zn,za]
 refine Yo (fun hd=>?_) fun hd=>?_
 · rw[LS.jM hd]
   rw[show S.uu c=([],3) from aU hd]at K
   exact K H _ ((Lo.own (pk h (iU k) (by omega))).nt 3 1)
 have lj:¬ S.dead=true:=by rw[hd];decide
 rw[show S.uu c=(DQ (S.ino c) c.I.toNat,0) from aH lj]at K
 refine zF.mk (fun t H'=>∃ (n:Nat) (v:Value),(n:Int)<=c.I/\t=(v,zg ((n+1:Nat):Int),())/\Lo O H H' [lg c k (m+n) S,.sl 3 1 v ((DQ (S.ino c) n).map nI)]) (fun t _=>mi t.2.1 fun i=>(c.I+2 - i).toNat) ⟨0,_,by omega,rfl,(Lo.own h).nt 3 1⟩ ?_
 rintro _ H1 ⟨n,v,hn,rfl,l1⟩
 have X3:=Be (S.ino c) n
 obtain⟨O1,h1,pH⟩:=l1.call (i:=0) rfl
 refine tK h1 fun H2 O2 s2 h2=>?_
 have l2:Lo O H H2 [lg c k (m+n) S,.sl 3 1 v ((DQ (S.ino c) n).map nI)]:=pH H2 _ O2 s2 h2
 rw[show S.lay c=zf c.B c.L c.I from aH lj,Gp,za,WM,za,yp,za,zb]
 refine⟨fun hle=>?_,fun AS=>?_⟩
 rotate_left
 · have AS:¬ ((n+1:Nat):Int)<=c.I:=AS
   have en:n=c.I.toNat:=by omega
   subst en
   exact K H2 v (l2.nth (i:=0) rfl fun O' ho=>pk ho (iU k) (by omega))
 have hle:((n+1:Nat):Int)<=c.I:=hle
 obtain⟨O3,h3,mJ⟩:=l2.call (i:=0) rfl
 refine sT h3 hk (by omega) fun H4 O4 s4 h4=>?_
 have l4:Lo O H H4 [lg c k (m+n+1) S,.sl 3 1 v ((DQ (S.ino c) n).map nI)]:=mJ H4 _ O4 s4 h4
 have e0:S.rk c ((n+1:Nat):Int)=(zS (S.ino c (n+1)),0):=by unfold LS.rk;rw[aH lj,aH (fun e=>e ⟨by omega,hle⟩),jK]
 rw[e0,show zq (.tuple #[.agg (zS (S.ino c (n+1))),zg 0]) 0=some (.agg (zS (S.ino c (n+1)))) from rfl,za,show zq (.tuple #[.agg (zS (S.ino c (n+1))),zg 0]) 1=some (zg 0) from rfl,za]
 refine l4.jc fun b H5 _ l5=>?_
 refine l5.jE (i:=2) rfl (zt _) (zt _) (ZA _) fun H6 l6=>?_
 have l6:Lo O H H6 [lg c k (m+(n+1)) S,.sl 3 1 v ((DQ (S.ino c) n).map nI),.box b (zS (S.ino c (n+1))) 54]:=l6
 rw[zn,za,cH (by omega),zh]
 simp only[zc,aR,bH,za]
 have e1:DQ (S.ino c) (n+1)=DQ (S.ino c) n++if S.ino c (n+1) 0≠0/\S.ino c (n+1) 1=0 then [((n+1:Nat):Int)] else []:=rfl
 refine Zg.mk (fun t H'=>H'=H6/\t.1=.bool (decide (S.ino c (n+1) 0≠0/\S.ino c (n+1) 1=0))) ?_ ?_
 · rintro⟨t,u⟩ H7 ⟨rfl,ht⟩
   simp only at ht
   subst ht
   rw[zb]
   refine⟨fun hz=>?_,fun R6=>?_⟩
   · refine l6.qY Lb C7 (i:=1) (c:=nI ((n+1:Nat):Int)) rfl rfl (by omega) (by omega) rfl (by unfold zv;rw[<- iV];rfl) (by rw[bR];omega) fun s' H8 l8=>?_
     rw[ze,za,zE,zr (by omega)]
     rw[aU hz]at e1
     refine⟨⟨n+1,s',hle,rfl,?_⟩,by simp only[zu];exact yR (by omega)⟩
     rw[e1,cU]
     exact l8.takeN 2
   · rw[ze,za,zE,zr (by omega)]
     rw[aH R6,jY]at e1
     refine⟨⟨n+1,v,hle,rfl,?_⟩,by simp only[zu];exact yR (by omega)⟩
     rw[e1]
     exact l6.takeN 2
 · rw[l6.ld (i:=2) rfl,i0,za,zn,za,zb]
   refine⟨fun h0=>?_,fun h0=>?_⟩
   · rw[l6.ld (i:=2) rfl,i1,za,zp,za]
     refine⟨rfl,?_⟩
     rw[ZO (q:=S.ino c (n+1) 0≠0/\S.ino c (n+1) 1=0) ⟨fun e=>⟨by omega,by omega⟩,fun e=>by omega⟩]
   · refine⟨rfl,?_⟩
     rw[cH (fun e=>e.1 (by omega))]
theorem Vn(h:(lg c k m S).at_ H O)(hk:k<800000000)(hm:m<700000000000){f:kM}(hf:lE f)
   (K:∀ H' O',kS O O' H H'->(lg c k (m+65537) (S.take c f).1).at_ H' O'->R (.tuple #[zg (S.take c f).2.1,zg (S.take c f).2.2]) H'):Fc TP 54 #[zD c.w,.agg (zS f)] H R:=by
 obtain⟨g1,g2,g3,g4,g5,g6,g7⟩:=(QL h).CQ
 have i0:∀ f:kM,(zS f)[0]?=some (.int .u16 (f 0)):=fun _=>rfl
 refine fn54 ?_
 simp only[sh54,Ul,UL,UA,Us,Ub,Uz,Ux,Uf,Uu,Uo,Uv,ZE,za,zm]
 refine(Lo.own h).jc fun b1 H1 _ l1=>?_
 have l1:Lo O H H1 [lg c k m S,.box b1 (zS f) 54]:=l1
 have out:∀ {H2:Hp} {m':Nat} {S':LS} {a e:Int} {r:List Ob},Lo O H H2 (lg c k m' S' :: r)->m'<=m+65537->S.take c f=(S',a,e)->R (.tuple #[zg a,zg e]) H2:=fun {H2 m' S' a e r} l Wq he=>by
   rw[he]at K
   obtain⟨O',st,h'⟩:=Lo.mQ l
   exact K H2 O' st (pk h' (iU k) Wq)
 obtain⟨O1,h1,pH⟩:=l1.call (i:=0) rfl
 refine qy h1 ?_
 rw[zn,za]
 refine Yo (fun hd=>?_) fun hd=>?_
 · rw[LS.jM hd]
   exact out l1 (by omega) (by unfold LS.take;rw[aU hd])
 have lj:¬ S.dead=true:=by rw[hd];decide
 refine Mh h1 ?_
 simp only[zc,aR,bH,za]
 rw[zx,za,Zm]
 refine⟨fun kG=>?_,fun hyo=>?_⟩
 · have ho:S.op=false:=by
     rcases qC S with ho | ho
     · exact absurd ⟨hd,ho⟩ (of_decide_eq_false kG)
     · exact ho
   exact out l1 (by omega) (by unfold LS.take;rw[aH lj,aU ho])
 have ho:¬ S.op=false:=by rw[(ks hyo).2];decide
 rw[l1.ld (i:=1) rfl,i0,za,zp,za,zb]
 refine⟨fun hz=>?_,fun hf0=>?_⟩
 · exact out l1 (by omega) (by unfold LS.take;rw[aH lj,aH ho,aU (by omega)])
 have hf0:¬ f 0=0:=by omega
 have e0:S.take c f=if xE (S.ino c) c.I.toNat=0 then(S,0,16) else
     if (S.sU c (xE (S.ino c) c.I.toNat) f).2≠0 then((S.sU c (xE (S.ino c) c.I.toNat) f).1,0,(S.sU c (xE (S.ino c) c.I.toNat) f).2)
     else((S.sU c (xE (S.ino c) c.I.toNat) f).1,(xE (S.ino c) c.I.toNat:Int),0):=by unfold LS.take;rw[aH lj,aH ho,aH hf0]
 refine zF.mk (fun t H'=>∃ n:Nat,(n:Int)<=c.I/\t=(zg ((n+1:Nat):Int),())/\(∀ j,1<=j->j<=n->S.ino c j 0≠0)/\Lo O H H' [lg c k (m+n) S,.box b1 (zS f) 54]) (fun t _=>mi t.1 fun i=>(c.I+2 - i).toNat) ⟨0,by omega,rfl,fun j q1 q2=>by omega,l1⟩ ?_
 rintro _ H1 ⟨n,hn,rfl,kG,l1⟩
 obtain⟨O1,h1,pH⟩:=l1.call (i:=0) rfl
 refine tK h1 fun H2 O2 s2 h2=>?_
 have l2:Lo O H H2 [lg c k (m+n) S,.box b1 (zS f) 54]:=pH H2 _ O2 s2 h2
 rw[show S.lay c=zf c.B c.L c.I from aH lj,Gp,za,WM,za,yp,za,zb]
 refine⟨fun hle=>?_,fun AS=>?_⟩
 rotate_left
 · have AS:¬ ((n+1:Nat):Int)<=c.I:=AS
   have en:n=c.I.toNat:=by omega
   subst en
   exact out l2 (by omega) (by rw[e0,aU (Bh kG)])
 have hle:((n+1:Nat):Int)<=c.I:=hle
 obtain⟨O3,h3,mJ⟩:=l2.call (i:=0) rfl
 refine sT h3 hk (by omega) fun H4 O4 s4 h4=>?_
 have l4:Lo O H H4 [lg c k (m+n+1) S,.box b1 (zS f) 54]:=mJ H4 _ O4 s4 h4
 have e1:S.rk c ((n+1:Nat):Int)=(zS (S.ino c (n+1)),0):=by unfold LS.rk;rw[aH lj,aH (fun e=>e ⟨by omega,hle⟩),jK]
 rw[e1,show zq (.tuple #[.agg (zS (S.ino c (n+1))),zg 0]) 0=some (.agg (zS (S.ino c (n+1)))) from rfl,za,show zq (.tuple #[.agg (zS (S.ino c (n+1))),zg 0]) 1=some (zg 0) from rfl,za]
 refine l4.jc fun b H5 _ l5=>?_
 refine l5.jE (i:=2) rfl (zt _) (zt _) (ZA _) fun H6 l6=>?_
 have l6:Lo O H H6 [lg c k (m+(n+1)) S,.box b1 (zS f) 54,.box b (zS (S.ino c (n+1))) 54]:=l6
 rw[zn,za,cH (by omega),zh]
 simp only[zc,aR,bH,za]
 rw[l6.ld (i:=2) rfl,i0,za,zp,za,zb]
 refine⟨fun hz=>?_,fun R6=>?_⟩
 · have hl:xE (S.ino c) c.I.toNat=n+1:=F9 (by omega) (by omega) (fun j j1 j2=>kG j j1 (by omega)) (by omega)
   rw[hl,aH (by omega)]at e0
   rw[l6.je (i:=1) (n:=16) rfl (zt _),za]
   obtain⟨O7,h7,NK⟩:=l6.call (i:=0) rfl
   refine En h7 hk (by omega) hf fun H8 O8 s8 h8=>?_
   generalize S.sU c ((n+1:Nat):Int) f=z at e0 h8 ⊢
   have l8:Lo O H H8 [lg c k (m+(n+1)+1) z.1,.box b1 (zS f) 54,.box b (zS (S.ino c (n+1))) 54]:=NK H8 _ O8 s8 h8
   rw[zn,za,zb]
   refine⟨fun jZ=>?_,fun heq=>?_⟩
   · rw[aU jZ]at e0
     exact out l8 (by omega) e0
   · rw[aH heq]at e0
     exact out l8 (by omega) e0
 · rw[ze,za,zE,zr (by omega)]
   refine⟨⟨n+1,hle,rfl,fun j q1 q2=>?_,l6.takeN 2⟩,by simp only[zu];exact yR (by omega)⟩
   by_cases ej:j=n+1
   · rw[ej];omega
   · exact kG j q1 (by omega)
end
noncomputable def LS.start(V:Int->jn):LS:=⟨V,[],false,0,[],0,0,false,false,-1,0⟩
section
variable{B L I:Int}{l:List (Int × jn)}
theorem Hn(hg:Zy B L I)(V:Int->jn):pP B L (LS.start V):=by
 obtain⟨g1,g2,_⟩:=hg;refine⟨rV,fun a ha=>(by cases ha),fun e=>(by cases e),?_,fun e=>(by cases e),?_,fun e=>(by cases e),fun e=>(by cases e),?_⟩
 ·show(([]:List Int).length:Int)+(if false=true then _ else 0)<=L - 1;rw[aH (by decide)];simp;omega
 ·show(-1:Int) <= -1/\(-1:Int)<=_;omega
 ·show(([]:List Int).length:Int)<=L - 1;simp;omega
theorem U8(hg:Zy B L I)(hwh:HN B (-1) l):mm B L 1 1 (pl0 B l) (LS.start (z9 l)):=by
 obtain⟨g1,g2,_⟩:=hg;refine⟨rfl,rfl,rfl,⟨fun _=>⟨rfl,by omega,rfl⟩,fun _=>rfl⟩,⟨?_,?_,?_,?_,?_⟩,rfl,?_,rfl,rfl,?_,rfl,rfl,rfl,rfl,fun e=>(by cases e),fun _=>⟨⟨rV,fun y hy=>(by cases hy)⟩,fun y hy=>(by cases hy),fun a ha=>(by cases ha),fun y hy=>(by cases hy),fun a _ _ _=>Q8 hwh a⟩⟩
 ·show(0:Int)<=0/\(0:Int)<=_;omega
 ·show(0:Int)<=1/\(1:Int)<=_;omega
 ·show(-1:Int) <= -1/\(-1:Int)<=_;omega
 ·show(0:Nat)<=1;omega
 ·show(0:Nat)<=1;omega
 ·show(([]:List Pl).length:Int)<=L+32;simp;omega
 ·show(0:Int)<=0/\(0:Int)<=_/\(0:Int)<=0/\(0:Int)<=_;omega
theorem U9(sY:∀ x∈l,jR x.2)(hll:l.length<=1048576):lZ B L 1 1 (QZ B l) (mW.new 1) (LS.start (z9 l)):=by
 have hou:(QZ B l).ours (mW.new 1).mine=true:=by simp[kj.ours,mW.new,QZ,kj.kB,kj.load]
 refine⟨rfl,rfl,rfl,rfl,⟨fun _=>hou,fun _=>rfl⟩,⟨sY,fun x hx=>(by cases hx),?_,mT _,mT _,fun e=>(by cases e),?_⟩,?_,?_,rfl,rfl,rfl,?_,rfl,fun y hy=>(by cases hy),rfl,rfl,rfl,fun _ a _ _ _=>rfl⟩
 ·show l.length+0<=_;omega
 ·show(0:Int)<=0/\(0:Int)<=_;omega
 ·show(0:Int)<=1/\(1:Int)<=_;omega
 ·show(0:Int)<=1/\(1:Int)<_;omega
 ·show(0:Int)<=0/\(0:Int)<=_/\(0:Int)<=0/\(0:Int)<=_;omega
end
theorem pr2{p lb r w:Nat}:(prC p lb r w)[2]?=some (zD r):=rfl
abbrev yG(pb:Nat)(c:Cx):Ob:=.box pb (prC c.p c.lb c.r c.w) 42
section
variable{H:Hp}{R:Value->Hp->Prop}
theorem Xt{B L I:Int}(hB : -9223372036854775808<=B/\B<=9223372036854775807){iv:Value}{kU:List nL}(kH:Am H iv kU)(mY:∀ t∈kU,yv t)(hlen:kU.length<281474976710656){fr sp lB:Int}(CF : -9223372036854775808<=lB/\lB<=9223372036854775807)(Ua:∃ b n c,iv=.slice b n c)
   (kno:∀ H',Ext H H'->R (.tuple #[.pointer none,.bool false,.bool false]) H')
   (k:∀ H' pp (c:Cx) fs m0 m l,c.B=B->c.L=L->c.I=I->c.mine=1->JC B L I kU fr sp m0 fs->Bx m B L I->(zK m kU (nE m)).full=false->l=Y3 0 (ZW m (zK m kU (nE m)) (lB % 1000003).toNat)->HN B (-1) l ->
     Lx H H' [yG pp c,kW c 1 (LS.start (z9 l)),lg c 1 1 (LS.start (z9 l))]->R (.tuple #[zD pp,.bool true,.bool true]) H') :
   Fc TP 6 #[.agg (oK B L I iv fr sp lB)] H R:=by
 refine Pp hB kH mY hlen CF Ua kno fun H' pp p lb r w m0 fs m oa hm CK l3=>?_
 have hg:=oa.ok
 obtain⟨h0,h1,h2,h3⟩:=Ct hm hg mY (lB % 1000003).toNat
 have hb:=hm.B
 obtain⟨xP,xO,wI,xQ,vP,vO,gD⟩:=id hg
 have hll:=wC (ZW m (zK m kU (nE m)) (lB % 1000003).toNat) 0
 have hwh:HN B (-1) (Y3 0 (ZW m (zK m kU (nE m)) (lB % 1000003).toNat)):=wB _ 0 (-1) h3 (by omega) (by omega)
 have sY:∀ x∈Y3 0 (ZW m (zK m kU (nE m)) (lB % 1000003).toNat),jR x.2:=wD _ 0 h3
 refine k H' pp ⟨lb,p,w,r,B,L,I,1⟩ fs m0 m _ rfl rfl rfl rfl oa hm CK rfl hwh ?_
 have Ss:(⟨lb,p,w,r,B,L,I,1⟩:Cx).Ok:=⟨hg,by show(0:Int)<1;omega⟩
 have l4:=l3.nth (i:=1) (y:=kW ⟨lb,p,w,r,B,L,I,1⟩ 1 (LS.start (z9 (Y3 0 (ZW m (zK m kU (nE m)) (lB % 1000003).toNat))))) rfl fun O ho=>⟨_,ab3 ho,U8 hg hwh,Hn hg _,Ss⟩
 exact l4.nth (i:=2) rfl fun O ho=>⟨_,_,ho,U9 sY (by omega),Hn hg _,Ss⟩
end
theorem adA{d:jn}(hd:jR d){lit:Bool}{H:Hp}:ya TP 65 lit .neq (.agg d) (.agg d) H=some (.bool false):=by
 rw[Yy,I1 HE hd];rfl
theorem Ea{a:Int}:decide (a≠a)=false:=cH fun h=>h rfl
section
variable{T:Nat->Prop}{H0 H:Hp}{R:Value->Hp->Prop}{c:Cx}{k k' m pb:Nat}{S:LS}{r:List Ob}
abbrev Au(pb:Nat)(c:Cx)(k k' m:Nat)(S:LS):List Ob:=[yG pb c,kW c k S,lg c k' m S]
theorem TT(l:Lo T H0 H (Au pb c k k' m S++r))(hk:k<70000000000)(Oj:k'<800000000)(hm:m<700000000000)
   (K:∀ H',Lo T H0 H' (Au pb c (k+1048576) k' (m+1048576) S++r)->R (.bool true) H'):Fc TP 26 #[zD pb] H R:=by
 have y3:∀ {a b:Value},zq (.tuple #[a,b]) 0=some a:=rfl
 have y4:∀ {a b:Value},zq (.tuple #[a,b]) 1=some b:=rfl
 refine fn26 ?_
 simp only[sh26,Ul,UL,UA,Us,Ub,Uz,Ux,UI,Uf,Uw,Uj,Uo,Uv,U1,U0,ZI,za,zm,zl,zc,aR,Nat.reduceAdd]
 refine Zg.mk (fun t H'=>t.1=.bool false/\Ext H H') ?_ ?_
 rotate_left
 · have l1:Lo T H0 H ([yG pb c,kW c k S,lg c k' m S]++r):=l
   obtain⟨O1,h1⟩:=l1.get (i:=1) rfl
   obtain⟨O2,h2⟩:=l1.get (i:=2) rfl
   simp only[l1.ld (i:=0) (b:=pb) rfl,pr0,pr1,pr2,pr3,za]
   refine⟨_,Qq h1,_,S8 h2,?_⟩
   rw[zn,za,Ea,zh]
   refine⟨_,L7 h1,_,Ng h2,?_⟩
   rw[zn,za,Ea,zh]
   refine⟨_,Va h1,_,W4 h2,?_⟩
   have hb:∀ b:Bool,z8 (some .bool) .neq (.bool b) (.bool b)=some (.bool false):=fun b=>by cases b<;>rfl
   rw[hb,za,zh]
   refine⟨_,JY h1,_,Lf h2,?_⟩
   rw[zn,za,Ea,zh]
   refine⟨_,Qp h1,_,S7 h2,?_⟩
   rw[zn,za,Ea,zh]
   refine⟨_,L8 h1,_,Nh h2,?_⟩
   rw[zn,za,Ea]
   exact fun H' e=>⟨rfl,e⟩
 rintro⟨t,u⟩ H1 ⟨ht,e1⟩
 simp only at ht
 subst ht
 rw[zh]
 have hg:c.Ok:=by
   obtain⟨O1,h1⟩:=l.get (i:=1) (x:=kW c k S) rfl
   exact BS h1
 obtain⟨g1,g2,g3,g4,g5,g6,g7⟩:=hg.CQ
 refine zF.mk (fun t H'=>∃ n:Nat,(n:Int)<=c.B/\t=(zg n,())/\Lo T H0 H' (Au pb c (k+n) k' (m+n) S++r)) (fun t _=>mi t.1 fun i=>(c.B+1 - i).toNat) ⟨0,by omega,rfl,l.ext e1⟩ ?_
 clear l e1
 rintro _ H2 ⟨n,hn,rfl,l2⟩
 have l2:Lo T H0 H2 ([yG pb c,kW c (k+n) S,lg c k' (m+n) S]++r):=l2
 simp only[l2.ld (i:=0) (b:=pb) rfl,pr2,za]
 obtain⟨O2,h2⟩:=l2.get (i:=2) rfl
 refine abo h2 ?_
 rw[zk,za,zb]
 refine⟨fun kc=>?_,fun lA=>?_⟩
 rotate_left
 · have l3:=l2.nth (i:=1) (y:=kW c (k+1048576) S) rfl fun O ho=>pj ho (by omega)
   have l4:=l3.nth (i:=2) (y:=lg c k' (m+1048576) S) rfl fun O ho=>pk ho (iU _) (by omega)
   exact K H2 l4
 have next:∀ {H3:Hp},Lo T H0 H3 (Au pb c (k+(n+1)) k' (m+(n+1)) S++r)->Pu (z8 (some (.int .i64)) .add (zg n) (.int .i64 1)) fun x12=>(∃ n:Nat,(n:Int)<=c.B/\(x12,())=(zg n,())/\Lo T H0 H3 (Au pb c (k+n) k' (m+n) S++r))/\(mi x12 fun i=>(c.B+1 - i).toNat)<mi (zg n) fun i=>(c.B+1 - i).toNat:=fun {H3} l3=>by
   rw[ze,za,zE,zr (by omega)]
   exact⟨⟨n+1,by omega,rfl,l3⟩,by simp only[zu];exact yR (by omega)⟩
 obtain⟨D,G,gv,tv,AV,ht⟩:=J7 h2
 refine Zg.mk (fun t H'=>H'=H2/\t.1=.bool (decide (1<=n/\(n:Int)<1+c.L))) ?_ ?_
 rotate_left
 · simp only[l2.ld (i:=0) (b:=pb) rfl,pr3,zc,aR,Nat.reduceAdd,za]
   rw[zi ht,show(yx c.r (zf c.B c.L c.I) G gv tv)[4]?=some (zg 1) from rfl,za,zN,za,zb]
   refine⟨fun h0=>?_,fun h0=>?_⟩
   · rw[zi ht,show(yx c.r (zf c.B c.L c.I) G gv tv)[5]?=some (zg (1+c.L)) from rfl,za,zk,za]
     exact⟨by trivial,by rw[ZO (q:=1<=n/\(n:Int)<1+c.L) ⟨fun e=>⟨by omega,e⟩,fun e=>e.2⟩]⟩
   · exact⟨by trivial,by rw[cH (fun e=>h0 (by omega))]⟩
 rintro⟨t,u⟩ H3 ⟨rfl,vM⟩
 simp only at vM
 subst vM
 rw[zb]
 refine⟨fun o8=>?_,fun acL=>?_⟩
 · have l3:=l2.nth (i:=1) (y:=kW c (k+(n+1)) S) rfl fun O ho=>pj ho (by omega)
   have l4:=l3.nth (i:=2) (y:=lg c k' (m+(n+1)) S) rfl fun O ho=>pk ho (iU _) (by omega)
   exact next l4
 have CI:nZ c.L (n:Int):=by unfold nZ;omega
 simp only[l2.ld (i:=0) (b:=pb) rfl,pr1,za]
 obtain⟨O3,h3,mJ⟩:=l2.call (i:=1) rfl
 refine FM h3 (by omega) (fun _ _ _=>CI) fun H4 O4 s4 h4 lK=>?_
 have l4:Lo T H0 H4 ([yG pb c,kW c (k+(n+1)) S,lg c k' (m+n) S]++r):=mJ H4 _ O4 s4 h4
 rw[y3,za,y4,za]
 refine l4.jc fun b5 H5 _ l5=>?_
 have agS:([yG pb c,kW c (k+(n+1)) S,lg c k' (m+n) S]++r++[Ob.box b5 zB 65])[r.length+3]?=some (.box b5 zB 65):=by simp
 refine l5.jE (i:=r.length+3) agS zw lK.size lK.ok fun H6 l6=>?_
 have l6:Lo T H0 H6 ([yG pb c,kW c (k+(n+1)) S,lg c k' (m+n) S]++(r++[Ob.box b5 (S.rd c.B n).1 65])):=by
   have e:(([yG pb c,kW c (k+(n+1)) S,lg c k' (m+n) S]++r++[Ob.box b5 zB 65]).set (r.length+3) (.box b5 (S.rd c.B n).1 65))=[yG pb c,kW c (k+(n+1)) S,lg c k' (m+n) S]++(r++[Ob.box b5 (S.rd c.B n).1 65]):=by
     rw[show r.length+3=([yG pb c,kW c (k+(n+1)) S,lg c k' (m+n) S]++r).length by simp<;>omega,List.set_append_right _ _ (iU _),nM,jP];rfl
   rw[e]at l6;exact l6
 simp only[l6.ld (i:=0) (b:=pb) rfl,pr3,za]
 obtain⟨O6,h6,Ho⟩:=l6.call (i:=2) rfl
 refine Mg h6 Oj (by omega) (fun _ _ _=>CI) fun H7 O7 s7 h7 _=>?_
 have l7:Lo T H0 H7 ([yG pb c,kW c (k+(n+1)) S,lg c k' (m+(n+1)) S]++(r++[Ob.box b5 (S.rd c.B n).1 65])):=Ho H7 _ O7 s7 h7
 rw[y3,za,y4,za]
 refine l7.jc fun b8 H8 _ l8=>?_
 have agQ:([yG pb c,kW c (k+(n+1)) S,lg c k' (m+(n+1)) S]++(r++[Ob.box b5 (S.rd c.B n).1 65])++[Ob.box b8 zB 65])[r.length+4]?=some (.box b8 zB 65):=by simp
 refine l8.jE (i:=r.length+4) agQ zw lK.size lK.ok fun H9 l9=>?_
 have g5':H9[b5]?=some (.cells (S.rd c.B n).1 65):=l9.at (i:=r.length+3) (by simp)
 have g8':H9[b8]?=some (.cells (S.rd c.B n).1 65):=l9.at (i:=r.length+4) (by simp)
 refine Zg.mk (fun t H'=>H'=H9/\t.1=.bool false) ?_ ?_
 · rintro⟨t,u⟩ mX ⟨rfl,vM⟩
   simp only at vM
   subst vM
   rw[zh]
   have lz:Lo T H0 mX ((([yG pb c,kW c (k+(n+1)) S,lg c k' (m+(n+1)) S]++(r++[Ob.box b5 (S.rd c.B n).1 65])++[Ob.box b8 zB 65]).set (r.length+4) (.box b8 (S.rd c.B n).1 65)).take (3+r.length)):=l9.takeN _
   have e:(([yG pb c,kW c (k+(n+1)) S,lg c k' (m+(n+1)) S]++(r++[Ob.box b5 (S.rd c.B n).1 65])++[Ob.box b8 zB 65]).set (r.length+4) (.box b8 (S.rd c.B n).1 65)).take (3+r.length)=Au pb c (k+(n+1)) k' (m+(n+1)) S++r:=by
     rw[List.take_set_of_le (by omega),<- jP,jP,List.take_append_of_le_length (by simp;omega)]
     rw[show 3+r.length=([yG pb c,kW c (k+(n+1)) S,lg c k' (m+(n+1)) S]++r).length by simp<;>omega,jk]
   rw[e]at lz
   exact next lz
 · rw[zV g5' lK.size,za,zV g8' lK.size,za,adA lK,za,zh,zn,za,Ea]
   exact⟨rfl,rfl⟩
end
structure AlC(T:Nat)(s g:Value)(vs ws:List (Array Value))(H:Hp):Prop where
 sv:Sv T 1 H s vs
 gv:Sv T 1 H g ws
 le:vs.length<=ws.length/\∀ (i:Nat) (v:Array Value),vs[i]?=some v->ws[i]?=some v
 rel:(∃ base c,s=.slice base vs.length c/\g=.slice base ws.length c)\/∀ b,ZH s=some b->ZH g≠some b
def Ob.al(T:Nat)(s g:Value)(vs ws:List (Array Value)):Ob:=.of (fun H O=>AlC T s g vs ws H/\(∀ b,ZH s=some b->O b)/\∀ b,ZH g=some b->O b) fun h hb _ ho=>
 ⟨⟨h.1.sv.of fun b hh=>hb b (h.2.1 b hh),h.1.gv.of fun b hh=>hb b (h.2.2 b hh),h.1.le,h.1.rel⟩,fun b hh=>ho b (h.2.1 b hh),fun b hh=>ho b (h.2.2 b hh)⟩
section
variable{S:Nat->Prop}{H0 H:Hp}{l:List Ob}
theorem Lo.afb(h:Lo S H0 H l){i T:Nat}{s:Value}{vs:List (Array Value)}(hi:l[i]?=some (.sl T 1 s vs)):Lo S H0 H (l.set i (.al T s s vs vs)):=
 h.nth hi fun O ho=>⟨⟨⟨ho.1.1,ho.1.1,⟨iU _,fun _ _ h=>h⟩,.inl (by obtain⟨base,cap,e,_⟩:=ho.1.1.is;exact⟨base,cap,e,e⟩)⟩,ho.1.2,ho.1.2⟩,ho.2⟩
theorem Lo.alC(h:Lo S H0 H l){i T:Nat}{s g:Value}{vs ws:List (Array Value)}(hi:l[i]?=some (.al T s g vs ws)):AlC T s g vs ws H:=by
 obtain⟨O,ho⟩:=h.get hi;exact ho.1.1
theorem Lo.ahX{e:ZX}{T:Nat}{K:Value->Hp->Prop}(h:Lo S H0 H l){i:Nat}{s g x:Value}{vs ws us:List (Array Value)}(hi:l[i]?=some (.al T s g vs ws))(hT:e.type=T)(hs:e.size=1)(hz:e.zero.size=1)(AE:0<e.bytes){T':Nat}(hx:Sv T' 1 H x us)(kD:∀ u∈us,zv u)
   (nu:(ws.length+us.length)*e.bytes<=2 ^ 47) (k:∀ g' H',Lo S H0 H' (l.set i (.al T s g' vs (ws++us)))->K g' H'):mD (some e) g x H K:=by
 obtain⟨O,⟨⟨al,o1,o2⟩,kc⟩,st⟩:=h.step hi
 refine Jx hT hs hz AE al.gv hx kD nu fun g' H' sv' kp hb MX=>k g' H' (st H' _ (fun b=>O b\/H.size<=b/\b<H'.size) (kp.mono fun b _ e=>o2 b e) ⟨⟨?_,fun b hh=>.inl (o1 b hh),fun b hh=>?_⟩,fun b hh=>?_⟩ fun b hh=>?_)
 · have hle:vs.length<=(ws++us).length/\∀ (i:Nat) (v:Array Value),vs[i]?=some v->(ws++us)[i]?=some v:=by
     refine⟨by rw[cR];have:=al.le.1;omega,fun i v hv=>?_⟩
     have h2:=al.le.2 i v hv
     have h3:i<ws.length:=by
       rcases jx i ws.length with h1 | h1
       · exact h1
       · rw[eR h1]at h2;cases h2
     rw[ko h3];exact h2
   rcases al.rel with ⟨base,cp,e1,e2⟩ | jZ
   · rcases MX with ⟨anL,c',e3,e4⟩ | ⟨ext,Wo⟩
     · rw[e2]at e3
       injection e3 with e5 e6 e7
       subst e5 e7
       have e4':g'=.slice base (ws++us).length cp:=by rw[e4,cR]
       refine⟨?_,sv',hle,.inl ⟨base,cp,e1,e4'⟩⟩
       obtain⟨b2,c2,q1,q2,q3,q4⟩:=sv'.is
       rw[e4']at q1
       injection q1 with q5 q6 q7
       subst q5 q7
       obtain⟨b3,c3,p1,p2,p3,p4⟩:=al.sv.is
       rw[e1]at p1
       injection p1 with p5 p6 p7
       subst p5 p7
       refine⟨base,cp,e1,p2,p3,?_⟩
       cases base with
       | none=>exact p4
       | some a=>
         obtain⟨r1,cs,r2,r3,r4⟩:=q4
         exact⟨r1,cs,r2,r3,fun i v hv=>r4 i v (hle.2 i v hv)⟩
     · refine⟨al.sv.ext ext,sv',hle,.inr fun b GW hbg=>?_⟩
       have:=al.sv.lt GW
       have:=Wo b hbg
       omega
   · refine⟨al.sv.of fun b GW=>kp.same b (al.sv.lt GW) (jZ b GW),sv',hle,.inr fun b GW hbg=>?_⟩
     rcases hb b hbg with h1 | h1
     · exact jZ b GW h1
     · have:=al.sv.lt GW;omega
 · rcases hb b hh with h1 | h1
   · exact .inl (o2 b h1)
   · exact .inr ⟨h1,sv'.lt hh⟩
 · rcases hh with h1 | h1
   · exact jj (kc b h1) kp.le
   · exact h1.2
 · rcases hh with h1 | h1
   · exact .inl h1
   · exact .inr h1.1
end
section
variable{S:Nat->Prop}{H0 H:Hp}{l:List Ob}
theorem Lo.adW{P:Program}{e:ZX}{ty T GZ:Nat}{K:Value->Hp->Prop}(h:Lo S H0 H l)(he:zQ P ty=some e)(hf:e.type=T/\e.size=1/\e.zero.size=1/\e.bytes=GZ){i:Nat}{s g v:Value}{vs ws:List (Array Value)}(hi:l[i]?=some (.al T s g vs ws))(hv:v.cells=#[v])(AE:0<GZ)(kD:zv #[v])
   (nu:(ws.length+1)*GZ<=2 ^ 47) (k:∀ g' H',Lo S H0 H' (l.set i (.al T s g' vs (ws++[#[v]])))->K g' H'):Pu (zQ P ty) fun x=>Pu (zT (some x) 1 [(0,v)]) fun cs=>nK x.type 1 cs H fun x2 H2=>mD (zQ P ty) g x2 H2 K:=by
 obtain⟨f1,f2,f3,f4⟩:=hf
 rw[he,za,YS (by omega) (by omega) (by rw[hv,f2];rfl),za,hv]
 exact pK fun b H2 hb e2 sH g2=>(h.ext e2).ahX hi f1 f2 f3 (by omega) (Sv.single (n:=1) g2 rfl) (fun u hu=>by rw[eU.1 hu];exact kD) (by rw[f4];exact nu) k
end
def mkI(k i:Nat):Array Value:=#[zg (-1000*((k:Int)+10) - i - 7)]
section
variable{H:Hp}{R:Value->Hp->Prop}
theorem HW{k i:Nat}(hk:k<1000000)(hi:i<1000000)(h:R (zg (-1000*((k:Int)+10) - i - 7)) H):Fc TP 111 #[zg ((k:Int)+10),zg i] H R:=by
 refine fn111 ?_;simp only[sh111,Ub,Uv];rw[zW,za,zd (by omega) (by omega),zP,za,zd (by omega) (by omega),zP,za,zd (by omega) (by omega)];exact h
theorem XT{k i:Nat}(hk:k<1000000)(hi:i<1000000):QC true TP 111 #[zg ((k:Int)+10),zg i] H (zg (-1000*((k:Int)+10) - i - 7)):=fun H' _=>HW hk hi ⟨rfl,Ext.refl _⟩
end
theorem Qd:TP.underlying 122=some (.slice 29):=by kernel_rfl
noncomputable def S1:ZX:=Ms (zQ TP 122)
theorem aat:zQ TP 122=some S1:=by kernel_rfl
theorem Lc:S1.type=29/\S1.size=1/\S1.zero.size=1/\S1.bytes=24:=⟨by kernel_rfl,by kernel_rfl,by kernel_rfl,by kernel_rfl⟩
def o9{α:Type}(f:Nat->α)(k:Nat)(v:α):Nat->α:=fun j=>if j=k then v else f j
theorem afp{α:Type}{F:Nat->α}{k:Nat}(hk:k<2){x v:α}{r:List α}:(x :: F 0 :: F 1 :: r).set (k+1) v=x :: o9 F k v 0 :: o9 F k v 1 :: r:=by
 match k,hk with
 | 0,_=>rfl
 | 1,_=>rfl
theorem SI{α:Type}{F:Nat->α}{k:Nat}(hk:k<2){x:α}{r:List α}:(x :: F 0 :: F 1 :: r)[k+1]?=some (F k):=by
 match k,hk with
 | 0,_=>rfl
 | 1,_=>rfl
theorem UX{α:Type}{f:Nat->α}{k:Nat}(hk:k<2):[f 0,f 1][k]?=some (f k):=by
 match k,hk with
 | 0,_=>rfl
 | 1,_=>rfl
def Mkd(k:Nat)(vs:List (Array Value))(i:Nat):Prop:=∀ j,j<i->vs[j]?=some (mkI k j)
theorem rY{H:Hp}{s:Value}{vs:List (Array Value)}{i:Nat}{v:Value}(h:Sr 1 H s vs)(hi:vs[i]?=some #[v]){K:Value->Prop}(k:K v):∀ {kk:IntKind},Pu (zG (some (none,1)) s (.int kk i)) fun x=>Pu (zX (some none) x H) K:=fun {kk}=>by
 obtain⟨b,o,h1,h2⟩:=h.cell hi (j:=0) (by omega);rw[h1,za];rw[bH]at h2;rw[h2,show(#[v]:Array Value)[0]?=some v from rfl,za];exact k
section
variable{T:Nat->Prop}{H0 H:Hp}{R:Value->Hp->Prop}{r:List Ob}
theorem Pt{x a c:Value}{va vc:List (Array Value)}(l:Lo T H0 H (.sl 29 1 x [#[a],#[c]] :: .sl 3 1 a va :: .sl 3 1 c vc :: r))(ha:va.length<100000)(hc:vc.length<100000)(hak:∀ v∈va,zv v)(hck:∀ v∈vc,zv v)
   (K:∀ H',Lo T H0 H' r->R (.bool true) H'):Fc TP 57 #[x] H R:=by
 obtain⟨A,hA0,hA1⟩:∃ A:Nat->Value,A 0=a/\A 1=c:=⟨fun k=>if k=0 then a else c,rfl,rfl⟩
 obtain⟨V,hV0,hV1⟩:∃ V:Nat->List (Array Value),V 0=va/\V 1=vc:=⟨fun k=>if k=0 then va else vc,rfl,rfl⟩
 obtain⟨N,hN⟩:∃ N:Nat->Nat,∀ k,N k=(V k).length:=⟨_,fun _=>rfl⟩
 have hNl:∀ k,k<2->N k<100000:=fun k hk=>by
   rw[hN]
   match k,hk with
   | 0,_=>rw[hV0];exact ha
   | 1,_=>rw[hV1];exact hc
 have hVk:∀ k,k<2->∀ v∈V k,zv v:=fun k hk=>by
   match k,hk with
   | 0,_=>rw[hV0];exact hak
   | 1,_=>rw[hV1];exact hck
 rw[<- hA0,<- hA1,<- hV0,<- hV1]at l
 have l:=Lo.pack (l:=[_,_,_]) l
 obtain⟨q,hq⟩:∃ q,q=Ob.all r:=⟨_,rfl⟩
 rw[<- hq]at l
 clear hA0 hA1 ha hc hV0 hV1
 refine fn57 ?_
 simp only[sh57,Ul,Us,Ub,Uf,Uw,Ui,Ug,Uj,Uo,Uq,Uv,U1,U0,zm]
 have l:∃ F:Nat->Ob,(∀ k,F k=.sl 3 1 (A k) (V k))/\Lo T H0 H (.sl 29 1 x [#[A 0],#[A 1]] :: F 0 :: F 1 :: [q]):=⟨fun k=>.sl 3 1 (A k) (V k),fun _=>rfl,l⟩
 refine zF.mk (fun t H'=>∃ (k:Nat) (W:Nat->List (Array Value)),k<=2/\t=(zg k,())/\(∀ j,(W j).length=N j)/\(∀ j,j<2->∀ v∈W j,zv v)/\(∀ j,j<k->Mkd j (W j) (N j))/\∃ F:Nat->Ob,(∀ k,F k=.sl 3 1 (A k) (W k))/\Lo T H0 H' (.sl 29 1 x [#[A 0],#[A 1]] :: F 0 :: F 1 :: [q]))
   (fun t _=>mi t.1 fun i=>(2 - i).toNat) ⟨0,V,by omega,rfl,fun j=>(hN j).symm,hVk,fun j hj=>by omega,l⟩ ?_
 clear l hN
 rintro _ H1 ⟨k,W,hk,rfl,hW,hWk,hmk,F,hF,l1⟩
 have L6:=(l1.sv (i:=0) rfl).sr
 rw[L6.j9 Qd,za,zk,za,zb]
 refine⟨fun kc=>?_,fun lA=>?_⟩
 · have uA:k<2:=by simp at kc;omega
   refine zF.mk (fun t H'=>∃ (i:Nat) (W:Nat->List (Array Value)),i<=N k/\t=(zg i,())/\(∀ j,(W j).length=N j)/\(∀ j,j<2->∀ v∈W j,zv v)/\(∀ j,j<k->Mkd j (W j) (N j))/\Mkd k (W k) i/\∃ F:Nat->Ob,(∀ k,F k=.sl 3 1 (A k) (W k))/\Lo T H0 H' (.sl 29 1 x [#[A 0],#[A 1]] :: F 0 :: F 1 :: [q]))
     (fun t _=>mi t.1 fun i=>(N k - i).toNat) ⟨0,W,by omega,rfl,hW,hWk,hmk,fun j hj=>by omega,F,hF,l1⟩ ?_
   clear l1 L6 hF F hmk hWk hW W
   rintro _ H2 ⟨i,W,hi,rfl,hW,hWk,hmk,X7,F,hF,l2⟩
   have L6:=(l2.sv (i:=0) rfl).sr
   have ak:=UX (f:=fun j=>(#[A j]:Array Value)) uA
   have lk:=l2.sv (i:=k+1) ((SI uA).trans (congrArg some (hF k)))
   refine rY L6 ak ?_
   rw[lk.sr.j9 Z0,za,zk,za,hW,zb]
   refine⟨fun hl2=>?_,fun hg2=>?_⟩
   · have Gg:i<N k:=by omega
     have hNk:=hNl k uA
     refine rY L6 ak ?_
     rw[ze,za,zd (by omega) (by omega)]
     refine⟨_,XT (by omega) (by omega),?_⟩
     obtain⟨v,hv⟩:∃ v,(W k)[i]?=some v:=⟨_,bU (by rw[hW];exact Gg)⟩
     have Wl:v.size=1:=by
       obtain⟨_,_,_,_,h1,_⟩:=lk.is
       exact h1 v (jV hv)
     have aka:v.setIfInBounds 0 (zg (-1000*((k:Int)+10) - i - 7))=mkI k i:=by
       apply Array.ext
       · rw[lL,Wl];rfl
       · intro j h1 h2
         have h1:j<1:=by rw[lL,Wl]at h1;exact h1
         have:j=0:=by omega
         subst this
         rw[Array.getElem_setIfInBounds_self];rfl
     obtain⟨b,o,_,_⟩:=lk.cell hv (j:=0) (by omega)
     have D0:∀ H3,Ext H2 H3->∃ b o,(∀ kk,zG (some (none,1)) (A k) (.int kk i)=some (.pointer (some ⟨b,o,none⟩)))/\Pu (zY (some 1) (.pointer (some ⟨b,o,none⟩)) (zg (-1000*((k:Int)+10) - i - 7)) H3) fun H4=>lC true H4 fun H5=>Pu (z8 (some (.int .i64)) .add (zg i) (.int .i64 1)) fun x16=>(∃ (i:Nat) (W:Nat->List (Array Value)),i<=N k/\(x16,())=(zg i,())/\(∀ j,(W j).length=N j)/\(∀ j,j<2->∀ v∈W j,zv v)/\(∀ j,j<k->Mkd j (W j) (N j))/\Mkd k (W k) i/\∃ F:Nat->Ob,(∀ k,F k=.sl 3 1 (A k) (W k))/\Lo T H0 H5 (.sl 29 1 x [#[A 0],#[A 1]] :: F 0 :: F 1 :: [q]))/\(mi x16 fun i=>(N k - i).toNat)<mi (zg i) fun i=>(N k - i).toNat:=by
       intro H3 e3
       refine(l2.ext e3).BU (i:=k+1) (j:=i) (x:=0) (u:=zg (-1000*((k:Int)+10) - i - 7)) ((SI uA).trans (congrArg some (hF k))) hv (by omega) (hWk k uA v (jV hv)) rfl rfl fun H4 l4=>?_
       · intro H5 e5
         rw[afp uA,aka]at l4
         rw[ze,za,zE,zr (by omega)]
         refine⟨⟨i+1,o9 W k ((W k).set i (mkI k i)),by omega,rfl,fun j=>?_,fun j hj v hv=>?_,fun j hj=>?_,fun j hj=>?_,_,fun j=>?_,l4.ext e5⟩,by simp only[zu];exact yR (by omega)⟩
         · unfold o9
           split
           · rename_i e;rw[e,lV,hW]
           · exact hW j
         · unfold o9 at hv
           split at hv
           · rcases lD hv with h3 | h3
             · exact hWk k uA v h3
             · rw[h3];unfold zv;rw[<- iV];rfl
           · exact hWk j hj v hv
         · unfold o9
           rw[aH (by omega)];exact hmk j hj
         · unfold o9
           rw[aU rfl]
           by_cases e:j=i
           · rw[e,jX (by rw[hW];exact Gg)]
           · rw[jy (by omega)];exact X7 j (by omega)
         · unfold o9
           split
           · rename_i e;rw[e];try rfl
           · exact hF j
     obtain⟨b,o,h1,_⟩:=D0 H2 (Ext.refl _)
     rw[h1,za]
     intro H3 e3
     obtain⟨b',o',SE,h2'⟩:=D0 H3 e3
     have:=(h1 .i64).symm.trans (SE .i64)
     injection this with this
     injection this with this
     injection this with this
     injection this with q1 q2
     rw[q1,q2];exact h2'
   · have ei:i=N k:=by omega
     subst ei
     rw[ze,za,zE,zr (by omega)]
     refine⟨⟨k+1,W,by omega,rfl,hW,hWk,fun j hj=>?_,F,hF,l2⟩,by simp only[zu];exact yR (by omega)⟩
     by_cases e:j=k
     · rw[e];exact X7
     · exact hmk j (by omega)
 have ek:k=2:=by simp at lA;omega
 subst ek
 have EN:∀ j,j<2->Mkd j (W j) (N j):=hmk
 have l2:=l1.nth (i:=1) (y:=.sl 3 1 (A 0) (W 0)) rfl fun O ho=>(hF 0) ▸ ho
 have l3:=l2.nth (i:=2) (y:=.sl 3 1 (A 1) (W 1)) rfl fun O ho=>(hF 1) ▸ ho
 have l4:=(l3.afb (i:=1) rfl).afb (i:=2) rfl
 have l5:=l4.nt 29 1
 have l6:∃ F:Nat->Ob,(∀ k,F k=.al 3 (A k) (A k) (W k) (W k))/\Lo T H0 H1 (.sl 29 1 x [#[A 0],#[A 1]] :: F 0 :: F 1 :: [q,.sl 29 1 (.slice none 0 0) []]):=⟨fun k=>.al 3 (A k) (A k) (W k) (W k),fun _=>rfl,l5⟩
 clear l5 l4 l3 l2 l1 hF F hmk L6 lA hk
 have hW2:=hW
 refine zF.mk (fun t H'=>∃ (k:Nat) (G:Nat->Value) (X:Nat->List (Array Value)) (gs:Value),k<=2/\t=(gs,zg k,())/\(∀ j,j<k->(X j).length=N j+6/\Mkd j (X j) (N j+6))/\(∀ j,k<=j->G j=A j/\X j=W j)/\∃ F:Nat->Ob,(∀ k,F k=.al 3 (A k) (G k) (W k) (X k))/\Lo T H0 H' (.sl 29 1 x [#[A 0],#[A 1]] :: F 0 :: F 1 :: [q,.sl 29 1 gs ((List.range k).map fun j=>#[G j])]))
   (fun t _=>mi t.2.1 fun i=>(2 - i).toNat) ⟨0,A,W,_,by omega,rfl,fun j hj=>by omega,fun j _=>⟨rfl,rfl⟩,l6⟩ ?_
 clear l6
 rintro _ H2 ⟨k,G,X,gs,hk,rfl,hX,hG,F,hF,l2⟩
 have L6:=(l2.sv (i:=0) rfl).sr
 rw[za,zk,za,zb]
 refine⟨fun kc=>?_,fun lA=>?_⟩
 · have uA:k<2:=by simp at kc;omega
   have hNk:=hNl k uA
   obtain⟨g0,x0⟩:=hG k (iU k)
   have ak:=UX (f:=fun j=>(#[A j]:Array Value)) uA
   refine rY L6 ak ?_
   refine zF.mk (fun t H'=>∃ (j:Nat) (g:Value) (ws:List (Array Value)),j<=6/\t=(g,zg j,())/\ws.length=N k+j/\Mkd k ws (N k+j)/\∃ F:Nat->Ob,(∀ i,F i=.al 3 (A i) (o9 G k g i) (W i) (o9 X k ws i))/\Lo T H0 H' (.sl 29 1 x [#[A 0],#[A 1]] :: F 0 :: F 1 :: [q,.sl 29 1 gs ((List.range k).map fun j=>#[G j])]))
     (fun t _=>mi t.2.1 fun i=>(6 - i).toNat) ⟨0,A k,W k,by omega,rfl,hW2 k,EN k uA,F,fun i=>?_,l2⟩ ?_
   · rw[hF i]
     unfold o9
     split
     · rename_i e;rw[e,g0,x0]
     · rfl
   clear l2 L6 hF F
   rintro _ H3 ⟨j,g,ws,hj,rfl,hws,X6,F,hF,l3⟩
   have L6:=(l3.sv (i:=0) rfl).sr
   have hFk:F k=.al 3 (A k) g (W k) ws:=by rw[hF k];unfold o9;rw[aU rfl,aU rfl]
   have lk:=l3.alC (i:=k+1) ((SI uA).trans (congrArg some hFk))
   rw[zk,za,zb]
   refine⟨fun hl3=>?_,fun hg3=>?_⟩
   · rw[ze,za,zd (by omega) (by omega)]
     refine rY L6 ak ?_
     rw[lk.sv.sr.j9 Z0,za,hW2,ze,za,zd (by omega) (by omega),show(N k:Int)+(j:Int)=((N k+j:Nat):Int) by omega]
     refine HW (by omega) (by omega) ?_
     refine l3.adW Lb C7 (i:=k+1) (v:=zg (-1000*((k:Int)+10) - ((N k+j:Nat):Int) - 7)) ((SI uA).trans (congrArg some hFk)) rfl (by omega) (by unfold zv;rw[<- iV];rfl) (by rw[hws];omega) fun g' H4 l4=>?_
     rw[afp uA]at l4
     rw[ze,za,zE,zr (by omega)]
     refine⟨⟨j+1,g',ws++[mkI k (N k+j)],by omega,rfl,by rw[cR,hws];rfl,fun i hi=>?_,_,fun i=>?_,l4⟩,by simp only[zu];exact yR (by omega)⟩
     · by_cases e:i=N k+j
       · rw[e,<- hws,jB (iU _),nM,hws];rfl
       · rw[ko (by omega)];exact X6 i (by omega)
     · unfold o9
       by_cases e:i=k
       · rw[aU e,aU e,aU e,e];rfl
       · rw[aH e,aH e,aH e,hF i]
         unfold o9
         rw[aH e,aH e]
   · have ej:j=6:=by omega
     subst ej
     have lT:=lk.gv.one
     refine l3.qY aat Lc (i:=4) (c:=#[g]) rfl lT.1 (by omega) (by omega) rfl (by unfold zv;rw[<- iV];simp[lT.2]) (by simp;omega) fun Ov H4 l4=>?_
     rw[ze,za,zE,zr (by omega)]
     refine⟨⟨k+1,o9 G k g,o9 X k ws,Ov,by omega,rfl,fun i hi=>?_,fun i hi=>?_,F,hF,?_⟩,by simp only[zu];exact yR (by omega)⟩
     · unfold o9
       by_cases e:i=k
       · rw[aU e,e];exact⟨hws,X6⟩
       · rw[aH e];exact hX i (by omega)
     · unfold o9
       rw[aH (by omega),aH (by omega)];exact hG i (by omega)
     · have e:(List.range (k+1)).map (fun j=>(#[o9 G k g j]:Array Value))=((List.range k).map fun j=>(#[G j]:Array Value))++[#[g]]:=by
         rw[uS,cU]
         congr 1
         · refine List.map_congr_left fun i hi=>?_
           have:=ki.1 hi
           unfold o9
           rw[aH (by omega)]
         · show [(#[o9 G k g k]:Array Value)]=_
           unfold o9
           rw[aU rfl]
       rw[e]
       exact l4
 have ek:k=2:=by simp at lA;omega
 subst ek
 have e2:(List.range 2).map (fun j=>(#[G j]:Array Value))=[#[G 0],#[G 1]]:=rfl
 rw[e2]at l2
 have D0:∀ H',Ext H2 H'->Lo T H0 H' r:=fun H' e=>Lo.unpack (l:=[]) (hq ▸ ((l2.ext e).pick [3] (by decide) (by simp)))
 refine zF.mk (fun t H'=>∃ k:Nat,k<=2/\t=(zg k,())/\Ext H2 H') (fun t _=>mi t.1 fun i=>(2 - i).toNat) ⟨0,by omega,rfl,Ext.refl _⟩ ?_
 rintro _ H3 ⟨k,hk,rfl,e3⟩
 rw[za,zk,za,zb]
 refine⟨fun kc=>?_,fun IC=>K H3 (D0 H3 e3)⟩
 have uA:k<2:=by simp at kc;omega
 have hNk:=hNl k uA
 have ak:=UX (f:=fun j=>(#[A j]:Array Value)) uA
 have gk:=UX (f:=fun j=>(#[G j]:Array Value)) uA
 obtain⟨hXl,hXm⟩:=hX k uA
 refine zF.mk (fun t H'=>∃ i:Nat,i<=N k+6/\t=(zg i,())/\Ext H2 H') (fun t _=>mi t.1 fun i=>(N k+6 - i).toNat) ⟨0,by omega,rfl,e3⟩ ?_
 clear e3 H3
 rintro _ H3 ⟨i,hi,rfl,e3⟩
 have l3:=l2.ext e3
 have L6:=(l3.sv (i:=0) rfl).sr
 have srg:=(l3.sv (i:=4) rfl).sr
 have lk:=l3.alC (i:=k+1) ((SI uA).trans (congrArg some (hF k)))
 refine rY srg gk ?_
 rw[lk.gv.sr.j9 Z0,za,hXl,zk,za,zb]
 refine⟨fun hl=>?_,fun hg=>?_⟩
 rotate_left
 · rw[ze,za,zE,zr (by omega)]
   exact⟨⟨k+1,by omega,rfl,e3⟩,by simp only[zu];exact yR (by omega)⟩
 refine Zg.mk (fun t H'=>t.1=.bool false/\Ext H2 H') ?_ ?_
 · rintro⟨t,u⟩ H4 ⟨ht,e4⟩
   simp only at ht
   subst ht
   rw[zh,ze,za,zE,zr (by omega)]
   exact⟨⟨i+1,by omega,rfl,e4⟩,by simp only[zu];have:=yR (n:=i) (c:=(N k:Int)+6) (by omega);exact this⟩
 · have hxi:=hXm i (by omega)
   refine rY srg gk ?_
   refine rY lk.gv.sr hxi ?_
   rw[ze,za,zd (by omega) (by omega)]
   refine⟨_,XT (by omega) (by omega),?_⟩
   rw[zn,za,Ea,zh]
   refine rY L6 ak ?_
   rw[lk.sv.sr.j9 Z0,za,hW2,zk,za,zb]
   refine⟨fun o8=>?_,fun acL=>?_⟩
   · refine rY L6 ak ?_
     refine rY lk.sv.sr (EN k uA i (by omega)) ?_
     refine rY srg gk ?_
     refine rY lk.gv.sr hxi ?_
     rw[zn,za,Ea]
     exact fun H4 e4=>⟨rfl,e3.trans e4⟩
   · exact fun H4 e4=>⟨rfl,e3.trans e4⟩
end
structure lX where
 call:Int
 n:Int
 node:kM
 at_:Int
 fill:Int
def RY(a:Int):Prop := -9223372036854775808<=a/\a<=9223372036854775807
structure lX.Ok(o:lX):Prop where
 call:RY o.call
 n:RY o.n
 node:lE o.node
 at_:RY o.at_
 fill:0<=o.fill/\o.fill<256
def lX.c(o:lX):Array Value:=#[zg o.call,zg o.n,.int .u16 (o.node 0),.int .u16 (o.node 1),.int .u32 (o.node 2),.int .u32 (o.node 3),.int .u32 (o.node 4),.int .u32 (o.node 5),.int .u32 (o.node 6),.int .u32 (o.node 7),.int .u32 (o.node 8),.int .u32 (o.node 9),.int .u32 (o.node 10),.int .u32 (o.node 11),.int .u32 (o.node 12),.int .u32 (o.node 13),.int .u32 (o.node 14),.int .u32 (o.node 15),zg o.at_,.int .u8 o.fill]
theorem lX.size(o:lX):o.c.size=20:=rfl
theorem lX.g0(o:lX):o.c[0]?=some (zg o.call):=rfl
theorem lX.g1(o:lX):o.c[1]?=some (zg o.n):=rfl
theorem lX.g18(o:lX):o.c[18]?=some (zg o.at_):=rfl
theorem lX.g19(o:lX):o.c[19]?=some (.int .u8 o.fill):=rfl
theorem lX.gn(o:lX):o.c.extract 2 (2+16)=zS o.node:=by simp[lX.c,zS]
theorem ND(a:Int):RY (IntKind.i64.wrap a):=by
 unfold RY;simp[IntKind.wrap,IntKind.bits,IntKind.signed];omega
section
variable{H:Hp}{R:Value->Hp->Prop}
theorem afz{d:jn}(hd:jR d){o:lX}(ho:o.Ok)(K:∀ H' d',Ext H H'->jR d'->R (.agg d') H'):Fc TP 61 #[.agg d,.agg o.c] H R:=by
 obtain⟨fl,uK⟩:∃ fl:Nat,o.fill=fl:=⟨o.fill.toNat,by have:=ho.fill;omega⟩
 have hf:=ho.fill
 refine fn61 ?_
 simp only[sh61,Ul,UL,UA,Us,Ub,Uz,Uf,Uw,Uk,Uo,Uv,ZI,zm,za]
 refine(Lo.start _ H:Lx H H []).jc fun b1 H1 _ l1=>?_
 refine l1.jc fun b2 H2 _ l2=>?_
 refine l2.jc fun b3 H3 _ l3=>?_
 have l3:Lx H H3 [.box b1 d 65,.box b2 o.c 76,.box b3 zB 65]:=l3
 refine zF.mk (fun t H'=>∃ (i:Nat) (e:jn),i<=40/\t=(zg i,())/\jR e/\Lx H H' [.box b1 e 65,.box b2 o.c 76,.box b3 zB 65]) (fun t _=>mi t.1 fun i=>(40 - i).toNat) ⟨0,d,by omega,rfl,hd,l3⟩ ?_
 rintro _ H4 ⟨i,e,hi,rfl,he,l4⟩
 rw[zk,za,zb]
 refine⟨fun kc=>?_,fun lA=>?_⟩
 rotate_left
 · rw[l4.je (i:=0) (n:=1024) rfl he.size,za]
   refine l4.ret (i:=2) (K:=fun y H5=>R y H5) rfl zw he.size he.ok fun H' l'=>K H' e l'.iZ he
 simp only[zc,aR,za]
 rw[l4.ld (i:=1) rfl,o.g18,za,ze,za]
 have hp:=ND (o.at_+i)
 generalize IntKind.i64.wrap (o.at_+(i:Int))=a at hp
 obtain⟨j,hj⟩:∃ j:Nat,a % 1024=j:=⟨(a % 1024).toNat,by omega⟩
 have hj2:j<1024:=by omega
 have fin:∀ H5,Lx H H5 [.box b1 e 65,.box b2 o.c 76,.box b3 zB 65]->Pu (zG (some (some 1024,1)) (.pointer (some ⟨b1,0,none⟩)) (zg j)) fun x18=>lC true H5 fun tF=>Pu (zY (some 1) x18 (.int .u8 o.fill) tF) fun sD=>lC true sD fun By=>Pu (z8 (some (.int .i64)) .add (zg i) (.int .i64 1)) fun x19=>
     (∃ (i:Nat) (e:jn),i<=40/\(x19,())=(zg i,())/\jR e/\Lx H By [.box b1 e 65,.box b2 o.c 76,.box b3 zB 65])/\(mi x19 fun i=>(40 - i).toNat)<mi (zg i) fun i=>(40 - i).toNat:=fun H5 l5=>by
   rw[zC hj2,za]
   intro H6 e6
   refine(l5.ext e6).st (i:=0) (b:=b1) (j:=0+j*1) (v:=.int .u8 o.fill) rfl (by rw[he.size];omega) rfl rfl fun H7 l7=>?_
   intro H8 e8
   rw[ze,za,zE,zr (by omega)]
   refine⟨⟨i+1,_,by omega,rfl,?_,l7.ext e8⟩,by simp only[zu];exact yR (by omega)⟩
   rw[uK]
   exact(he.n.set _ (by omega)).b
 refine⟨?_,?_,trivial⟩
 · intro H5 e5
   refine sW hp (by omega) (by omega) ?_
   have l5:=l4.ext e5
   rw[l5.ld (i:=1) rfl,o.g19,za,hj]
   exact fin H5 l5
 · rw[l4.ld (i:=1) rfl,o.g19,za]
   intro H5 e5
   refine sW hp (by omega) (by omega) ?_
   rw[hj]
   exact fin H5 (l4.ext e5)
end
theorem Ad{a:Int}:decide (a=a)=true:=gU rfl
theorem abt(c:Cx)(S:LS)(n:Int):∃ f,(S.rk c n).1=zS f:=by
 unfold LS.rk;split
 ·exact⟨fun _=>0,rfl⟩
 ·split
  ·exact⟨fun _=>0,rfl⟩
  ·exact⟨S.ino c n.toNat,rfl⟩
theorem Re(c:Cx)(S:LS)(hI:c.I<=65535)(h1:1<=c.I):(S.uu c).1.length<100000:=by
 unfold LS.uu;split
 ·simp
 ·have:=Be (S.ino c) c.I.toNat;show(DQ (S.ino c) c.I.toNat).length<_;omega
theorem XS{l:List Int}:∀ v∈l.map nI,zv v:=fun v hv=>by
 obtain⟨a,_,rfl⟩:=iT.1 hv;unfold zv;rw[<- iV];rfl
theorem Rs{e:ZX}{v w:Value}(h1:e.size=1)(hv:v.cells=#[v])(hw:w.cells=#[w]):zT (some e) 2 [(0,v),(1,w)]=some #[v,w]:=by
 unfold zT;simp only;rw[h1,aH (by omega)];have key:∀ A:Array Value,A.size=2->Instr.fill (fun i=>some (i*1,1)) A [(0,v),(1,w)]=some #[v,w]:=by
  intro A hA;unfold Instr.fill;simp only;rw[aH (by rw[hv];simp[hA])];unfold Instr.fill;simp only;rw[hv,qF (by simp[hA]),aH (by rw[hw,zO (by simp[hA])];simp[hA])];unfold Instr.fill;rw[hw,qF (by rw[zO (by simp[hA])];simp[hA])];congr 1;apply jm;intro j;rw[zH (by rw[zO (by simp[hA])];simp[hA]),zH (by simp[hA])]
  match j with
  | 0=>simp
  | 1=>simp
  | j+2=>simp[hA]
 exact key _ (by simp)
section
variable{T:Nat->Prop}{H0 H:Hp}{R:Value->Hp->Prop}{c:Cx}{k k' m pb:Nat}{S:LS}{q:Ob}
theorem ah1(l:Lo T H0 H [yG pb c,kW c k S,lg c k' m S,q])(hk:k<60000000000)(Oj:k'<700000000)(hm:m<600000000000){o:lX}(ho:o.Ok)
   (K:∀ H' S',Lo T H0 H' [yG pb c,kW c (k+10000) S',lg c (k'+1000) (m+70000) S',q]->R (.bool true) H'):Fc TP 22 #[zD pb,.agg o.c] H R:=by
 have y3:∀ {a b:Value},zq (.tuple #[a,b]) 0=some a:=rfl
 have y4:∀ {a b:Value},zq (.tuple #[a,b]) 1=some b:=rfl
 have hg:c.Ok:=by
   obtain⟨O1,h1⟩:=l.get (i:=1) (x:=kW c k S) rfl
   exact BS h1
 obtain⟨g1,g2,g3,g4,g5,g6,g7⟩:=id hg.CQ
 refine fn22 ?_
 simp only[sh22,Ul,UL,UA,Us,Ub,Uz,Ux,UI,Uf,Uw,Uj,Uv,U1,U0,zm,zl,zc,aR,Nat.reduceAdd,za]
 refine l.jc fun b1 H1 _ l1=>?_
 have l1:Lo T H0 H1 [yG pb c,kW c k S,lg c k' m S,q,.box b1 o.c 76]:=l1
 clear l
 have out:∀ {H2:Hp} {k1 k2 m1:Nat} {S':LS} {r:List Ob},Lo T H0 H2 ([yG pb c,kW c k1 S',lg c k2 m1 S',q]++r)->k1<=k+10000->k2<=k'+1000->m1<=m+70000->R (.bool true) H2:=fun {H2 k1 k2 m1 S' r} l2 e1 e2 e3=>by
   have l3:=l2.take
   have l4:=l3.nth (i:=1) (y:=kW c (k+10000) S') rfl fun O ho=>pj ho e1
   exact K H2 S' (l4.nth (i:=2) rfl fun O ho=>pk ho e2 e3)
 have q0:∀ {H2:Hp} {u v w:Ob} {r:List Ob},Lo T H0 H2 (yG pb c :: u :: v :: w :: r)->zX (some none) (.pointer (some ⟨pb,0,none⟩)) H2=some (zD c.p):=fun l2=>by rw[l2.ld (i:=0) rfl,pr0]
 have q1:∀ {H2:Hp} {u v w:Ob} {r:List Ob},Lo T H0 H2 (yG pb c :: u :: v :: w :: r)->zX (some none) (.pointer (some ⟨pb,1,none⟩)) H2=some (zD c.lb):=fun l2=>by rw[l2.ld (i:=0) rfl,pr1]
 have q2:∀ {H2:Hp} {u v w:Ob} {r:List Ob},Lo T H0 H2 (yG pb c :: u :: v :: w :: r)->zX (some none) (.pointer (some ⟨pb,2,none⟩)) H2=some (zD c.r):=fun l2=>by rw[l2.ld (i:=0) rfl,pr2]
 have q3:∀ {H2:Hp} {u v w:Ob} {r:List Ob},Lo T H0 H2 (yG pb c :: u :: v :: w :: r)->zX (some none) (.pointer (some ⟨pb,3,none⟩)) H2=some (zD c.w):=fun l2=>by rw[l2.ld (i:=0) rfl,pr3]
 have qn:∀ {H2:Hp} {t u v w:Ob} {r:List Ob},Lo T H0 H2 (t :: u :: v :: w :: .box b1 o.c 76 :: r)->zX (some none) (.pointer (some ⟨b1,1,none⟩)) H2=some (zg o.n):=fun l2=>by rw[l2.ld (i:=4) rfl,o.g1]
 have qd:∀ {H2:Hp} {t u v w:Ob} {r:List Ob},Lo T H0 H2 (t :: u :: v :: w :: .box b1 o.c 76 :: r)->zX (some (some 16)) (.pointer (some ⟨b1,2,none⟩)) H2=some (.agg (zS o.node)):=fun l2=>by rw[Za (l2.at (i:=4) rfl) (by rw[o.size];omega),o.gn]
 simp only[zc,aR,Nat.reduceAdd,za]
 rw[l1.ld (i:=4) rfl,o.g0,za]
 have p1:=q1 l1
 have p3:=q3 l1
 have pn:=qn l1
 have pd:=qd l1
 obtain⟨O1,h1,pH⟩:=l1.call (i:=1) rfl
 obtain⟨O2,h2,Hr⟩:=l1.call (i:=2) rfl
 rw[zp,za,zb]
 refine⟨fun _=>?_,fun _=>?_⟩
 · -- anS
   simp only[p1,p3,pn,za]
   have A:∀ H2,Ext H1 H2->Fc TP 11 #[zD c.lb,zg o.n] H2 fun x H3=>x=zg (S.mB c.L o.n).2/\Lo T H0 H3 [yG pb c,kW c (k+520) (S.mB c.L o.n).1,lg c k' m S,q,.box b1 o.c 76]:=fun H2 e2=>by
     obtain⟨O3,h3,mJ⟩:=(l1.ext e2).call (i:=1) rfl
     exact Qv h3 (by omega) fun H4 O4 s4 h4=>⟨rfl,mJ H4 _ O4 s4 h4⟩
   have B:∀ H2 H3,Lo T H0 H2 [yG pb c,kW c (k+520) (S.mB c.L o.n).1,lg c k' m S,q,.box b1 o.c 76]->Ext H2 H3->Fc TP 50 #[zD c.w,zg o.n] H3 fun x H4=>x=zg (S.mB c.L o.n).2/\Lo T H0 H4 [yG pb c,kW c (k+520) (S.mB c.L o.n).1,lg c (k'+520) m (S.mB c.L o.n).1,q,.box b1 o.c 76]:=fun H2 H3 l2 e2=>by
     obtain⟨O3,h3,mJ⟩:=(l2.ext e2).call (i:=2) rfl
     exact QN h3 (by omega) fun H4 O4 s4 h4=>⟨rfl,mJ H4 _ O4 s4 h4⟩
   repeat' (first | exact trivial | apply And.intro)
   all_goals
     intro H2 e2
     refine(A H2 e2).mono fun x H3 ⟨hx,l3⟩=>?_
     subst hx
     have r3:=q3 l3
     have rn:=qn l3
     try simp only[r3,rn,za]
     intro H4 e4
     refine(B H3 H4 l3 e4).mono fun y H5 ⟨hy,l5⟩=>?_
     subst hy
     rw[zp,za,Ad]
     intro H6 e6
     exact out (r:=[_]) (l5.ext e6) (by omega) (by omega) (by omega)
 rw[zp,za,zb]
 refine⟨fun _=>?_,fun _=>?_⟩
 · -- End
   simp only[p1,p3,za]
   have A:∀ H2,Ext H1 H2->Fc TP 13 #[zD c.lb] H2 fun x H3=>x=zg S.fin.2/\Lo T H0 H3 [yG pb c,kW c (k+1) S.fin.1,lg c k' m S,q,.box b1 o.c 76]:=fun H2 e2=>by
     obtain⟨O3,h3,mJ⟩:=(l1.ext e2).call (i:=1) rfl
     exact abk h3 (by omega) fun H4 O4 s4 h4=>⟨rfl,mJ H4 _ O4 s4 h4⟩
   have B:∀ H2 H3,Lo T H0 H2 [yG pb c,kW c (k+1) S.fin.1,lg c k' m S,q,.box b1 o.c 76]->Ext H2 H3->Fc TP 51 #[zD c.w] H3 fun x H4=>x=zg S.fin.2/\Lo T H0 H4 [yG pb c,kW c (k+1) S.fin.1,lg c (k'+1) m S.fin.1,q,.box b1 o.c 76]:=fun H2 H3 l2 e2=>by
     obtain⟨O3,h3,mJ⟩:=(l2.ext e2).call (i:=2) rfl
     exact abp h3 (by omega) fun H4 O4 s4 h4=>⟨rfl,mJ H4 _ O4 s4 h4⟩
   repeat' (first | exact trivial | apply And.intro)
   all_goals
     intro H2 e2
     refine(A H2 e2).mono fun x H3 ⟨hx,l3⟩=>?_
     subst hx
     have r3:=q3 l3
     try simp only[r3,za]
     intro H4 e4
     refine(B H3 H4 l3 e4).mono fun y H5 ⟨hy,l5⟩=>?_
     subst hy
     rw[zp,za,Ad]
     intro H6 e6
     exact out (r:=[_]) (l5.ext e6) (by omega) (by omega) (by omega)
 rw[zp,za,zb]
 refine⟨fun _=>?_,fun _=>?_⟩
 · -- Read
   obtain⟨f,hf⟩:=abt c S o.n
   have hz:(zS fun _=>0).size=16:=zt _
   refine Zg.mk (fun t H'=>∃ b,t.1=zD b/\t.2.1=zg (S.rk c o.n).2/\Lo T H0 H' [yG pb c,kW c (k+1) S,lg c k' m S,q,.box b1 o.c 76,.box b (zS f) 54]) ?_ ?_
   rotate_left
   · simp only[p1,pn,ZE,za]
     refine⟨?_,?_,trivial⟩
     · intro H2 e2
       obtain⟨O3,h3,mJ⟩:=(l1.ext e2).call (i:=1) rfl
       refine BQ h3 (by omega) ho.n fun H4 O4 s4 h4=>?_
       have l4:=mJ H4 _ O4 s4 h4
       rw[y3,za,y4,za,hf]
       intro H5 e5
       refine(l4.ext e5).jc fun b H6 _ l6=>?_
       intro H7 e7
       refine(l6.ext e7).jE (i:=5) rfl hz (zt _) (ZA _) fun H8 l8=>?_
       intro H9 e9
       exact⟨b,rfl,rfl,l8.ext e9⟩
     · intro H2 e2
       refine(l1.ext e2).jc fun b H6 _ l6=>?_
       intro H7 e7
       obtain⟨O3,h3,mJ⟩:=(l6.ext e7).call (i:=1) rfl
       refine BQ h3 (by omega) ho.n fun H4 O4 s4 h4=>?_
       have l4:=mJ H4 _ O4 s4 h4
       rw[y3,za,y4,za,hf]
       intro H5 e5
       refine(l4.ext e5).jE (i:=5) rfl hz (zt _) (ZA _) fun H8 l8=>?_
       intro H9 e9
       exact⟨b,rfl,rfl,l8.ext e9⟩
   rintro⟨t1,t2,u⟩ H2 ⟨b,N9,PL,l2⟩
   simp only at N9 PL
   subst N9 PL
   have p3:=q3 l2
   have pn:=qn l2
   refine Zg.mk (fun t H'=>∃ b',t.1=zD b'/\t.2.1=zg (S.rk c o.n).2/\Lo T H0 H' [yG pb c,kW c (k+1) S,lg c k' (m+1) S,q,.box b1 o.c 76,.box b (zS f) 54,.box b' (zS f) 54]) ?_ ?_
   rotate_left
   · simp only[p3,pn,ZE,za]
     refine⟨?_,?_,trivial⟩
     · intro H3 e3
       obtain⟨O3,h3,mJ⟩:=(l2.ext e3).call (i:=2) rfl
       refine sT h3 (by omega) (by omega) fun H4 O4 s4 h4=>?_
       have l4:=mJ H4 _ O4 s4 h4
       rw[y3,za,y4,za,hf]
       intro H5 e5
       refine(l4.ext e5).jc fun b' H6 _ l6=>?_
       intro H7 e7
       refine(l6.ext e7).jE (i:=6) rfl hz (zt _) (ZA _) fun H8 l8=>?_
       intro H9 e9
       exact⟨b',rfl,rfl,l8.ext e9⟩
     · intro H3 e3
       refine(l2.ext e3).jc fun b' H6 _ l6=>?_
       intro H7 e7
       obtain⟨O3,h3,mJ⟩:=(l6.ext e7).call (i:=2) rfl
       refine sT h3 (by omega) (by omega) fun H4 O4 s4 h4=>?_
       have l4:=mJ H4 _ O4 s4 h4
       rw[y3,za,y4,za,hf]
       intro H5 e5
       refine(l4.ext e5).jE (i:=6) rfl hz (zt _) (ZA _) fun H8 l8=>?_
       intro H9 e9
       exact⟨b',rfl,rfl,l8.ext e9⟩
   rintro⟨t1,t2,u⟩ H3 ⟨b',N9,PL,l3⟩
   simp only at N9 PL
   subst N9 PL
   simp only[l3.je (i:=5) (b:=b) (n:=16) rfl (zt _),l3.je (i:=6) (b:=b') (n:=16) rfl (zt _),za]
   rw[YX,WS,show(some true:Option Bool).map Value.bool=some (.bool true) from rfl,za,zA,zp,za,Ad]
   exact out (r:=[_,_,_]) l3 (by omega) (by omega) (by omega)
 rw[zp,za,zb]
 refine⟨fun _=>?_,fun _=>?_⟩
 · -- anN
   simp only[p1,p3,pn,pd,za]
   have A:∀ H2,Ext H1 H2->Fc TP 12 #[zD c.lb,zg o.n,.agg (zS o.node)] H2 fun x H3=>x=zg (S.sU c o.n o.node).2/\Lo T H0 H3 [yG pb c,kW c (k+1) (S.sU c o.n o.node).1,lg c k' m S,q,.box b1 o.c 76]:=fun H2 e2=>by
     obtain⟨O3,h3,mJ⟩:=(l1.ext e2).call (i:=1) rfl
     exact Em h3 (by omega) ho.n ho.node fun H4 O4 s4 h4=>⟨rfl,mJ H4 _ O4 s4 h4⟩
   have B:∀ H2 H3,Lo T H0 H2 [yG pb c,kW c (k+1) (S.sU c o.n o.node).1,lg c k' m S,q,.box b1 o.c 76]->Ext H2 H3->Fc TP 53 #[zD c.w,zg o.n,.agg (zS o.node)] H3 fun x H4=>x=zg (S.sU c o.n o.node).2/\Lo T H0 H4 [yG pb c,kW c (k+1) (S.sU c o.n o.node).1,lg c k' (m+1) (S.sU c o.n o.node).1,q,.box b1 o.c 76]:=fun H2 H3 l2 e2=>by
     obtain⟨O3,h3,mJ⟩:=(l2.ext e2).call (i:=2) rfl
     exact En h3 (by omega) (by omega) ho.node fun H4 O4 s4 h4=>⟨rfl,mJ H4 _ O4 s4 h4⟩
   repeat' (first | exact trivial | apply And.intro)
   all_goals
     intro H2 e2
     refine(A H2 e2).mono fun x H3 ⟨hx,l3⟩=>?_
     subst hx
     have r3:=q3 l3
     have rn:=qn l3
     have rd:=qd l3
     try simp only[r3,rn,rd,za]
     intro H4 e4
     refine(B H3 H4 l3 e4).mono fun y H5 ⟨hy,l5⟩=>?_
     subst hy
     rw[zp,za,Ad]
     intro H6 e6
     exact out (r:=[_]) (l5.ext e6) (by omega) (by omega) (by omega)
 rw[zp,za,zb]
 refine⟨fun _=>?_,fun _=>?_⟩
 · -- Take
   simp only[p1,pd,za]
   refine Ve h1 (by omega) ho.node fun H3 O3 s3 h3=>?_
   have l3:Lo T H0 H3 [yG pb c,kW c (k+4098) (S.take c o.node).1,lg c k' m S,q,.box b1 o.c 76]:=pH H3 _ O3 s3 h3
   simp only[q3 l3,qd l3,y3,y4,za]
   obtain⟨O4,h4,xh⟩:=l3.call (i:=2) rfl
   refine Vn h4 (by omega) (by omega) ho.node fun H5 O5 s5 h5=>?_
   have l5:=xh H5 _ O5 s5 h5
   simp only[y3,y4,za]
   rw[zp,za,Ad,zA,zp,za,Ad]
   exact out (r:=[_]) l5 (by omega) (by omega) (by omega)
 rw[zp,za,zb]
 refine⟨fun _=>?_,fun _=>?_⟩
 · -- anO
   simp only[p1,za]
   refine Qt h1 (by omega) fun H3 O3 s3 h3=>?_
   have l3:Lo T H0 H3 [yG pb c,kW c (k+4097) S,lg c k' m S,q,.box b1 o.c 76]:=pH H3 _ O3 s3 h3
   simp only[q3 l3,y3,y4,za]
   obtain⟨O4,h4,xh⟩:=l3.call (i:=2) rfl
   refine QK h4 (by omega) (by omega) fun H5 O5 s5 h5=>?_
   have l5:=xh H5 _ O5 s5 h5
   simp only[y3,y4,za]
   rw[zp,za,Ad,zA,zp,za,Ad]
   exact out (r:=[_]) l5 (by omega) (by omega) (by omega)
 rw[zp,za,zb]
 refine⟨fun _=>?_,fun _=>?_⟩
 · -- ai3
   have X3:=Re c S g4 g3
   simp only[p1,za]
   refine BR h1 (by omega) fun H3 v MQ=>?_
   obtain⟨O3,s3,h3⟩:=Lo.close (l:=[_,_]) (r:=[]) MQ
   have l3:=Lo.unpack (l:=[_,_,_,_]) ((pH H3 _ O3 s3 h3).pick [0,2,3,4,1] (by decide) (by simp))
   have l3:Lo T H0 H3 [yG pb c,lg c k' m S,q,.box b1 o.c 76,kW c (k+4097) S,.sl 3 1 v ((S.uu c).1.map nI)]:=l3
   simp only[q1 l3,y3,y4,za]
   obtain⟨O4,h4,xh⟩:=l3.call (i:=4) rfl
   refine BR h4 (by omega) fun H5 w MP=>?_
   obtain⟨O5,s5,h5⟩:=Lo.close (l:=[_,_]) (r:=[]) MP
   have l5:=Lo.unpack (l:=[_,_,_,_,_]) ((xh H5 _ O5 s5 h5).pick [0,1,2,3,5,4] (by decide) (by simp))
   have l5:Lo T H0 H5 [yG pb c,lg c k' m S,q,.box b1 o.c 76,.sl 3 1 v ((S.uu c).1.map nI),kW c (k+4097+4097) S,.sl 3 1 w ((S.uu c).1.map nI)]:=l5
   simp only[q3 l5,y3,y4,za]
   obtain⟨O6,h6,Ho⟩:=l5.call (i:=1) rfl
   refine J8 h6 (by omega) (by omega) fun H7 z PH=>?_
   obtain⟨O7,s7,h7⟩:=Lo.close (l:=[_,_]) (r:=[]) PH
   have l7:=Lo.unpack (l:=[_,_,_,_,_,_]) ((Ho H7 _ O7 s7 h7).pick [0,5,2,3,4,6,1] (by decide) (by simp))
   have l7:Lo T H0 H7 [yG pb c,kW c (k+4097+4097) S,q,.box b1 o.c 76,.sl 3 1 v ((S.uu c).1.map nI),.sl 3 1 w ((S.uu c).1.map nI),lg c k' (m+65536) S,.sl 3 1 z ((S.uu c).1.map nI)]:=l7
   simp only[y3,y4,za]
   rw[zp,za,Ad,zA,za,zA]
   refine HB (l7.sv (i:=4) rfl).sr (l7.sv (i:=7) rfl).sr (by omega) ?_
   rw[zA]
   refine HB (l7.sv (i:=5) rfl).sr (l7.sv (i:=7) rfl).sr (by omega) ?_
   rw[zA]
   have hv1:=(l7.sv (i:=4) rfl).one
   have DV:=(l7.sv (i:=5) rfl).one
   rw[aat,za]
   rw[Rs Lc.2.1 hv1.1 DV.1,za]
   refine pK fun nb H8 hb8 e8 s8 g8=>?_
   rw[Lc.1]at g8
   have l8:=l7.add e8 (x:=.sl 29 1 (.slice (some ⟨nb,0,none⟩) 2 2) [#[v],#[w]]) (O:=(·=nb)) ⟨⟨⟨some ⟨nb,0,none⟩,2,rfl,iU _,by simp,rfl,_,g8,by simp,fun i u hu=>by
     match i,hu with
     | 0,hu=>simp at hu;subst hu;rfl
     | 1,hu=>simp at hu;subst hu;rfl
     | i+2,hu=>simp at hu⟩,fun b hb=>by simpa[ZH]using hb.symm⟩,fun b hb=>by omega⟩ fun b hb=>by omega
   have l9:=l8.pick [8,4,5,0,1,6,2] (by decide) (by simp)
   refine Pt (r:=[yG pb c,kW c (k+4097+4097) S,lg c k' (m+65536) S,q]) l9 (by rw[bR];exact X3) (by rw[bR];exact X3) XS XS fun H9 mn=>?_
   exact out (r:=[]) mn (by omega) (by omega) (by omega)
 rw[zp,za,zb]
 refine⟨fun _=>?_,fun _=>?_⟩
 · -- Sync
   simp only[p1,p3,za]
   have A:∀ H2,Ext H1 H2->Fc TP 58 #[zD c.lb] H2 fun x H3=>x=zg S.sync.2/\Lo T H0 H3 [yG pb c,kW c (k+520) S.sync.1,lg c k' m S,q,.box b1 o.c 76]:=fun H2 e2=>by
     obtain⟨O3,h3,mJ⟩:=(l1.ext e2).call (i:=1) rfl
     exact Vf h3 (by omega) fun H4 O4 s4 h4=>⟨rfl,mJ H4 _ O4 s4 h4⟩
   have B:∀ H2 H3,Lo T H0 H2 [yG pb c,kW c (k+520) S.sync.1,lg c k' m S,q,.box b1 o.c 76]->Ext H2 H3->Fc TP 59 #[zD c.w] H3 fun x H4=>x=zg S.sync.2/\Lo T H0 H4 [yG pb c,kW c (k+520) S.sync.1,lg c (k'+520) m S.sync.1,q,.box b1 o.c 76]:=fun H2 H3 l2 e2=>by
     obtain⟨O3,h3,mJ⟩:=(l2.ext e2).call (i:=2) rfl
     exact Vo h3 (by omega) fun H4 O4 s4 h4=>⟨rfl,mJ H4 _ O4 s4 h4⟩
   repeat' (first | exact trivial | apply And.intro)
   all_goals
     intro H2 e2
     refine(A H2 e2).mono fun x H3 ⟨hx,l3⟩=>?_
     subst hx
     have r3:=q3 l3
     try simp only[r3,za]
     intro H4 e4
     refine(B H3 H4 l3 e4).mono fun y H5 ⟨hy,l5⟩=>?_
     subst hy
     rw[zp,za,Ad]
     intro H6 e6
     exact out (r:=[_]) (l5.ext e6) (by omega) (by omega) (by omega)
 rw[zp,za,zb]
 refine⟨fun _=>?_,fun _=>?_⟩
 · -- bytes laid raw
   simp only[p3,yq,za]
   refine tK h2 fun H3 O3 s3 h3=>?_
   have l3:Lo T H0 H3 [yG pb c,kW c k S,lg c k' m S,q,.box b1 o.c 76]:=Hr H3 _ O3 s3 h3
   refine l3.jc fun b4 H4 _ l4=>?_
   refine l4.jE (i:=5) rfl rfl (kh.size _) (kh.Ns _) fun H5 l5=>?_
   have l5:Lo T H0 H5 [yG pb c,kW c k S,lg c k' m S,q,.box b1 o.c 76,.box b4 (S.lay c).cells 62]:=l5
   clear l4 l3 Hr h2 pH h1 p1 p3 pn pd
   have hnb:0<=(S.lay c).nodeAt/\(S.lay c).nodeAt<=257/\0<=(S.lay c).kO/\(S.lay c).kO<=5000/\(S.dead=false->(S.lay c).nodeAt=1+c.L/\(S.lay c).kO=(c.I+16) / 16):=by
     unfold LS.lay
     rcases Zv S with hd | hd
     · rw[aU hd]
       exact⟨by decide,by decide,by decide,by decide,fun e=>by rw[hd]at e;cases e⟩
     · rw[aH (by rw[hd];decide)]
       refine⟨?_,?_,?_,?_,fun _=>⟨rfl,rfl⟩⟩
       · show 0<=1+c.L;omega
       · show 1+c.L<=257;omega
       · show 0<=(c.I+16) / 16;omega
       · show(c.I+16) / 16<=5000;omega
   have c4:(S.lay c).cells[4]?=some (zg (S.lay c).nodeAt):=rfl
   have c5:(S.lay c).cells[5]?=some (zg (S.lay c).kO):=rfl
   obtain⟨a,ha⟩:∃ a,a=(S.lay c).nodeAt+o.n % max 1 (S.lay c).kO:=⟨_,rfl⟩
   have hm1:0<=o.n % max 1 (S.lay c).kO/\o.n % max 1 (S.lay c).kO<max 1 (S.lay c).kO:=⟨Int.emod_nonneg _ (by omega),Int.emod_lt_of_pos _ (by omega)⟩
   refine Zg.mk (fun t H'=>t.1=zg a/\Ext H5 H') ?_ ?_
   rotate_left
   · simp only[zc,aR,Nat.reduceAdd,qn l5,l5.ld (i:=5) (b:=b4) rfl,c4,c5,za,MF]
     refine⟨?_,?_,trivial⟩
     · intro H6 e6
       refine sW ho.n (by omega) (by omega) ?_
       rw[ze,za,zd (by omega) (by omega),<- ha]
       exact fun H7 e7=>⟨rfl,e6.trans e7⟩
     · intro H6 e6
       refine sW ho.n (by omega) (by omega) ?_
       rw[(l5.ext e6).ld (i:=5) (b:=b4) rfl,c4,za,ze,za,zd (by omega) (by omega),<- ha]
       exact fun H7 e7=>⟨rfl,e6.trans e7⟩
   rintro⟨t,u⟩ H6 ⟨ht,e6⟩
   simp only at ht
   subst ht
   have l6:=l5.ext e6
   clear l5
   simp only[q3 l6,ZI,za]
   obtain⟨O6,h6,Ho⟩:=l6.call (i:=2) rfl
   have CI:S.dead=false->0<=a->a<c.B->nZ c.L a:=fun hd _ _=>by
     obtain⟨_,_,_,_,h5⟩:=hnb
     have:=(h5 hd).1
     exact .inr (by omega)
   refine Mg h6 (by omega) (by omega) CI fun H7 O7 s7 h7 lK=>?_
   have l7:Lo T H0 H7 [yG pb c,kW c k S,lg c k' (m+1) S,q,.box b1 o.c 76,.box b4 (S.lay c).cells 62]:=Ho H7 _ O7 s7 h7
   rw[y3,za,y4,za]
   refine l7.jc fun b8 H8 _ l8=>?_
   refine l8.jE (i:=6) rfl zw lK.size lK.ok fun H9 l9=>?_
   have l9:Lo T H0 H9 [yG pb c,kW c k S,lg c k' (m+1) S,q,.box b1 o.c 76,.box b4 (S.lay c).cells 62,.box b8 (S.rd c.B a).1 65]:=l9
   rw[l9.je (i:=6) (n:=1024) rfl lK.size,za,l9.je (i:=4) (n:=20) rfl o.size,za]
   refine afz lK ho fun mX d sA hd=>?_
   refine(l9.ext sA).jE (i:=6) rfl lK.size hd.size hd.ok fun mN lO=>?_
   have lO:Lo T H0 mN [yG pb c,kW c k S,lg c k' (m+1) S,q,.box b1 o.c 76,.box b4 (S.lay c).cells 62,.box b8 d 65]:=lO
   have qb:∀ {H2:Hp} {t u v w x y:Ob} {r:List Ob},Lo T H0 H2 (t :: u :: v :: w :: x :: y :: .box b8 d 65 :: r)->zX (some (some 1024)) (.pointer (some ⟨b8,0,none⟩)) H2=some (.agg d):=fun l2=>l2.je (i:=6) (n:=1024) rfl hd.size
   simp only[q1 lO,q3 lO,qb lO,za]
   have A:∀ H2,Ext mN H2->Fc TP 41 #[zD c.lb,zg a,.agg d] H2 fun x H3=>x=zg (S.wt c.B c.L a d).2/\Lo T H0 H3 [yG pb c,kW c k (S.wt c.B c.L a d).1,lg c k' (m+1) S,q,.box b1 o.c 76,.box b4 (S.lay c).cells 62,.box b8 d 65]:=fun H2 e2=>by
     obtain⟨O3,h3,mJ⟩:=(lO.ext e2).call (i:=1) rfl
     exact Hs h3 hd fun H4 O4 s4 h4=>⟨rfl,mJ H4 _ O4 s4 h4⟩
   have B:∀ H2 H3,Lo T H0 H2 [yG pb c,kW c k (S.wt c.B c.L a d).1,lg c k' (m+1) S,q,.box b1 o.c 76,.box b4 (S.lay c).cells 62,.box b8 d 65]->Ext H2 H3->Fc TP 62 #[zD c.w,zg a,.agg d] H3 fun x H4=>x=zg (S.wt c.B c.L a d).2/\Lo T H0 H4 [yG pb c,kW c k (S.wt c.B c.L a d).1,lg c k' (m+1) (S.wt c.B c.L a d).1,q,.box b1 o.c 76,.box b4 (S.lay c).cells 62,.box b8 d 65]:=fun H2 H3 l2 e2=>by
     obtain⟨O3,h3,mJ⟩:=(l2.ext e2).call (i:=2) rfl
     exact QI h3 hd fun H4 O4 s4 h4=>⟨rfl,mJ H4 _ O4 s4 h4⟩
   repeat' (first | exact trivial | apply And.intro)
   all_goals
     intro H2 e2
     refine(A H2 e2).mono fun x H3 ⟨hx,l3⟩=>?_
     subst hx
     have r3:=q3 l3
     have rb:=qb l3
     try simp only[r3,rb,za]
     intro H4 e4
     refine(B H3 H4 l3 e4).mono fun y H5 ⟨hy,l5⟩=>?_
     subst hy
     rw[zp,za,Ad]
     intro H6 e6
     exact out (r:=[_,_,_]) (l5.ext e6) (by omega) (by omega) (by omega)
 rw[zp,za,zb]
 refine⟨fun _=>?_,fun _=>?_⟩
 · -- arD
   simp only[q0 l1,pn,za]
   refine Vh h1 ho.n.2 fun H3 O3 s3 h3=>?_
   have l3:Lo T H0 H3 [yG pb c,kW c k (S.mG o.n),lg c k' m S,q,.box b1 o.c 76]:=pH H3 _ O3 s3 h3
   simp only[q2 l3,qn l3,za]
   obtain⟨O4,h4,xh⟩:=l3.call (i:=2) rfl
   refine Vq h4 ho.n.2 fun H5 O5 s5 h5=>?_
   exact out (r:=[_]) (xh H5 _ O5 s5 h5) (by omega) (by omega) (by omega)
 rw[zp,za,zb]
 refine⟨fun _=>?_,fun _=>?_⟩
 · -- the amj aqQ
   simp only[q0 l1,q2 l1,za]
   have A:∀ H2,Ext H1 H2->Fc TP 65 #[zD c.p,.slice none 0 0] H2 fun x H3=>x=zg 0/\Lo T H0 H3 [yG pb c,kW c k S.mI,lg c k' m S,q,.box b1 o.c 76]:=fun H2 e2=>by
     obtain⟨O3,h3,mJ⟩:=(l1.ext e2).call (i:=1) rfl
     exact Qu h3 (by omega) fun H4 O4 s4 h4=>⟨rfl,mJ H4 _ O4 s4 h4⟩
   have B:∀ H2 H3,Lo T H0 H2 [yG pb c,kW c k S.mI,lg c k' m S,q,.box b1 o.c 76]->Ext H2 H3->Fc TP 66 #[zD c.r,.slice none 0 0] H3 fun x H4=>x=zg 0/\Lo T H0 H4 [yG pb c,kW c k S.mI,lg c k' m S.mI,q,.box b1 o.c 76]:=fun H2 H3 l2 e2=>by
     obtain⟨O3,h3,mJ⟩:=(l2.ext e2).call (i:=2) rfl
     exact QM h3 fun H4 O4 s4 h4=>⟨rfl,mJ H4 _ O4 s4 h4⟩
   repeat' (first | exact trivial | apply And.intro)
   all_goals
     intro H2 e2
     refine(A H2 e2).mono fun x H3 ⟨hx,l3⟩=>?_
     subst hx
     have r2:=q2 l3
     try simp only[r2,za]
     intro H4 e4
     refine(B H3 H4 l3 e4).mono fun y H5 ⟨hy,l5⟩=>?_
     subst hy
     rw[zp,za,Ad]
     intro H6 e6
     exact out (r:=[_]) (l5.ext e6) (by omega) (by omega) (by omega)
 exact out (r:=[_]) l1 (by omega) (by omega) (by omega)
end
theorem LZ:TP.underlying 73=some (.slice 76):=by kernel_rfl
section
variable{T:Nat->Prop}{H0 H:Hp}{R:Value->Hp->Prop}{c:Cx}{k k' m pb:Nat}{S:LS}{r:List Ob}
theorem ab6(l:Lo T H0 H (Au pb c k k' m S++r))(hk:k<70000000000)(hd:S.dead=false)(MV:S.ino c 1 0=2)
   (K:∀ H',Lo T H0 H' (Au pb c (k+1) k' m S++r)->R (.bool true) H'):Fc TP 7 #[zD pb] H R:=by
 have y3:∀ {a b:Value},zq (.tuple #[a,b]) 0=some a:=rfl
 have y4:∀ {a b:Value},zq (.tuple #[a,b]) 1=some b:=rfl
 have l1:Lo T H0 H ([yG pb c,kW c k S,lg c k' m S]++r):=l
 have hg:c.Ok:=by
   obtain⟨O1,h1⟩:=l1.get (i:=1) rfl
   exact BS h1
 have hI:=hg.CQ.2.2.1
 have e1:S.rk c 1=(zS (S.ino c 1),0):=by
   unfold LS.rk
   rw[aH (by rw[hd];decide),aH (fun e=>e ⟨by omega,hI⟩)];rfl
 refine fn7 ?_
 simp only[sh7,Ul,UA,Us,Ub,Uz,Ux,UI,Uf,Uv,U0,zl,zc,aR,bH,za,ZE]
 rw[l1.ld (i:=0) (b:=pb) rfl,pr1,za]
 obtain⟨O1,h1,pH⟩:=l1.call (i:=1) rfl
 refine BQ h1 (by omega) (by omega) fun H2 O2 s2 h2=>?_
 have l2:=pH H2 _ O2 s2 h2
 rw[e1,y3,za,y4,za]
 obtain⟨Oq,hq,_⟩:=(Lo.own h2).call (i:=0) rfl
 have l3:=Lo.pack (l:=[_,_,_]) l2
 have l3:Lo T H0 H2 [yG pb c,kW c (k+1) S,lg c k' m S,.all r]:=l3
 refine l3.jc fun b H3 _ l4=>?_
 refine l4.jE (i:=4) rfl (zt _) (zt _) (ZA _) fun H4 l5=>?_
 have l5:Lo T H0 H4 [yG pb c,kW c (k+1) S,lg c k' m S,.all r,.box b (zS (S.ino c 1)) 54]:=l5
 have i0:(zS (S.ino c 1))[0]?=some (.int .u16 (S.ino c 1 0)):=rfl
 rw[zp,za,Ad,zA,zc,za,aR,l5.ld (i:=4) (b:=b) rfl,i0,za,MV,zp,za]
 exact K H4 (Lo.unpack (l:=[_,_,_]) (l5.takeN 4))
end
section
variable{H:Hp}{R:Value->Hp->Prop}
theorem N5{B L I:Int}(hB : -9223372036854775808<=B/\B<=9223372036854775807){iv:Value}{kU:List nL}(kH:Am H iv kU)(mY:∀ t∈kU,yv t)(hlen:kU.length<281474976710656){fr sp lB:Int}(CF : -9223372036854775808<=lB/\lB<=9223372036854775807)(Ua:∃ b n c,iv=.slice b n c)
   {sv:Value} {os:List lX} (hs:Sr 20 H sv (os.map lX.c)) (hos:∀ o∈os,o.Ok) (X3:os.length<281474976710656)
   (K:∀ H',Ext H H'->R (.bool true) H'):Fc TP 5 #[.agg (oK B L I iv fr sp lB),sv] H R:=by
 have x3:∀ {a b c:Value},zq (.tuple #[a,b,c]) 0=some a:=rfl
 have x4:∀ {a b c:Value},zq (.tuple #[a,b,c]) 1=some b:=rfl
 have x5:∀ {a b c:Value},zq (.tuple #[a,b,c]) 2=some c:=rfl
 refine fn5 ?_
 simp only[sh5,Ul,UL,UA,Ub,Ux,UI,Uf,Uw,Ui,Ug,Uu,Uj,Uo,Uv,U1,U0,zm]
 refine(Lo.start _ H:Lx H H []).jc fun b1 H1 _ l1=>?_
 rw[l1.je (i:=0) (n:=7) rfl rfl,za]
 refine Xt hB (kH.ext l1.iZ) mY hlen CF Ua (fun H3 e3=>?_) fun H3 pb c fs m0 m l cB cL cI cm oa hm CK hl hwh l3=>?_
 · rw[x3,za,x4,za,x5,za]
   refine Zg.mk (fun t H'=>t.1=.bool true/\Ext H H') ?_ ?_
   · rintro⟨t,u⟩ H4 ⟨ht,e4⟩
     simp only at ht
     subst ht
     rw[zA]
     exact K H4 e4
   · rw[zx,za,jN,zA]
     exact⟨rfl,l1.iZ.trans e3⟩
 rw[x3,za,x4,za,x5,za]
 have MV:=Rv oa hm CK mY (lB % 1000003).toNat
 rw[<- hl]at MV
 have l4:=(l1.join l3).pick [1,2,3,0] (by decide) (by simp)
 have l4:Lx H H3 [yG pb c,kW c 1 (LS.start (z9 l)),lg c 1 1 (LS.start (z9 l)),.box b1 (oK B L I iv fr sp lB) 28]:=l4
 have acS:(LS.start (z9 l)).ino c 1 0=2:=by
   unfold LS.ino
   rw[cL]
   show ZD (z9 l (1+L+((1 / 16:Nat):Int))) (64*(1 % 16)) 0=2
   simpa using MV
 have Sq:(LS.start (z9 l)).dead=false:=rfl
 generalize LS.start (z9 l)=S at l4 acS Sq
 clear l3
 refine Zg.mk (fun t H'=>H'=H3/\t.1=.bool (decide (120<os.length))) ?_ ?_
 rotate_left
 · rw[zx,za,iW,zh,(hs.ext l4.iZ).j9 LZ,za,zJ,za,bR]
   exact⟨rfl,by rw[ZO (q:=120<os.length) ⟨fun e=>by omega,fun e=>by omega⟩]⟩
 rintro⟨t,u⟩ H4 ⟨rfl,ht⟩
 simp only at ht
 subst ht
 rw[zb]
 refine⟨fun _=>K H4 l4.iZ,fun aki=>?_⟩
 refine Zg.mk (fun t H'=>t.1=.bool false/\Lx H H' [yG pb c,kW c 2 S,lg c 1 1 S,.box b1 (oK B L I iv fr sp lB) 28]) ?_ ?_
 rotate_left
 · rw[zx,za,iW,zh]
   refine ab6 (k:=1) (r:=[_]) l4 (by omega) Sq acS fun H5 l5=>?_
   rw[zx,za,iW]
   exact⟨rfl,l5⟩
 rintro⟨t,u⟩ H5 ⟨ht,l5⟩
 simp only at ht
 subst ht
 rw[zh]
 refine zF.mk (fun t H'=>∃ (n:Nat) (S:LS),n<=os.length/\t=(zg n,())/\Lx H H' [yG pb c,kW c (2+10000*n) S,lg c (1+1000*n) (1+70000*n) S,.box b1 (oK B L I iv fr sp lB) 28])
   (fun t _=>mi t.1 fun i=>(os.length - i).toNat) ⟨0,S,by omega,rfl,l5⟩ ?_
 clear l5 l4 Sq acS S
 rintro _ H6 ⟨n,S,hn,rfl,l6⟩
 have hsr:=hs.ext l6.iZ
 rw[hsr.j9 LZ,za,zk,za,bR,zb]
 refine⟨fun kc=>?_,fun lA=>?_⟩
 rotate_left
 · exact TT (r:=[_]) l6 (by omega) (by omega) (by omega) fun H7 l7=>K H7 l7.iZ
 have hn2:n<os.length:=by omega
 obtain⟨o,ho⟩:∃ o,os[n]?=some o:=⟨_,bU hn2⟩
 obtain⟨bb,oo,wH,uM⟩:=hsr.row (i:=n) (v:=o.c) (by rw[dR,ho];rfl)
 rw[wH,za,uM,za]
 refine ah1 l6 (by omega) (by omega) (by omega) (hos o (jV ho)) fun H7 S' l7=>?_
 have l7:Lx H H7 [yG pb c,kW c (2+10000*n+10000) S',lg c (1+1000*n+1000) (1+70000*n+70000) S',.box b1 (oK B L I iv fr sp lB) 28]:=l7
 refine Zg.mk (fun t H'=>t.1=.bool false/\Ext H7 H') ?_ ?_
 · rintro⟨t,u⟩ H8 ⟨ht,e8⟩
   simp only at ht
   subst ht
   rw[zh,ze,za,zE,zr (by omega)]
   have l9:=l7.ext e8
   rw[show 2+10000*n+10000=2+10000*(n+1) by omega,show 1+1000*n+1000=1+1000*(n+1) by omega,show 1+70000*n+70000=1+70000*(n+1) by omega]at l9
   exact⟨⟨n+1,S',by omega,rfl,l9⟩,by simp only[zu];exact yR (by omega)⟩
 · obtain⟨O1,h1⟩:=l7.get (i:=1) rfl
   obtain⟨O2,h2⟩:=l7.get (i:=2) rfl
   rw[zx,za,iW,zh]
   simp only[zl,zc,aR,Nat.reduceAdd,za,l7.ld (i:=0) (b:=pb) rfl,pr0,pr1,pr2,pr3]
   refine⟨_,L7 h1,_,Ng h2,?_⟩
   rw[zn,za,Ea,zh]
   refine⟨_,L8 h1,_,Nh h2,?_⟩
   rw[zn,za,Ea]
   exact fun H8 e8=>⟨rfl,e8⟩
end
end Go.Vc
